/- Lemmas for a claim about layer 2 (tree). No conditions but those they state. -/
import Derived.Test.YtbcmiempigoooaaGreatDoorNap
import Derived.Shelf.Strings.Cut
import Derived.Test.YtbcmiempigoooaaGreatDoorProg
import Derived.KernelRfl
import Derived.Lib.ItoaNum
set_option linter.all false
namespace Go.Proofs
open Go.Shelf
def Tryz.lays145_ren:Go.Shelf.Ren:=⟨fun|145=>76|220=>161|219=>230|217=>282|225=>283|224=>284|267=>285|266=>330|314=>331|n=>n,fun|9=>9|4=>4|59=>107|3=>3|5=>5|46=>266|146=>300|51=>285|n=>n,fun|1=>0|n=>n⟩
theorem Tryz.lays145:Go.Proofs.Lays.n145 Tryz.prog Tryz.lays145_ren:={
 mixed:=by kernel_rfl
 f145:=Tryz.func76.trans (congrArg some (by kernel_rfl))
 f217:=Tryz.func282.trans (congrArg some (by kernel_rfl))
 f219:=Tryz.func230.trans (congrArg some (by kernel_rfl))
 f220:=Tryz.func161.trans (congrArg some (by kernel_rfl))
 f224:=Tryz.func284.trans (congrArg some (by kernel_rfl))
 f225:=Tryz.func283.trans (congrArg some (by kernel_rfl))
 f266:=Tryz.func330.trans (congrArg some (by kernel_rfl))
 f267:=Tryz.func285.trans (congrArg some (by kernel_rfl))
 f314:=Tryz.func331.trans (congrArg some (by kernel_rfl))
 t3:=Tryz.underlying3
 a3:=Tryz.isAgg3
 z3:=Tryz.sizeOf3
 v3:=Tryz.zeroValue3
 t4:=Tryz.underlying4
 a4:=Tryz.isAgg4
 z4:=Tryz.sizeOf4
 v4:=Tryz.zeroValue4
 t5:=Tryz.underlying5
 a5:=Tryz.isAgg5
 z5:=Tryz.sizeOf5
 v5:=Tryz.zeroValue5
 t9:=Tryz.underlying9
 a9:=Tryz.isAgg9
 z9:=Tryz.sizeOf9
 v9:=Tryz.zeroValue9
 t46:=Tryz.underlying266
 a46:=Tryz.isAgg266
 z46:=Tryz.sizeOf266
 v46:=Tryz.zeroValue266
 t51:=Tryz.underlying285
 a51:=Tryz.isAgg285
 z51:=Tryz.sizeOf285
 v51:=Tryz.zeroValue285
 t59:=Tryz.underlying107
 a59:=Tryz.isAgg107
 z59:=Tryz.sizeOf107
 v59:=Tryz.zeroValue107
 t146:=Tryz.underlying300
 a146:=Tryz.isAgg300
 z146:=Tryz.sizeOf300
 v146:=Tryz.zeroValue300
 g1:=by kernel_rfl}
theorem Tryz.cut (s sep:ByteArray) (m:Int) (w:World) (a:s.size<4294967281) (c:w.cell? ⟨0,0,none⟩=some (.int .i64 m)):
  Calls Tryz.prog 76 #[.string s, .string sep] w fun e w'=>e= .returned (.tuple #[.string ⟨(Lib.cut s.data.toList sep.data.toList).1.toArray⟩, .string ⟨(Lib.cut s.data.toList sep.data.toList).2.1.toArray⟩, .bool (Lib.cut s.data.toList sep.data.toList).2.2])∧∃n,w'=w.drewN n:=Any.strings_Cut Tryz.lays145 s sep m w a c
end Go.Proofs
namespace Go.L02
open Go Go.Eng Go.RowKit
open Go.Proofs hiding encI
open Go.L01 (Bd Bs Own.same Qo SlK Tok fV jC jF jG jH jZ jo qB qM qS qe qh ql vp vt)
set_option maxRecDepth 100000
set_option maxHeartbeats 2000000
theorem qsM (c:UInt8):∀s:Bs,Lib.index s [c]=match s.findIdx? (fun b=>decide (b=c)) with|none=> -1|some k=>(k:Int)
 |[]=>by simp [Lib.index]
 |b::l=>by
  rw [Lib.index,List.findIdx?_cons];by_cases h:b=c
  ·subst h;simp [List.isPrefixOf]
  ·have a:¬c=b:=fun e=>h e.symm;rw [qsM c l];simp only [List.isPrefixOf,h,a,beq_iff_eq,Bool.and_true,if_false,decide_false,Bool.false_eq_true];cases l.findIdx? (fun b=>decide (b=c)) with
   |none=>rfl
   |some k=>
    simp only [Option.map_some];rw [if_neg (by omega)]
    push_cast
    rfl
theorem qFx (s:Bs):Lib.cut s [95]=match kZ s with|none=>(s,[],false)|some k=>(s.take k,s.drop (k+1),true):=by
 unfold Lib.cut kZ;rw [qsM];cases s.findIdx? (fun c=>decide (c=95)) with
 |none=>rfl
 |some k=>simp
def vY (w:World):Prop:=∃m,w.cell? ⟨0,0,none⟩=some (.int .i64 m)
theorem vY.ext {w w':World} (h:vY w) (a:qb w w'):vY w':=by
 obtain ⟨m,h⟩:=h;exact ⟨m,a.cell h⟩
theorem ql2 {w:World} (t:L01.G w) (I:vY w) (s:Bs) (z:s.length<4294967281):Calls Tryz.prog 24 #[.string (qc s)] w fun e w'=>e= .returned (.bool (zP s))∧qb w w':=by
 refine qB3 fun ρ r0=> ?_;simp -implicitDefEqProofs [qpV,r0];refine (qyF s w).mono ?_;rintro _ w1 ⟨rfl,j⟩;cases h:vP.contains s with
 |true=>
  have e:zP s=true:=by unfold zP;rw [h];rfl
  simp -implicitDefEqProofs [e];exact j
 |false=>
  have e:zP s=(match kZ s with|none=>qh s|some k=>qh (s.take k)&&qh (s.drop (k+1))):=by unfold zP;rw [h];rfl
  simp -implicitDefEqProofs [qpL,r0];obtain ⟨m,E⟩:=I.ext j;refine (Tryz.cut (qc s) (qc [95]) m w1 z E).mono ?_;rintro _ w2 ⟨rfl,n,rfl⟩;have a:qb w (w1.drewN n):=j.trans' ⟨rfl,rfl,rfl,Nat.le_refl _,fun _ _=>rfl⟩;have H:Lib.cut (qc s).data.toList (qc [95]).data.toList=_:=qFx s;rw [H];cases y:kZ s with
  |none=>
   rw [y] at e;simp -implicitDefEqProofs;refine (L01.Qx (t.ext a) s).mono ?_;rintro _ w3 ⟨rfl,c⟩;have g:zP s=qh s:=e;cases hn:qh s with
   |true=>
    rw [hn] at g;simp -implicitDefEqProofs [g];exact a.trans' c
   |false=>
    rw [hn] at g;simp -implicitDefEqProofs [g];exact a.trans' c
  |some k=>
   rw [y] at e;simp -implicitDefEqProofs;refine (L01.Qx (t.ext a) (s.take k)).mono ?_;rintro _ w3 ⟨rfl,c⟩;have g:zP s=(qh (s.take k)&&qh (s.drop (k+1))):=e;cases hn:qh (s.take k) with
   |true=>
    rw [hn] at g;simp -implicitDefEqProofs;refine (L01.Qx ((t.ext a).ext c) (s.drop (k+1))).mono ?_;rintro _ J ⟨rfl,o⟩;simp -implicitDefEqProofs [g];exact (a.trans' c).trans' o
   |false=>
    rw [hn] at g;simp -implicitDefEqProofs [g];exact a.trans' c
noncomputable def qiB:IR:=zq [za 6 (zQ false),za 6 (.ite (zI .geq (zv 0) (zv 1)) (zI .leq (zv 0) (zv 2)) (zQ false))] <| .ret
def qD9:List Nat:=[0,1,2,6]
theorem qD8:C3 127 15 qD9 qiB [.tmp 6]:=c3 [] Tryz.func127
noncomputable def qqv:IR:=zq [zm 9 1,zm 10 0,zE 11 (.call {callee:= .value (zt 9),args:= #[zt 10],argTypes:= #[9]}) 4,zm 4 11] <| .ret
noncomputable def qqw:IR:=zq [za 4 (zQ false),zm 5 1,zE 6 (.binOp .eql 34 (zt 5) (.const .nilFunc) 34) 4] <| .seq (.cond (zv 6) (zq [za 4 (zS .eql (zv 0) (.const (zs #[])))] <| .ret) .skip) (qqv)
def qCD:List Nat:=zV 12 [2,3,7,8]
theorem qCC:C2 225 12 qCD qqw [.tmp 4]:=c2 [] Tryz.func225
noncomputable def qqt:IR:=zq [za 15 (zo 2 (zv 1)),zc 16 22 #[zt 15] #[9] 4,zm 17 16,zg 17 true 19 (zo 1 (zv 1)),zh 17 true 20 24 #[zt 19] #[9] 4,za 2 (.ite (.ite (zv 17) (zv 20) (zQ false)) (zS .eql (zo 3 (zv 1)) (.const (zs #[]))) (zQ false))] <| .ret
noncomputable def qqu:IR:=zq [zE 1 (.box 44 (zt 0)) 0,za 2 (zQ false),za 5 (zS .eql (zo 2 (zv 1)) (.const (zs #[])))] <| .seq (.cond (zv 5) (zq [za 7 (zo 1 (zv 1)),zc 8 77 #[zt 7] #[9] 4,zm 9 8,zg 9 true 11 (zo 3 (zv 1)),zh 9 true 12 280 #[zt 11] #[9] 4,za 2 (.ite (zv 9) (zv 12) (zQ false))] <| .ret) .skip) (qqt)
def qCB:List Nat:=zV 21 [3,4,6,10,13,14,18]
theorem qCA:C1 226 27 qCB qqu [.tmp 2]:=c1 [] Tryz.func226
noncomputable def qhA:IR:=zq [za 2 (zQ false),za 5 (zS .eql (zv 0) (.const (zs #[]))),zg 5 false 6 (zv 0),zh 5 false 7 22 #[zt 6] #[9] 4,za 2 (.ite (zv 5) (zQ true) (zv 7))] <| .ret
def qBH:List Nat:=zV 8 [1,3,4]
theorem qBG:C1 280 9 qBH qhA [.tmp 2]:=c1 [] Tryz.func280
noncomputable def qqE:IR:=zq [zE 1 (.box 3 (zt 0)) 0,za 2 (.const .nilFunc),zE 3 (.makeFunc (.func 278) #[] #[zt 1]) 238,zm 2 3] <| .ret
def qCN:List Nat:=zV 4 []
theorem qCM:C1 220 4 qCN qqE [.tmp 2]:=c1 [] Tryz.func220
noncomputable def qpm:IR:=zq [za 3 (zQ false),zm 4 0,za 5 (zl (zv 1)),zc 6 127 #[zt 4,zO 0,zt 5] #[3,3,3] 4,zm 3 6] <| .ret
def qBN:List Nat:=zV 7 [2]
theorem qBM:C2 278 7 qBN qpm [.tmp 3]:=c2 [] Tryz.func278
noncomputable def qqB:IR:=zq [zE 1 (.box 5 (zt 0)) 0,za 2 (.const .nilFunc),zE 3 (.makeFunc (.func 279) #[] #[zt 1]) 98,zm 2 3] <| .ret
def qCH:List Nat:=zV 4 []
theorem qCG:C1 223 4 qCH qqB [.tmp 2]:=c1 [] Tryz.func223
noncomputable def qpl:IR:=zq [zE 2 (.box 44 (zt 0)) 0,za 3 (zQ false),za 3 (zB .eql (zo 0 (zv 2)) (zl (zv 1)))] <| .ret
def qBL:List Nat:=zV 4 []
theorem qBK:C2 279 8 qBL qpl [.tmp 3]:=c2 [] Tryz.func279
noncomputable def qqD:IR:=zq [za 2 (zQ false),zE 3 (.buildSlice 51 11 #[(0,(zY #[110,111,116])),(1,(zY #[43])),(2,(zY #[45])),(3,(zY #[42])),(4,(zY #[47])),(5,(zY #[109,111,100])),(6,(zY #[60])),(7,(zY #[60,61])),(8,(zY #[61])),(9,(zY #[97,110,100])),(10,(zY #[111,114]))]) 51,zm 4 0,zc 5 160 #[zt 3,zt 4] #[51,9] 4,zm 2 5] <| .ret
def qCL:List Nat:=zV 6 [1]
theorem qCK:C1 221 6 qCL qqD [.tmp 2]:=c1 [] Tryz.func221
noncomputable def qqC:IR:=zq [zE 1 (.box 44 (zt 0)) 0,za 2 (zQ false),za 3 (zo 0 (zv 1)),za 7 (.op1 (.conv .i64) (zv 3)),zc 8 127 #[zt 7,zO 21,zO 31] #[3,3,3] 4,za 2 (.ite (.ite (.ite (.ite (zv 8) (zQ true) (zB .eql (zv 3) (.const (zu 32)))) (zQ true) (zB .eql (zv 3) (.const (zu 34)))) (zQ true) (zB .eql (zv 3) (.const (zu 35)))) (zQ true) (zB .eql (zv 3) (.const (zu 37))))] <| .ret
def qCJ:List Nat:=zV 9 [4,5,6]
theorem qCI:C1 222 25 qCJ qqC [.tmp 2]:=c1 [] Tryz.func222
noncomputable def qnZ:IR:=zq [zE 1 (.box 44 (zt 0)) 0,za 2 (zQ false),za 5 (.op1 (.conv .i64) (zo 0 (zv 1))),zc 6 127 #[zt 5,zO 1,zO 10] #[3,3,3] 4,zm 2 6] <| .ret
def qAR:List Nat:=zV 7 [3,4]
theorem qAQ:C1 65 7 qAR qnZ [.tmp 2]:=c1 [] Tryz.func65
noncomputable def qnE:IR:=zq [zE 1 (.box 44 (zt 0)) 0,za 2 (zQ false),za 2 (zB .eql (zo 0 (zv 1)) (.const (zu 20)))] <| .ret
def qAz:List Nat:=zV 3 []
theorem qAy:C1 80 6 qAz qnE [.tmp 2]:=c1 [] Tryz.func80
noncomputable def qqK:IR:=zq [zE 2 (.box 241 (zt 0)) 0,za 4 (.const (.pointer none)),zm 5 1,za 7 (zL (zv 1)),za 9 (zL (zv 1)),za 10 (zf 4 (zv 2)),zw 239 (zt 10) (zt 5),za 11 (zf 6 (zv 2)),zw 3 (zt 11) (zt 7),za 12 (zf 7 (zv 2)),zw 3 (zt 12) (zt 9),zm 4 2] <| .ret
def qCT:List Nat:=zV 13 [3,6,8]
theorem qCS:C2 218 13 qCT qqK [.tmp 4]:=c2 [] Tryz.func218
noncomputable def qqJ:IR:=zq [za 2 (zQ false),za 2 (zQ true)] <| .ret
def qCR:List Nat:=[0,2]
theorem qCQ:C1 219 3 qCR qqJ [.tmp 2]:=c1 [] Tryz.func219
noncomputable def qaG:Code:=((Tryz.f147.body).getD .skip)
noncomputable def qiy:IR:=zq [zm 122 11,za 126 (zM 6 (zx 6 (zv 0) (zv 10))),zE 127 (.call {callee:= .value (zt 122),args:= #[zt 126],argTypes:= #[44]}) 4,za 128 (zn (zv 127))] <| .cond (zv 128) (zq [za 6 (zQ false)] <| .ret) .skip
noncomputable def qet:IR:= .reg [za 99 (zI .add (zv 99) (zK 1))]
noncomputable def qiv:IR:= .seq (.block 1 (zq [zm 101 99,za 103 (zl (zx 1 (zv 97) (zv 99))),zm 9 101,zm 10 103,za 11 (zo 5 (zN (zv 7))),za 114 (zI .lss (zv 9) (zL (zo 4 (zN (zv 7)))))] <| .seq (.cond (zv 114) (.reg [za 11 (zl (zx 1 (zo 4 (zN (zv 7))) (zv 9)))]) .skip) (qiy))) (qet)
noncomputable def qeq:IR:=zq [za 100 (zI .lss (zv 99) (zv 98))] <| .seq (.cond (zv 100) .skip (.exit 0)) (qiv)
noncomputable def qiu:IR:= .reg [za 152 (zI .add (zv 152) (zK 1))]
noncomputable def qrM:IR:= .seq (.block 4 (zq [zm 154 152,za 156 (zl (zx 1 (zv 150) (zv 152))),zm 12 154,zm 13 156,za 14 (zo 1 (zx 6 (zv 0) (zv 13))),zm 162 14,zc 163 77 #[zt 162] #[9] 4,za 176 (.ite (zn (zv 163)) (.ite (zS .neq (zv 14) (.const (zs #[]))) (zQ true) (zI .lss (zv 12) (zI .sub (zL (zo 5 (zv 4))) (zK 2)))) (zQ false))] <| .cond (zv 176) (zq [za 6 (zQ false)] <| .ret) .skip)) (qiu)
noncomputable def qir:IR:=zq [za 153 (zI .lss (zv 152) (zv 151))] <| .seq (.cond (zv 153) .skip (.exit 3)) (qrM)
noncomputable def qit:IR:=zq [za 6 (zQ true)] <| .ret
noncomputable def qaF:IR:=zq [za 131 (zo 0 (zv 4))] <| .seq (.block 2 (zq [za 132 (zB .eql (zv 131) (.const (zu 5)))] <| .cond (zv 132) (zq [za 134 (zM 6 (zv 4)),zc 135 226 #[zt 134] #[44] 4,zm 6 135] <| .ret) (zq [za 136 (zB .eql (zv 131) (.const (zu 6)))] <| .cond (zv 136) (zq [za 6 (.op2 (.bbin .eql) (zS .eql (zo 1 (zv 4)) (.const (zs #[110,111,116]))) (zI .eql (zL (zo 5 (zv 4))) (zK 1)))] <| .ret) (zq [za 146 (zB .eql (zv 131) (.const (zu 32)))] <| .cond (zv 146) (zq [za 150 (.op2 (.slLo 1) (zo 5 (zv 4)) (zK 1)),za 151 (zL (zv 150)),za 152 (zK 0)] <| .block 3 (.loop qir)) .skip)))) (qit)
noncomputable def qis:IR:=zq [za 97 (zo 5 (zv 4)),za 98 (zL (zv 97)),za 99 (zK 0)] <| .seq (.block 0 (.loop qeq)) (qaF)
noncomputable def qes:IR:= .seq (.cond (zv 95) (zq [za 6 (zQ false)] <| .ret) .skip) (qis)
noncomputable def qix:IR:= .seq (.drw [za 50 (zo 1 (zv 4)),za 54 (zo 0 (zN (zv 7))),zc 55 225 #[zt 50,zt 54] #[9,34] 4,za 57 (zn (zv 55)),zg 57 false 59 (zo 2 (zv 4)),zg 57 false 63 (zo 1 (zN (zv 7))),zh 57 false 64 225 #[zt 59,zt 63] #[9,34] 4,za 67 (.ite (zv 57) (zQ true) (zn (zv 64))),zg 67 false 69 (zo 3 (zv 4)),zg 67 false 73 (zo 2 (zN (zv 7))),zh 67 false 74 225 #[zt 69,zt 73] #[9,34] 4,za 81 (.ite (.ite (zv 67) (zQ true) (zn (zv 74))) (zQ true) (zn (zv 8))),zg 81 false 84 (zL (zo 5 (zv 4))),zg 81 false 88 (zo 6 (zN (zv 7))),zg 81 false 92 (zo 7 (zN (zv 7))),zh 81 false 93 127 #[zt 84,zt 88,zt 92] #[3,3,3] 4,za 95 (.ite (zv 81) (zQ true) (zn (zv 93)))]) (qes)
noncomputable def qiw:IR:=zq [za 8 (zI .eql (zo 4 (zv 4)) (zK 0)),za 40 (zo 3 (zN (zv 7))),zE 41 (.binOp .neq 238 (zt 40) (.const .nilFunc) 238) 4] <| .seq (.cond (zv 41) (.raw (qN qaG 6)) .skip) (qix)
noncomputable def qrN:IR:= .seq (.raw (qN qaG 3)) (qiw)
noncomputable def qer:IR:= .seq (.cond (zv 27) (zq [za 6 (zQ false)] <| .ret) .skip) (qrN)
noncomputable def qrO:IR:=zq [zE 4 (.box 44 (zt 1)) 0,za 6 (zQ false)] <| .seq (.raw (qN qaG 1)) (qer)
def xR:List Nat:=[0,1,2,4,6,7,8,9,10,11,12,13,14,15,16,17,18,19,20,21,22,23,24,25,26,27,28,29,30,31,32,33,40,41,42,43,44,45,46,47,48,50,54,55,57,59,63,64,67,69,73,74,81,84,88,92,93,95,97,98,99,100,101,103,114,122,126,127,128,131,132,134,135,136,146,150,151,152,153,154,156,162,163,176]
theorem qDO:C3 147 178 xR qrO [.tmp 6]:=c3 [6,3,1] Tryz.func147
noncomputable def qiq:OT:=zy 15 (zf 0 (zv 4))<|zy 16 (zl (zv 15))<|zy 17 (.op1 (.conv .i64) (zv 16))<|zy 18 (zI .geq (zv 17) (zK 38))<|zy 19 (zv 18)<| .take (some (19,false)) 20 (zv 2)<| .take (some (19,false)) 21 (zf 0 (zv 4))<| .take (some (19,false)) 22 (zl (zv 21))<| .take (some (19,false)) 23 (zN (zv 20))<| .step (.eff (some (19,false)) (some 24) (.indexAddr 175 (zt 23) (zt 22)) 0) false<| .step (zg 19 false 25 (zl (zv 24))) false<| .step (.eff (some (19,false)) (some 26) (.binOp .eql 174 (zt 25) (.const (.pointer none)) 174) 4) false<| .step (za 27 (.ite (zv 19) (zQ true) (zv 26))) false<| .done
theorem qDN:vF Tryz.prog 178 xR 9 (qN qaG 1)=some qiq:=by kernel_rfl
noncomputable def qrL:OT:=zy 28 (zv 2)<|zy 29 (zf 0 (zv 4))<|zy 30 (zl (zv 29))<|zy 31 (zN (zv 28))<| .step (zE 32 (.indexAddr 175 (zt 31) (zt 30)) 0) false<| .step (za 33 (zl (zv 32))) false<| .step (zm 7 33) false<| .done
theorem qDM:vF Tryz.prog 178 xR 4 (qN qaG 3)=some qrL:=by kernel_rfl
noncomputable def qrK:OT:=zy 42 (zv 7)<|zy 43 (zN (zv 42))<|zy 44 (zf 3 (zv 43))<|zy 45 (zl (zv 44))<|zy 46 (zf 4 (zv 4))<|zy 47 (zl (zv 46))<| .step (zE 48 (.call {callee:= .value (zt 45),args:= #[zt 47],argTypes:= #[3]}) 4) false<| .step (zm 8 48) false<| .done
theorem qDL:vF Tryz.prog 178 xR 6 (qN qaG 6)=some qrK:=by kernel_rfl
noncomputable def qnc:IR:= .reg [za 34 (.op4 (.slMax 1) (zv 3) (zK 0) (zv 6) (zv 6)),zm 35 4,zE 36 (.buildSlice 40 1 #[(0,(zt 35))]) 40,zp 37 #[zt 34,zt 36] #[40,40] 40,zm 3 37]
noncomputable def qdT:IR:= .seq (.cond (zv 30) (zq [za 2 (zQ false)] <| .ret) .skip) (qnc)
noncomputable def qnb:IR:= .reg [za 9 (zI .add (zv 9) (zK 1))]
noncomputable def qna:IR:= .seq (.block 1 (zq [zm 11 9,za 13 (zM 6 (zx 6 (zv 7) (zv 9))),zA 5 44,zm 4 11,zw 44 (zt 5) (zt 13),za 6 (zI .sub (zL (zv 3)) (zL (zo 5 (zv 5))))] <| .seq (.drw [za 22 (zI .lss (zv 6) (zK 0)),zg 22 false 25 (.op2 (.slLo 1) (zv 3) (zv 6)),zg 22 false 27 (zo 5 (zv 5)),zh 22 false 28 50 #[zt 25,zt 27] #[40,40] 4,za 30 (.ite (zv 22) (zQ true) (zn (zv 28)))]) (qdT))) (qnb)
noncomputable def qg9:IR:=zq [za 10 (zI .lss (zv 9) (zv 8))] <| .seq (.cond (zv 10) .skip (.exit 0)) (qna)
noncomputable def qm9:IR:=zq [za 2 (zI .eql (zL (zv 3)) (zK 1))] <| .ret
noncomputable def qnd:IR:=zq [za 2 (zQ false),za 3 (.const (.slice none 0 0)),zm 7 0,za 8 (zL (zv 7)),za 9 (zK 0)] <| .seq (.block 0 (.loop qg9)) (qm9)
def qAm:List Nat:=zV 38 [1,12,14,15,16,17,18,19,20,21,23,24,26,29,31,32,33]
theorem qAl:C1 98 42 qAm qnd [.tmp 2]:=c1 [] Tryz.func98
noncomputable def qrP:IR:=zq [zE 3 (.box 44 (zt 0)) 0,za 4 (zQ false),za 5 (zl (zv 1)),za 6 (zM 6 (zv 3)),zc 7 147 #[zt 5,zt 6,zt 2] #[29,44,178] 4,za 4 (zn (zv 7))] <| .ret
def qDQ:List Nat:=zV 8 []
theorem qDP:C3 146 9 qDQ qrP [.tmp 4]:=c3 [] Tryz.func146
noncomputable def qrQ:IR:=zq [za 4 (zQ false),zm 5 0,zm 6 1,zc 7 224 #[zt 5,zt 6] #[29,98] 3,za 4 (zI .geq (zv 7) (zK 0))] <| .ret
def qDS:List Nat:=zV 8 [2,3]
theorem qDR:C2 145 9 qDS qrQ [.tmp 4]:=c2 [] Tryz.func145
noncomputable def qqz:IR:= .reg [za 8 (zI .add (zv 8) (zK 1))]
noncomputable def qqy:IR:= .seq (.block 1 (zq [zm 5 8,zm 11 1,za 15 (zM 6 (zx 6 (zv 0) (zv 5))),zE 16 (.call {callee:= .value (zt 11),args:= #[zt 15],argTypes:= #[44]}) 4] <| .cond (zv 16) (zq [zm 4 5] <| .ret) .skip)) (qqz)
noncomputable def qh1:IR:=zq [za 9 (zI .lss (zv 8) (zv 7))] <| .seq (.cond (zv 9) .skip (.exit 0)) (qqy)
noncomputable def qqx:IR:=zq [za 4 (.const (.int .i64 (-1)))] <| .ret
noncomputable def qqA:IR:=zq [za 4 (zK 0),za 7 (zL (zv 0)),za 8 (zK 0)] <| .seq (.block 0 (.loop qh1)) (qqx)
def qCF:List Nat:=zV 17 [2,3,6,10,12,13,14]
theorem qCE:C2 224 19 qCF qqA [.tmp 4]:=c2 [] Tryz.func224
noncomputable def qn0:IR:=zq [zc 26 144 #[] #[] 175,zA 5 175,zw 175 (zt 5) (zt 26),za 27 (zl (zv 2)),zE 28 (.makeFunc (.func 146) #[] #[zt 2,zt 5]) 98,zc 29 145 #[zt 27,zt 28] #[29,98] 4,za 4 (zn (zv 29))] <| .ret
noncomputable def qn1:IR:=zq [zE 2 (.box 29 (zt 0)) 0,za 4 (zQ false),za 7 (zL (zl (zv 2))),zc 8 127 #[zt 7,zO 1,zO 400] #[3,3,3] 4,za 10 (zn (zv 8)),zg 10 false 11 (zl (zv 2)),zh 10 false 12 98 #[zt 11] #[29] 4,za 15 (.ite (zv 10) (zQ true) (zn (zv 12))),zg 15 false 16 (zv 1),zg 15 false 22 (zM 6 (zx 6 (zl (zv 2)) (zI .sub (zL (zl (zv 2))) (zK 1)))), .eff (some (15,false)) (some 23) (.call {callee:= .value (zt 16),args:= #[zt 22],argTypes:= #[44]}) 4,za 25 (.ite (zv 15) (zQ true) (zn (zv 23)))] <| .seq (.cond (zv 25) (zq [za 4 (zQ false)] <| .ret) .skip) (qn0)
def qAT:List Nat:=zV 30 [3,6,9,13,14,17,18,19,20,21,24]
theorem qAS:C2 64 31 qAT qn1 [.tmp 4]:=c2 [] Tryz.func64
noncomputable def qpo:IR:=zq [za 2 (zK 0)] <| .ret
noncomputable def qpD:IR:=zq [za 2 (zK 0),zm 3 0,zc 4 64 #[zt 3,(.func 80)] #[29,98] 4,za 5 (zn (zv 4))] <| .seq (.cond (zv 5) (zq [za 2 (zK 21)] <| .ret) .skip) (qpo)
def qBP:List Nat:=zV 6 [1]
theorem qBO:C1 26 6 qBP qpD [.tmp 2]:=c1 [] Tryz.func26
noncomputable def qnu:IR:=zq [za 4 (zK 0)] <| .ret
noncomputable def qnt:IR:=zq [zm 11 1,za 14 (zI .sub (zL (zv 0)) (zK 1)),zc 15 127 #[zt 11,zO 0,zt 14] #[3,3,3] 4,za 16 (zn (zv 15))] <| .seq (.cond (zv 16) (zq [za 4 (zK 1)] <| .ret) .skip) (qnu)
noncomputable def qnv:IR:=zq [za 4 (zK 0),zm 6 0,zc 7 26 #[zt 6] #[29] 24,zm 5 7,za 9 (zI .neq (zv 5) (zK 0))] <| .seq (.cond (zv 9) (zq [zm 4 5] <| .ret) .skip) (qnt)
def qAv:List Nat:=zV 17 [2,3,8,10,12,13]
theorem qAu:C2 84 17 qAv qnv [.tmp 4]:=c2 [] Tryz.func84
noncomputable def qnr:IR:= .reg [za 14 (zI .add (zv 14) (zK 1))]
noncomputable def qnq:IR:= .seq (.block 1 (.reg [za 7 (zl (zx 1 (zv 12) (zv 14))),zm 18 5,zm 19 0,zm 20 7,zc 21 85 #[zt 19,zt 20] #[29,3] 3,za 5 (zI .add (zv 18) (zv 21))])) (qnr)
noncomputable def qhc:IR:=zq [za 15 (zI .lss (zv 14) (zv 13))] <| .seq (.cond (zv 15) .skip (.exit 0)) (qnq)
noncomputable def qnp:IR:=zq [zm 4 5] <| .ret
noncomputable def qns:IR:=zq [za 4 (zK 0),za 5 (zK 1),za 12 (zo 5 (zx 6 (zv 0) (zv 1))),za 13 (zL (zv 12)),za 14 (zK 0)] <| .seq (.block 0 (.loop qhc)) (qnp)
def qAt:List Nat:=zV 22 [2,3,6,8,9,10,11,16,17]
theorem qAs:C2 85 25 qAt qns [.tmp 4]:=c2 [] Tryz.func85
noncomputable def qoU:IR:=zq [zm 13 0,zm 14 1,zc 15 85 #[zt 13,zt 14] #[29,3] 3,zm 4 15,za 5 (zK 0)] <| .ret
noncomputable def qoW:IR:=zq [za 4 (zK 0),za 5 (zK 0),zm 7 0,zm 8 1,zc 9 84 #[zt 7,zt 8] #[29,3] 24,zm 6 9,za 11 (zI .neq (zv 6) (zK 0))] <| .seq (.cond (zv 11) (zq [zm 12 6,za 4 (zK 0),zm 5 12] <| .ret) .skip) (qoU)
def qBl:List Nat:=zV 16 [2,3,10]
theorem qBk:C2 31 16 qBl qoW [.tmp 4, .tmp 5]:=c2 [] Tryz.func31
noncomputable def qo2:IR:= .reg [za 33 (zI .add (zv 33) (zK 1))]
noncomputable def qo1:IR:= .seq (.block 3 (.reg [za 9 (zl (zx 1 (zv 31) (zv 33))),zm 37 5,zm 38 9,zm 39 6,za 40 (zx 1 (zv 37) (zv 38)),zw 3 (zt 40) (zt 39)])) (qo2)
noncomputable def qhy:IR:=zq [za 34 (zI .lss (zv 33) (zv 32))] <| .seq (.cond (zv 34) .skip (.exit 2)) (qo1)
noncomputable def qo0:IR:= .reg [za 25 (zI .add (zv 25) (zK 1))]
noncomputable def qoZ:IR:= .seq (.block 1 (zq [zm 27 25,za 29 (zM 6 (zx 6 (zv 23) (zv 25))),zA 7 44,zm 6 27,zw 44 (zt 7) (zt 29),za 31 (zo 5 (zv 7)),za 32 (zL (zv 31)),za 33 (zK 0)] <| .block 2 (.loop qhy))) (qo0)
noncomputable def qhx:IR:=zq [za 26 (zI .lss (zv 25) (zv 24))] <| .seq (.cond (zv 26) .skip (.exit 0)) (qoZ)
noncomputable def qoY:IR:=zq [zm 2 5,za 3 (zK 0)] <| .ret
noncomputable def qoX:IR:=zq [za 16 (zL (zv 0)),zE 17 (.makeSlice 40 (zt 16) (zt 16)) 40,zm 5 17,za 22 (zx 1 (zv 5) (zI .sub (zL (zv 0)) (zK 1))), .eff none none (.store 3 (zt 22) (.const (.int .i64 (-1)))) 0,zm 23 0,za 24 (zL (zv 23)),za 25 (zK 0)] <| .seq (.block 0 (.loop qhx)) (qoY)
noncomputable def qpi:IR:=zq [za 2 (.const (.slice none 0 0)),za 3 (zK 0),zm 10 0,zc 11 26 #[zt 10] #[29] 24,zm 4 11,za 13 (zI .neq (zv 4) (zK 0))] <| .seq (.cond (zv 13) (zq [zm 14 4,za 2 (.const (.slice none 0 0)),zm 3 14] <| .ret) .skip) (qoX)
def qBp:List Nat:=zV 41 [1,8,12,15,18,19,20,21,28,30,35,36]
theorem qBo:C1 30 44 qBp qpi [.tmp 2, .tmp 3]:=c1 [] Tryz.func30
noncomputable def qm6:Code:=((Tryz.f99.body).getD .skip)
noncomputable def qm5:IR:= .reg [za 14 (zI .add (zv 14) (zK 1))]
noncomputable def qm4:IR:= .seq (.block 1 (zq [zm 16 14,za 18 (zl (zx 1 (zv 12) (zv 14))),zm 5 16,zm 6 18] <| .raw (qN qm6 5))) (qm5)
noncomputable def qg8:IR:=zq [za 15 (zI .lss (zv 14) (zv 13))] <| .seq (.cond (zv 15) .skip (.exit 0)) (qm4)
noncomputable def qm3:IR:=zq [za 27 (zM 6 (zv 2)),zw 44 (zt 4) (zt 27)] <| .ret
noncomputable def qm8:IR:=zq [zE 2 (.box 44 (zt 0)) 0,zA 4 44,za 8 (zo 5 (zv 2)),zc 9 192 #[zt 8] #[40] 40,za 10 (zf 5 (zv 2)),zw 40 (zt 10) (zt 9),za 12 (zo 5 (zv 2)),za 13 (zL (zv 12)),za 14 (zK 0)] <| .seq (.block 0 (.loop qg8)) (qm3)
def qm7:List Nat:=zV 28 [3,7,11,17,26]
theorem qAk:C2 99 28 qm7 qm8 [.cellN 4 6]:=c2 [5] Tryz.func99
noncomputable def qm2:OT:=zy 19 (zf 5 (zv 2))<|zy 20 (zl (zv 19))<|zy 21 (zv 5)<|zy 22 (zv 1)<|zy 23 (zv 6)<| .step (zE 24 (.call {callee:= .value (zt 22),args:= #[zt 23],argTypes:= #[3]}) 3) true<| .step (za 25 (zx 1 (zv 20) (zv 21))) false<| .step (zw 3 (zt 25) (zt 24)) false<| .done
theorem qAj:vF Tryz.prog 28 qm7 6 (qN qm6 5)=some qm2:=by kernel_rfl
noncomputable def qsI:IR:=zq [za 3 (zK 0),za 3 (zI .sub (zv 0) (zl (zv 1)))] <| .ret
def qEw:List Nat:=zV 4 [2]
theorem qEv:C2 105 7 qEw qsI [.tmp 3]:=c2 [] Tryz.func105
noncomputable def qoM:IR:= .reg [za 29 (zI .add (zv 29) (zK 1))]
noncomputable def qoL:IR:= .seq (.block 1 (.reg [za 32 (zM 6 (zx 6 (zv 27) (zv 29))),zA 10 44,zw 44 (zt 10) (zt 32),zm 33 8,za 34 (zM 6 (zv 10)),zE 35 (.makeFunc (.func 105) #[] #[zt 7]) 140,zc 36 99 #[zt 34,zt 35] #[44,140] 44,zE 37 (.buildSlice 29 1 #[(0,(zt 36))]) 29,zp 38 #[zt 33,zt 37] #[29,29] 29,zm 8 38])) (qoM)
noncomputable def qhw:IR:=zq [za 30 (zI .lss (zv 29) (zv 28))] <| .seq (.cond (zv 30) .skip (.exit 0)) (qoL)
noncomputable def qoK:IR:=zq [zm 4 8,za 5 (zK 0)] <| .ret
noncomputable def qoJ:IR:=zq [za 18 (zI .add (zv 1) (zK 1)),zm 19 0,zm 20 1,zc 21 85 #[zt 19,zt 20] #[29,3] 3,za 22 (zI .sub (zv 18) (zv 21)),zA 7 3,zw 3 (zt 7) (zt 22),za 8 (.const (.slice none 0 0)),za 27 (.op3 (.slLoHi 6) (zv 0) (zl (zv 7)) (zI .add (zv 1) (zK 1))),za 28 (zL (zv 27)),za 29 (zK 0)] <| .seq (.block 0 (.loop qhw)) (qoK)
noncomputable def qoN:IR:=zq [za 4 (.const (.slice none 0 0)),za 5 (zK 0),zm 11 0,zm 12 1,zc 13 84 #[zt 11,zt 12] #[29,3] 24,zm 6 13,za 15 (zI .neq (zv 6) (zK 0))] <| .seq (.cond (zv 15) (zq [zm 16 6,za 4 (.const (.slice none 0 0)),zm 5 16] <| .ret) .skip) (qoJ)
def qBf:List Nat:=zV 39 [2,3,9,14,17,23,24,25,26,31]
theorem qBe:C2 43 41 qBf qoN [.tmp 4, .tmp 5]:=c2 [] Tryz.func43
noncomputable def qsw:IR:=zq [zE 1 (.box 9 (zt 0)) 0,za 2 (.const .nilFunc),zE 3 (.makeFunc (.func 193) #[] #[zt 1]) 145,zm 2 3] <| .ret
def qEq:List Nat:=zV 4 []
theorem qEp:C1 109 4 qEq qsw [.tmp 2]:=c1 [] Tryz.func109
noncomputable def qia:IR:=zq [zm 50 0,za 52 (zo 1 (zv 6)),zE 53 (.call {callee:= .value (zt 50),args:= #[zt 52],argTypes:= #[9]}) 4,za 54 (zn (zv 53))] <| .cond (zv 54) (.ret) .skip
noncomputable def qcb:IR:= .reg [za 14 (zI .add (zv 14) (zK 1))]
noncomputable def qq1:IR:= .seq (.block 1 (zq [zm 16 14,za 18 (zM 3 (zx 3 (zv 12) (zv 14))),zA 6 53,zm 5 16,zw 53 (zt 6) (zt 18)] <| .seq (.block 2 (zq [za 19 (zB .neq (zo 0 (zv 6)) (.const (zu 1)))] <| .cond (zv 19) (.exit 1) (zq [za 23 (.ite (zI .lss (zI .add (zv 5) (zK 1)) (zL (zv 3))) (zS .eql (zo 1 (zx 3 (zv 3) (zI .add (zv 5) (zK 1)))) (.const (zs #[58]))) (zQ false))] <| .cond (zv 23) (.exit 1) (zq [za 38 (.ite (zI .gtr (zv 5) (zK 0)) (zS .eql (zo 1 (zx 3 (zv 3) (zI .sub (zv 5) (zK 1)))) (.const (zs #[63]))) (zQ false))] <| .cond (zv 38) (.exit 1) .skip)))) (qia))) (qcb)
noncomputable def qh9:IR:=zq [za 15 (zI .lss (zv 14) (zv 13))] <| .seq (.cond (zv 15) .skip (.exit 0)) (qq1)
noncomputable def qq0:IR:=zq [zm 12 3,za 13 (zL (zv 12)),za 14 (zK 0)] <| .block 0 (.loop qh9)
noncomputable def qib:IR:=zq [za 8 (zl (zv 1)),zc 9 53 #[zt 8] #[9] 49,zm 7 9,za 10 (ze 0 (zv 7)),za 11 (ze 1 (zv 7)),zA 4 26,zm 3 10,zw 26 (zt 4) (zt 11)] <| .seq (.raw (.label 0)) (qq0)
def Q6:List Nat:=[0,1,3,4,5,6,7,8,9,10,11,12,13,14,15,16,18,19,23,38,50,52,53,54]
theorem qC2:(qT Tryz.prog Tryz.f193.ntmps Q6 [] (qbl (Tryz.f193.body.getD .skip))).map IR.norm=some qib:=by kernel_rfl
theorem qC3 {v0 a:Value} {w:World} {R:Ending→World→Prop} (h:∀ρ:qa,ρ 0=v0→ρ 1=a→qib.wp ⟨Tryz.prog,56,Q6,[]⟩ (qw [] R) (qF [] R) ρ w):
  Calls Tryz.prog 193 #[v0,a] w R:=by
 obtain ⟨k,g,j⟩:=Option.map_eq_some_iff.1 qC2;exact qjp (args:= #[v0,a]) Tryz.func193 (c:=(qbl (Tryz.f193.body.getD .skip))) rfl g j (by kernel_rfl) (show vc Tryz.prog Q6 Tryz.f193.results.toList=some [] by kernel_rfl) (Nat.le_of_ble_eq_true rfl) (h _ rfl rfl)
noncomputable def qoq:Code:=((Tryz.f48.body).getD .skip)
noncomputable def qb5:Code:=(QI qoq).getD 0 .skip
noncomputable def qb4:Code:=(QI qoq).getD 1 .skip
noncomputable def qd1:IR:= .block 4 (zq [za 28 (.ite (zB .eql (zo 0 (zv 7)) (.const (zu 5))) (zS .eql (zo 2 (zv 7)) (.const (zs #[]))) (zQ false))] <| .cond (zv 28) (.reg [za 37 (zl (zv 5)),za 39 (zo 1 (zv 7)), .eff none none (.mapUpdate 144 (zt 37) (zt 39) (.const (zb true))) 0]) (zq [za 40 (zB .eql (zo 0 (zv 7)) (.const (zu 5)))] <| .cond (zv 40) (zq [za 45 (zo 2 (zv 7)),zc 46 109 #[zt 45] #[9] 145] <| .block 5 (.raw qb4)) .skip))
noncomputable def qhr:IR:= .reg [za 18 (zI .add (zv 18) (zK 1))]
noncomputable def qop:IR:= .seq (.block 1 (zq [za 21 (zM 6 (zx 6 (zv 16) (zv 18))),zA 7 44,zw 44 (zt 7) (zt 21),za 23 (zo 3 (zv 7)),zc 24 109 #[zt 23] #[9] 145] <| .seq (.block 2 (.raw qb5)) (qd1))) (qhr)
noncomputable def qhp:IR:=zq [za 19 (zI .lss (zv 18) (zv 17))] <| .seq (.cond (zv 19) .skip (.exit 0)) (qop)
noncomputable def qhq:IR:=zq [za 51 (zl (zv 5)),zc 52 111 #[zt 51] #[144] 148,zc 53 110 #[zt 52] #[148] 51,zm 2 53,za 3 (zK 0)] <| .ret
noncomputable def qoo:IR:=zq [zE 15 (.makeMap 144 none) 144,zA 5 144,zw 144 (zt 5) (zt 15),zm 16 0,za 17 (zL (zv 16)),za 18 (zK 0)] <| .seq (.block 0 (.loop qhp)) (qhq)
noncomputable def qhs:IR:=zq [za 2 (.const (.slice none 0 0)),za 3 (zK 0),zm 10 0,zc 11 26 #[zt 10] #[29] 24,zm 4 11,za 13 (zI .neq (zv 4) (zK 0))] <| .seq (.cond (zv 13) (zq [zm 14 4,za 2 (.const (.slice none 0 0)),zm 3 14] <| .ret) .skip) (qoo)
def wl:List Nat:=zV 54 [1,6,12,20,22,29,30,31,32,33,34,35,36,38,41,42,43,44,50]
noncomputable def qou:IR:= .reg [zm 8 25]
noncomputable def qos:IR:= .block 3 (.reg [za 26 (zl (zv 5)),zm 27 8, .eff none none (.mapUpdate 144 (zt 26) (zt 27) (.const (zb true))) 0])
theorem qA5:∃A B,qb5= .rangeFunc (.tmp 24) #[25] A B∧Part Tryz.prog 54 wl A qou∧Part Tryz.prog 54 wl B qos:=
 ⟨rfA qb5,rfB qb5,by kernel_rfl,⟨by kernel_rfl,by kernel_rfl⟩,⟨by kernel_rfl,by kernel_rfl⟩⟩
noncomputable def qot:IR:= .reg [zm 9 47]
noncomputable def qor:IR:= .block 6 (.reg [za 48 (zl (zv 5)),zm 49 9, .eff none none (.mapUpdate 144 (zt 48) (zt 49) (.const (zb true))) 0])
theorem qA4:∃A B,qb4= .rangeFunc (.tmp 46) #[47] A B∧Part Tryz.prog 54 wl A qot∧Part Tryz.prog 54 wl B qor:=
 ⟨rfA qb4,rfB qb4,by kernel_rfl,⟨by kernel_rfl,by kernel_rfl⟩,⟨by kernel_rfl,by kernel_rfl⟩⟩
theorem qA6:(qT Tryz.prog Tryz.f48.ntmps wl [] (Tryz.f48.body.getD .skip)).map IR.norm=some qhs:=by kernel_rfl
theorem qA7 {v0:Value} {w:World} {R:Ending→World→Prop} (h:∀ρ:qa,ρ 0=v0→ρ gS= .tuple #[]→qhs.wp ⟨Tryz.prog,54,wl,z6⟩ (jD Tryz.prog [.tmp 2, .tmp 3] R .returning) (vC Tryz.prog [.tmp 2, .tmp 3] R) ρ w):
  Calls Tryz.prog 48 #[v0] w R:=by
 obtain ⟨j,a,g⟩:=Option.map_eq_some_iff.1 qA6;exact qeX (args:= #[v0]) Tryz.func48 (c:=(Tryz.f48.body.getD .skip)) rfl a g (by kernel_rfl) (show vc Tryz.prog wl Tryz.f48.results.toList=some [.tmp 2, .tmp 3] by kernel_rfl) (Nat.le_of_ble_eq_true rfl) (h _ rfl rfl)
@[simp] theorem qFP:qf Tryz.prog 127=true:=by kernel_rfl
@[simp] theorem qIW:qf Tryz.prog 22=true:=by kernel_rfl
@[simp] theorem qIR:qf Tryz.prog 24=true:=by kernel_rfl
@[simp] theorem qIQ:qf Tryz.prog 280=true:=by kernel_rfl
@[simp] theorem qIV:qf Tryz.prog 220=true:=by kernel_rfl
@[simp] theorem qIU:qf Tryz.prog 223=true:=by kernel_rfl
@[simp] theorem qjo:qf Tryz.prog 225=true:=by kernel_rfl
@[simp] theorem qIS:qf Tryz.prog 226=true:=by kernel_rfl
@[simp] theorem qFO:qf Tryz.prog 218=true:=by kernel_rfl
@[simp] theorem qIY:qf Tryz.prog 145=true:=by kernel_rfl
@[simp] theorem qIX:qf Tryz.prog 147=true:=by kernel_rfl
@[simp] theorem qIP:qf Tryz.prog 98=true:=by kernel_rfl
@[simp] theorem qIT:qf Tryz.prog 224=true:=by kernel_rfl
@[simp] theorem qIZ:qf Tryz.prog 144=true:=by kernel_rfl
theorem qar (w:World) (n a b:Int):Calls Tryz.prog 127 #[.int .i64 n, .int .i64 a, .int .i64 b] w fun e w'=>e= .returned (.bool (decide (a≤n)&&decide (n≤b)))∧w'=w:=by
 refine qD8 fun ρ r0 r1 r2=> ?_;by_cases h:a≤n
 ·simp -implicitDefEqProofs [qiB,r0,r1,r2,h]
 ·simp -implicitDefEqProofs [qiB,r0,r1,r2,h]
theorem k8 {n:Nat} (h:n<256):IntKind.i64.wrap (n:Int)=(n:Int):=qp (by omega)
def ju (x:NV):Value:= .agg (qi x).toArray
theorem kf {x:NV} (h:qo x.kv=true):(ju x).cells=(qi x).toArray:=by
 simp [ju,qi,Value.cells,vl h]
section
variable {w:World} {x:NV}
theorem qyJ (h:qo x.kv=true) (g:x.nd.d.kind<256):Calls Tryz.prog 65 #[ju x] w fun e w'=>e= .returned (.bool (qj x.nd.d.kind))∧qb w w':=by
 refine qAQ fun ρ r0=> ?_;simp -implicitDefEqProofs [qnZ];refine vv fun X w1 j c a _=> ?_;rw [show qd ρ (.tmp 0)=ju x by simp [r0],kf h] at a;have c0:w1.cell? ⟨X,0,none⟩=some (.int .u8 (x.nd.d.kind:Int)):=by rw [a.cell];rfl
 simp -implicitDefEqProofs [c0,k8 g];refine (qar w1 _ 1 10).mono ?_;rintro _ _ ⟨rfl,rfl⟩;simp -implicitDefEqProofs;refine ⟨?_,c⟩;simp only [qj];congr 1
 ·exact decide_eq_decide.2 (by omega)
 ·exact decide_eq_decide.2 (by omega)
theorem qyK (g:qo x.kv=true):Calls Tryz.prog 80 #[ju x] w fun e w'=>e= .returned (.bool (qt 20 x.nd.d.kind))∧qb w w':=by
 refine qAy fun ρ r0=> ?_;simp -implicitDefEqProofs [qnE];refine vv fun X w1 h c a _=> ?_;rw [show qd ρ (.tmp 0)=ju x by simp [r0],kf g] at a;have c0:w1.cell? ⟨X,0,none⟩=some (.int .u8 (x.nd.d.kind:Int)):=by rw [a.cell];rfl
 simp -implicitDefEqProofs [c0];refine ⟨?_,c⟩;simp only [qt];exact decide_eq_decide.2 (by omega)
theorem qyG (z:qo x.kv=true) (g:x.nd.d.kind<256):Calls Tryz.prog 222 #[ju x] w fun e w'=>e= .returned (.bool (kY x.nd.d.kind))∧qb w w':=by
 refine qCI fun ρ r0=> ?_;simp -implicitDefEqProofs [qqC];refine vv fun X w1 H c a _=> ?_;rw [show qd ρ (.tmp 0)=ju x by simp [r0],kf z] at a;have c0:w1.cell? ⟨X,0,none⟩=some (.int .u8 (x.nd.d.kind:Int)):=by rw [a.cell];rfl
 simp -implicitDefEqProofs [c0,k8 g];refine (qar w1 _ 21 31).mono ?_;rintro _ _ ⟨rfl,rfl⟩;generalize x.nd.d.kind=k at g⊢;by_cases o:(21:Int)≤(k:Int)<;>by_cases E:(k:Int)≤31<;>by_cases h:(k:Int)=32<;>by_cases j:(k:Int)=34<;>by_cases t:(k:Int)=35<;>by_cases y:(k:Int)=37<;>
  first
  |(exfalso;omega)
  |(simp -implicitDefEqProofs [o,E,h,j,t,y]
    refine ⟨?_,c⟩;unfold kY
    first
    |(simp;omega)
    |(rw [Bool.eq_iff_iff];simp;omega))
theorem qyH {P:Nat} {k:Nat} (h:qo x.kv=true) (g:Blk w P #[.int .u8 (k:Int)] 5):Calls Tryz.prog 279 #[ju x, .pointer (some ⟨P,0,none⟩)] w fun e w'=>e= .returned (.bool (qt k x.nd.d.kind))∧qb w w':=by
 refine qBK fun ρ r0 r1=> ?_;simp -implicitDefEqProofs [qpl];refine vv fun X w1 j c a _=> ?_;rw [show qd ρ (.tmp 0)=ju x by simp [r0],kf h] at a;have c0:w1.cell? ⟨X,0,none⟩=some (.int .u8 (x.nd.d.kind:Int)):=by rw [a.cell];rfl
 have c1:w1.cell? ⟨P,0,none⟩=some (.int .u8 (k:Int)):=by rw [(g.ext c).cell];rfl
 simp -implicitDefEqProofs [c0,c1,r1];refine ⟨?_,c⟩;simp only [qt];exact decide_eq_decide.2 (by omega)
theorem qyn {P:Nat} {m n:Int} (a:Blk w P #[.int .i64 m] 3):Calls Tryz.prog 278 #[.int .i64 n, .pointer (some ⟨P,0,none⟩)] w fun e w'=>e= .returned (.bool (jn m n))∧qb w w':=by
 refine qBM fun ρ r0 r1=> ?_;have c1:w.cell? ⟨P,0,none⟩=some (.int .i64 m):=by rw [a.cell];rfl
 simp -implicitDefEqProofs [qpm,r0,r1,c1];refine (qar w n 0 m).mono ?_;rintro _ _ ⟨rfl,rfl⟩;simp -implicitDefEqProofs;exact ⟨rfl,qz _⟩
theorem qyA (s:Bs):Calls Tryz.prog 221 #[.string (qc s)] w fun e w'=>e= .returned (.bool (wH.contains s))∧qb w w':=by
 refine qCK fun ρ r0=> ?_;simp -implicitDefEqProofs [qqD];refine jN kP (by decide) rfl (by simp [Value.cells]) fun Z w1 g c a _=> ?_;simp -implicitDefEqProofs [Value.cells,r0] at a⊢;refine (L01.qfW s (qky (l:=wH) (by simpa [wH,qe,qc] using a) (by decide))).mono ?_;rintro _ _ ⟨rfl,rfl⟩;simp -implicitDefEqProofs;exact c
theorem qyV (v:Value):Calls Tryz.prog 219 #[v] w fun e w'=>e= .returned (.bool true)∧qb w w':=by
 refine qCQ fun ρ r0=> ?_;simp -implicitDefEqProofs [qqJ];exact qz _
theorem qyC (g:L01.G w) (s:Bs) (j:s.length<4294967281):Calls Tryz.prog 280 #[.string (qc s)] w fun e w'=>e= .returned (.bool (decide (s=[])||jh s))∧qb w w':=by
 refine qBG fun ρ r0=> ?_;have c:(⟨#[]⟩:ByteArray)=qc []:=rfl;by_cases h:s=[]
 ·subst h;simp -implicitDefEqProofs [qhA,r0,c];exact qz _
 ·simp -implicitDefEqProofs [qhA,r0,c,qJ,h];refine (qdp g s (by omega)).mono ?_;rintro _ w1 ⟨rfl,a⟩;simp -implicitDefEqProofs;exact a
theorem qyT (H:L01.G w) (J:vY w) (I:qo x.kv=true) (E:x.nd.d.name.length<4294967281) (V:x.nd.d.vr.length<4294967281) (z:x.nd.d.typ.length<4294967281):Calls Tryz.prog 226 #[ju x] w fun e w'=>e= .returned (.bool (qco x.nd.d))∧qb w w':=by
 refine qCA fun ρ r0=> ?_;have t:(⟨#[]⟩:ByteArray)=qc []:=rfl;simp -implicitDefEqProofs [qqu];refine vv fun X w1 U g k _=> ?_;rw [show qd ρ (.tmp 0)=ju x by simp [r0],kf I] at k;have o:∀W,qb w1 W→W.cell? ⟨X,1,none⟩=some (.string (qc x.nd.d.name))∧W.cell? ⟨X,2,none⟩=some (.string (qc x.nd.d.vr))∧W.cell? ⟨X,3,none⟩=some (.string (qc x.nd.d.typ)):=fun W O=>by
  have:=(k.ext O);refine ⟨by rw [this.cell];rfl,by rw [this.cell];rfl,by rw [this.cell];rfl⟩
 have c:=o w1 (qz _);have j:=H.ext g;unfold qco;by_cases y:x.nd.d.vr=[]
 ·simp -implicitDefEqProofs [c,t,qJ,y];refine (L01.Qx j _).mono ?_;rintro _ w2 ⟨rfl,a⟩;have c2:=o w2 a;cases hn:qh x.nd.d.name with
  |false=>
   simp -implicitDefEqProofs;exact g.trans' a
  |true=>
   simp -implicitDefEqProofs [c2];refine (qyC (j.ext a) _ z).mono ?_;rintro _ w3 ⟨rfl,h⟩;simp -implicitDefEqProofs;exact (g.trans' a).trans' h
 ·simp -implicitDefEqProofs [c,t,qJ,y,qqt];refine (qdp j _ (by omega)).mono ?_;rintro _ w2 ⟨rfl,a⟩;have c2:=o w2 a;cases hn:jh x.nd.d.vr with
  |false=>
   simp -implicitDefEqProofs;exact g.trans' a
  |true=>
   simp -implicitDefEqProofs [c2];refine (ql2 (j.ext a) ((J.ext g).ext a) _ E).mono ?_;rintro _ w3 ⟨rfl,h⟩;have c3:=o w3 (a.trans' h);cases S:zP x.nd.d.name with
   |false=>
    simp -implicitDefEqProofs;exact (g.trans' a).trans' h
   |true=>
    simp -implicitDefEqProofs [c3,t,qJ];exact (g.trans' a).trans' h
end
def qG (F:FuncId) (caps:Array Value):Value:= .func (.func F) #[] caps
def zW (_:World) (v:Value) (f:Bs→Bool):Prop:=(v=qG 77 #[]∧f=qh)∨(v=qG 22 #[]∧f=jh)∨(v=qG 221 #[]∧f=wH.contains)∨(v=qG 219 #[]∧f=xg)
def vD (w:World) (v:Value) (f:Nat→Bool):Prop:=(v=qG 65 #[]∧f=qj)∨(v=qG 80 #[]∧f=qt 20)∨(v=qG 222 #[]∧f=kY)∨∃(P k:Nat),v=qG 279 #[.pointer (some ⟨P,0,none⟩)]∧Blk w P #[.int .u8 (k:Int)] 5∧f=qt k
def xV (w:World) (v:Value) (f:Int→Bool):Prop:=∃(P:Nat) (m:Int),v=qG 278 #[.pointer (some ⟨P,0,none⟩)]∧Blk w P #[.int .i64 m] 3∧f=jn m
section
variable {w w':World} {v:Value} {p:Nat→TypeId→Prop}
theorem zW.at' {f:Bs→Bool} (h:zW w v f):zW w' v f:=h
theorem vD.at' {f:Nat→Bool} (h:vD w v f) (c:qC p w w') (j:∀k,p k 5):vD w' v f:=by
 rcases h with h|h|h|⟨P,k,g,o,a⟩
 ·exact .inl h
 ·exact .inr (.inl h)
 ·exact .inr (.inr (.inl h))
 ·exact .inr (.inr (.inr ⟨P,k,g,o.at' c (j P),a⟩))
theorem xV.at' {f:Int→Bool} (h:xV w v f) (c:qC p w w') (j:∀k,p k 3):xV w' v f:=by
 obtain ⟨P,m,g,o,a⟩:=h;exact ⟨P,m,g,o.at' c (j P),a⟩
theorem zW.fn {f:Bs→Bool} (h:zW w v f) (c:L01.G w):∃F caps,v=qG F caps∧qf Tryz.prog F=true∧∀s:Bs,s.length<4294967281→Calls Tryz.prog F (#[.string (qc s)]++caps) w fun e w'=>e= .returned (.bool (f s))∧qb w w':=by
 rcases h with ⟨rfl,rfl⟩|⟨rfl,rfl⟩|⟨rfl,rfl⟩|⟨rfl,rfl⟩
 ·exact ⟨77, #[],rfl,by kernel_rfl,fun s _=>by simpa using L01.Qx c s⟩
 ·exact ⟨22, #[],rfl,by kernel_rfl,fun s a=>by simpa using qdp c s (by omega)⟩
 ·exact ⟨221, #[],rfl,by kernel_rfl,fun s a=>by simpa using qyA s⟩
 ·exact ⟨219, #[],rfl,by kernel_rfl,fun s a=>qyV (w:=w) (.string (qc s))⟩
theorem vD.fn {f:Nat→Bool} (h:vD w v f):∃F caps,v=qG F caps∧qf Tryz.prog F=true∧∀W,qb w W→∀x:NV,qo x.kv=true→x.nd.d.kind<256→Calls Tryz.prog F (#[ju x]++caps) W fun e w'=>e= .returned (.bool (f x.nd.d.kind))∧qb W w':=by
 rcases h with ⟨rfl,rfl⟩|⟨rfl,rfl⟩|⟨rfl,rfl⟩|⟨P,k,rfl,g,rfl⟩
 ·exact ⟨65, #[],rfl,by kernel_rfl,fun W _ x a c=>by simpa using qyJ a c⟩
 ·exact ⟨80, #[],rfl,by kernel_rfl,fun W _ x a _=>by simpa using qyK a⟩
 ·exact ⟨222, #[],rfl,by kernel_rfl,fun W _ x a c=>by simpa using qyG a c⟩
 ·exact ⟨279, #[.pointer (some ⟨P,0,none⟩)],rfl,by kernel_rfl,fun W j x a _=>by simpa using qyH a (g.ext j)⟩
theorem xV.fn {f:Int→Bool} (h:xV w v f):∃F caps,v=qG F caps∧qf Tryz.prog F=true∧∀W,qb w W→∀n:Int,Calls Tryz.prog F (#[.int .i64 n]++caps) W fun e w'=>e= .returned (.bool (f n))∧qb W w':=by
 obtain ⟨P,m,rfl,a,rfl⟩:=h;exact ⟨278, #[.pointer (some ⟨P,0,none⟩)],rfl,by kernel_rfl,fun W c n=>by simpa using qyn (a.ext c)⟩
theorem qmM:vD w (qG 65 #[]) qj:= .inl ⟨rfl,rfl⟩
theorem qg4:vD w (qG 80 #[]) (qt 20):= .inr (.inl ⟨rfl,rfl⟩)
theorem qz3:vD w (qG 222 #[]) kY:= .inr (.inr (.inl ⟨rfl,rfl⟩))
theorem qkI:zW w (qG 77 #[]) qh:= .inl ⟨rfl,rfl⟩
theorem qkH:zW w (qG 22 #[]) jh:= .inr (.inl ⟨rfl,rfl⟩)
theorem qv9:zW w (qG 221 #[]) wH.contains:= .inr (.inr (.inl ⟨rfl,rfl⟩))
theorem qwa:zW w (qG 219 #[]) xg:= .inr (.inr (.inr ⟨rfl,rfl⟩))
theorem vD.is {f:Nat→Bool} (h:vD w v f):∃F caps,v=qG F caps:=by obtain ⟨F,caps,h,_⟩:=h.fn;exact ⟨F,caps,h⟩
theorem xV.is {f:Int→Bool} (h:xV w v f):∃F caps,v=qG F caps:=by obtain ⟨F,caps,h,_⟩:=h.fn;exact ⟨F,caps,h⟩
theorem zW.is {f:Bs→Bool} (h:zW w v f):∃F caps,v=qG F caps:=by
 rcases h with ⟨rfl,_⟩|⟨rfl,_⟩|⟨rfl,_⟩|⟨rfl,_⟩<;>exact ⟨_,_,rfl⟩
theorem qyI (k:Nat):Calls Tryz.prog 223 #[.int .u8 (k:Int)] w fun e w'=>∃v,e= .returned v∧vD w' v (qt k)∧qb w w':=by
 refine qCG fun ρ r0=> ?_;simp -implicitDefEqProofs [qqB];refine vv fun X w1 g c a _=> ?_;simp -implicitDefEqProofs [r0,Value.cells] at a⊢;exact ⟨.inr (.inr (.inr ⟨X,k,rfl,a,rfl⟩)),c⟩
theorem qyo (m:Int):Calls Tryz.prog 220 #[.int .i64 m] w fun e w'=>∃v,e= .returned v∧xV w' v (jn m)∧qb w w':=by
 refine qCM fun ρ r0=> ?_;simp -implicitDefEqProofs [qqE];refine vv fun X w1 g c a _=> ?_;simp -implicitDefEqProofs [r0,Value.cells] at a⊢;exact ⟨⟨X,m,rfl,a,rfl⟩,c⟩
end
def vX {α:Type} (R:Value→α→Prop) (v:Value):Option α→Prop
 |none=>v= .nilFunc
 |some f=>R v f
theorem vX.imp {α:Type} {R R':Value→α→Prop} {v:Value} (h:∀f,R v f→R' v f):∀{o:Option α},vX R v o→vX R' v o
 |none,a=>a
 |some _,a=>h _ a
noncomputable def qcc:Code:=((Tryz.f144.body).getD .skip)
noncomputable def qrR:IR:= .ret
noncomputable def qrS:IR:=zq [zA 0 175,za 1 (.const (.func (.func 218) #[] #[])),zE 4 (.build 241 #[(0,(.func 77)),(2,(.func 22))]) 241,zA 2 241,zw 241 (zt 2) (zt 4),za 3 (.const (.func (.func 219) #[] #[]))] <| .seq (.raw (qN qcc 4)) (qrR)
def qeu:List Nat:=zV 113 []
theorem qDT:C0 144 113 qeu qrS [.cellN 0 38]:=c0 [4] Tryz.func144
def xi (w:World) (v:Value) (l:List (Nat→Bool)):Prop:=(v= .slice none 0 0∧l=[])∨∃B cs,v= .slice (some ⟨B,0,none⟩) l.length l.length∧Blk w B (List.toArray cs) 98∧vx (vD w) cs l
theorem xi.nil {w:World}:xi w (.slice none 0 0) []:= .inl ⟨rfl,rfl⟩
theorem xi.cons {w:World} {v:Value} {l:List (Nat→Bool)} (h:xi w v l) (a:l≠[]):∃B cs,v= .slice (some ⟨B,0,none⟩) l.length l.length∧Blk w B (List.toArray cs) 98∧vx (vD w) cs l:=by
 rcases h with ⟨_,h⟩|h
 ·exact absurd h a
 ·exact h
def zX:Nat→TypeId→Prop:=fun _ T=>T≠175
theorem xi.at' {w w':World} {v:Value} {l:List (Nat→Bool)} (h:xi w v l) (a:qC zX w w'):xi w' v l:=by
 rcases h with h|⟨B,cs,g,j,c⟩
 ·exact .inl h
 ·exact .inr ⟨B,cs,g,j.at' a (by simp [zX]),c.imp fun _ _ h=>h.at' a fun _=>by simp [zX]⟩
theorem xi.isl {w:World} {v:Value} {l:List (Nat→Bool)} (h:xi w v l) (c:l.length<4611686018427387904:=by decide):qo v=true:=by
 rcases h with ⟨rfl,_⟩|⟨B,cs,rfl,g,a⟩
 ·rfl
 ·simp [qo];try omega
structure RowC (w:World) (nm vr ty nu fi mo:Value) (r:Row):Prop where
 name:vX (zW w) nm r.name
 vr:vX (zW w) vr r.vr
 typ:vX (zW w) ty r.typ
 n:vX (xV w) nu r.n
 first:xi w fi r.first
 more:vX (vD w) mo r.more
theorem RowC.at' {w w':World} {nm vr ty nu fi mo:Value} {r:Row} (h:RowC w nm vr ty nu fi mo r) (a:qC zX w w'):RowC w' nm vr ty nu fi mo r:=
 ⟨h.name.imp fun _ h=>h,h.vr.imp fun _ h=>h,h.typ.imp fun _ h=>h,h.n.imp fun _ h=>h.at' a fun _=>by simp [zX],h.first.at' a,h.more.imp fun _ h=>h.at' a fun _=>by simp [zX]⟩
def qdS:Value→Bool| .nilFunc=>true| .func .. =>true|_=>false
theorem wn {v:Value} (h:qdS v=true):v.cells= #[v]∧v.oneCell=true:=by cases v<;>first|(cases h;done)|exact ⟨rfl,rfl⟩
theorem vX.fnS {w:World} {v:Value}:∀{o:Option (Bs→Bool)},vX (zW w) v o→qdS v=true
 |none,h=>by cases h;rfl
 |some _,h=>by obtain ⟨F,caps,rfl⟩:=zW.is (w:=w) h;rfl
theorem vX.fnN {w:World} {v:Value}:∀{o:Option (Int→Bool)},vX (xV w) v o→qdS v=true
 |none,h=>by cases h;rfl
 |some _,h=>by obtain ⟨F,caps,rfl⟩:=xV.is h;rfl
theorem vX.fnK {w:World} {v:Value}:∀{o:Option (Nat→Bool)},vX (vD w) v o→qdS v=true
 |none,h=>by cases h;rfl
 |some _,h=>by obtain ⟨F,caps,rfl⟩:=vD.is h;rfl
theorem xi.one {w:World} {v:Value} {l:List (Nat→Bool)} (h:xi w v l):v.cells= #[v]∧v.oneCell=true:=by
 rcases h with ⟨rfl,_⟩|⟨B,cs,rfl,_⟩<;>exact ⟨rfl,rfl⟩
def vz (nm vr ty nu fi mo:Value) (r:Row):Array Value:= #[nm,vr,ty,nu,fi,mo, .int .i64 (r.least:Int), .int .i64 (r.most:Int)]
theorem RowC.cells {w:World} {nm vr ty nu fi mo:Value} {r:Row} (h:RowC w nm vr ty nu fi mo r):(Value.agg (vz nm vr ty nu fi mo r)).cells=vz nm vr ty nu fi mo r:=by
 have o:=(wn h.name.fnS).1;have j:=(wn h.vr.fnS).1;have a:=(wn h.typ.fnS).1;have g:=(wn h.n.fnN).1;have k:=h.first.one.1;have c:=(wn h.more.fnK).1;simp [Value.cells,vz,o,j,a,g,k,c]
def qaW (w:World) (v:Value) (r:Row):Prop:=∃nm vr ty nu fi mo,v= .agg (vz nm vr ty nu fi mo r)∧RowC w nm vr ty nu fi mo r
def kJ (w:World) (v:Value) (r:Row):Prop:=∃X nm vr ty nu fi mo,v= .pointer (some ⟨X,0,none⟩)∧Blk w X (vz nm vr ty nu fi mo r) 241∧RowC w nm vr ty nu fi mo r
theorem qaW.at' {w w':World} {v:Value} {r:Row} (h:qaW w v r) (c:qC zX w w'):qaW w' v r:=by
 obtain ⟨nm,vr,ty,nu,fi,mo,g,a⟩:=h;exact ⟨nm,vr,ty,nu,fi,mo,g,a.at' c⟩
theorem kJ.at' {w w':World} {v:Value} {r:Row} (h:kJ w v r) (a:qC zX w w'):kJ w' v r:=by
 obtain ⟨X,nm,vr,ty,nu,fi,mo,j,g,c⟩:=h;exact ⟨X,nm,vr,ty,nu,fi,mo,j,g.at' a (by simp [zX]),c.at' a⟩
theorem kJ.ptr {w:World} {v:Value} {r:Row} (h:kJ w v r):∃X,v= .pointer (some ⟨X,0,none⟩)∧kJ w (.pointer (some ⟨X,0,none⟩)) r:=by
 obtain ⟨X,nm,vr,ty,nu,fi,mo,rfl,c,a⟩:=h;exact ⟨X,rfl,X,nm,vr,ty,nu,fi,mo,rfl,c,a⟩
def Qp (w:World) (v:Value):Option Row→Prop
 |none=>v= .pointer none
 |some r=>kJ w v r
theorem Qp.at' {w w':World} {v:Value} (a:qC zX w w'):∀{r:Option Row},Qp w v r→Qp w' v r
 |none,h=>h
 |some _,h=>kJ.at' h a
def wW (w:World) (cs:List Value):Prop:=cs.length=38∧∀k,k<38→Qp w (cs.getD k undef) (zZ k)
theorem wW.at' {w w':World} {cs:List Value} (h:wW w cs) (a:qC zX w w'):wW w' cs:=⟨h.1,fun k c=>Qp.at' a (h.2 k c)⟩
theorem qvX:xG Tryz.prog 239=some (98,1):=by kernel_rfl
theorem qvB:jA Tryz.prog 239 1=true:=by kernel_rfl
theorem qyN {w:World} {nm vr ty nu fi mo kv:Value} {r:Row} {l:List (Nat→Bool)} (h:RowC w nm vr ty nu fi mo r) (c:xi w kv l) (hb:l.length<4611686018427387904:=by decide):
  Calls Tryz.prog 218 #[.agg (vz nm vr ty nu fi mo r),kv] w fun e w'=>∃v,e= .returned v∧kJ w' v (qg r l)∧qb w w':=by
 have o:qk kv=l.length:=by
  rcases c with ⟨rfl,rfl⟩|⟨B,cs,rfl,_⟩<;>rfl
 have j:=c.isl hb;refine qCS fun ρ r0 r1=> ?_;simp -implicitDefEqProofs [qqK];refine vv fun X w1 V J E _=> ?_;rw [show qd ρ (.tmp 0)=_ from r0,h.cells] at E;simp -implicitDefEqProofs [r0,r1,j,o];refine qK (B:=X) (i:=4) (by simp) E (by simp [vz]) (by simpa [r1] using c.one.1) (by simpa [r1] using c.one.2) qvB fun w2 Z Y=> ?_;have g:Blk w2 X #[nm,vr,ty,nu,kv,mo, .int .i64 (r.least:Int), .int .i64 (r.most:Int)] 241:=by simpa [vz,r1] using Y
 simp -implicitDefEqProofs;refine qK (B:=X) (i:=6) (by simp) g (by simp) (by simp [Value.cells]) (by simp) zz fun w3 S O=> ?_;have t:Blk w3 X #[nm,vr,ty,nu,kv,mo, .int .i64 (l.length:Int), .int .i64 (r.most:Int)] 241:=by simpa using O
 simp -implicitDefEqProofs;refine qK (B:=X) (i:=7) (by simp) t (by simp) (by simp [Value.cells]) (by simp) zz fun I H U=> ?_;have z:Blk I X (vz nm vr ty nu kv mo (qg r l)) 241:=by simpa [vz,qg] using U
 have k:qb w I:=H.ext (S.ext (Z.ext J V) V) V;simp -implicitDefEqProofs;have y:qC zX w I:=qC.ext k;have a:=h.at' y;exact ⟨⟨X,nm,vr,ty,nu,kv,mo,rfl,z,⟨a.name,a.vr,a.typ,a.n,c.at' y,a.more⟩⟩,k⟩
inductive SC where
 |nm|ty|op|an
def SC.f:SC→Bs→Bool| .nm=>qh| .ty=>jh| .op=>wH.contains| .an=>xg
inductive KC where
 |ex|bl|st|is (k:Nat)
def KC.f:KC→Nat→Bool| .ex=>qj| .bl=>qt 20| .st=>kY| .is k=>qt k
structure RC where
 name:Option SC:=none
 vr:Option SC:=none
 typ:Option SC:=none
 n:Option Int:=none
 first:List KC:=[]
 more:Option KC:=none
 least:Nat:=0
 most:Nat:=0
def RC.r (c:RC):Row:=⟨c.name.map SC.f,c.vr.map SC.f,c.typ.map SC.f,c.n.map jn,c.first.map KC.f,c.more.map KC.f,c.least,c.most⟩
def qiL (c:RC) (l:List KC):RC:={c with first:=l,least:=l.length,most:=l.length}
theorem qEP (c:RC) (l:List KC):(qiL c l).r=qg c.r (l.map KC.f):=by simp [qiL,RC.r,qg]
def tyC:RC:={name:=some .nm,typ:=some .ty}
inductive AC where
 |fx|an|num (m:Int)|knd (k:KC)|kids (l:List KC)|rowA (r:RC)|rowP (r:RC)|arr (l:List (Option RC))
def qjF (w:World) (cs:List Value) (l:List (Option RC)):Prop:=cs.length=38∧l.length=38∧∀k,k<38→Qp w (cs.getD k undef) ((l.getD k none).map RC.r)
def AC.holds (w:World) (v:Value):AC→Prop
 | .fx=>v=qG 218 #[]
 | .an=>v=qG 219 #[]
 | .num m=>xV w v (jn m)
 | .knd k=>vD w v k.f
 | .kids l=>xi w v (l.map KC.f)∧l.length<9
 | .rowA r=>qaW w v r.r
 | .rowP r=>kJ w v r.r
 | .arr l=>∃cs:List Value,v= .agg cs.toArray∧qjF w cs l
theorem AC.at' {w w':World} {v:Value} (c:qC zX w w'):∀{a:AC},a.holds w v→a.holds w' v
 | .fx,h=>h
 | .an,h=>h
 | .num _,h=>xV.at' h c fun _=>by simp [zX]
 | .knd _,h=>vD.at' h c fun _=>by simp [zX]
 | .kids _,h=>⟨xi.at' h.1 c,h.2⟩
 | .rowA _,h=>qaW.at' h c
 | .rowP _,h=>kJ.at' h c
 | .arr _,⟨cs,o,g⟩=>⟨cs,o,g.1,g.2.1,fun k j=>Qp.at' c (g.2.2 k j)⟩
def ya (fs:List AC) (ds:List Nat) (t:Nat):Option AC:=bif ds.contains (t - 5)&&Nat.ble 5 t then fs[t - 5]? else none
def kOp (fs:List AC) (ds:List Nat):Operand→Option KC
 | .func 65=>some .ex
 | .func 80=>some .bl
 | .func 222=>some .st
 | .tmp t=>match ya fs ds t with|some (.knd k)=>some k|_=>none
 |_=>none
def sOp (fs:List AC) (ds:List Nat):Operand→Option SC
 | .func 77=>some .nm
 | .func 22=>some .ty
 | .func 221=>some .op
 | .tmp t=>match ya fs ds t with|some .an=>some .an|_=>none
 |_=>none
def nOp (fs:List AC) (ds:List Nat):Operand→Option Int
 | .tmp t=>match ya fs ds t with|some (.num m)=>some m|_=>none
 |_=>none
def lOp (fs:List AC) (ds:List Nat):Operand→Option (List KC)
 | .const (.slice none 0 0)=>some []
 | .tmp t=>match ya fs ds t with|some (.kids l)=>some l|_=>none
 |_=>none
def iOp:Operand→Option Nat
 | .const (.int .i64 (.ofNat n))=>some n
 |_=>none
def pOp (fs:List AC) (ds:List Nat):Operand→Option RC
 | .tmp t=>match ya fs ds t with|some (.rowP r)=>some r|_=>none
 |_=>none
def aOp (fs:List AC) (ds:List Nat):Operand→Option RC
 | .tmp t=>match ya fs ds t with|some (.rowA r)=>some r|_=>none
 |_=>none
def qkK (fs:List AC) (ds:List Nat) (c:RC) (o:Operand):Nat→Option RC
 |0=>(sOp fs ds o).map fun s=>{c with name:=some s}
 |1=>(sOp fs ds o).map fun s=>{c with vr:=some s}
 |2=>(sOp fs ds o).map fun s=>{c with typ:=some s}
 |3=>(nOp fs ds o).map fun s=>{c with n:=some s}
 |4=>(lOp fs ds o).map fun s=>{c with first:=s}
 |5=>(kOp fs ds o).map fun s=>{c with more:=some s}
 |6=>(iOp o).map fun s=>{c with least:=s}
 |7=>(iOp o).map fun s=>{c with most:=s}
 |_=>none
def qf9 (fs:List AC) (ds:List Nat):List (Nat×Operand)→RC→Option RC
 |[],c=>some c
 |p::ps,c=>(qkK fs ds c p.2 p.1).bind (qf9 fs ds ps)
def qfa (fs:List AC) (ds:List Nat):List (Nat×Operand)→List (Option RC)→Option (List (Option RC))
 |[],l=>some l
 |p::ps,l=>bif Nat.blt p.1 38 then (pOp fs ds p.2).bind fun r=>qfa fs ds ps (l.set p.1 (some r)) else none
def qdL (fs:List AC) (ds:List Nat):Nat→List (Nat×Operand)→Option (List KC)
 |_,[]=>some []
 |i,p::ps=>bif Nat.beq p.1 i then (kOp fs ds p.2).bind fun k=>(qdL fs ds (i+1) ps).map (k:: ·) else none
def qfx (fs:List AC) (ds:List Nat):St→Option AC
 | .asg none _ (.var 1)=>some .fx
 | .asg none _ (.var 3)=>some .an
 | .asg none _ (.op1 (.loadN 8) (.var 2))=>some (.rowA tyC)
 | .eff none (some _) (.call ⟨.value (.func 220),⟨[.const (.int .i64 n)]⟩,_⟩) _=>some (.num n)
 | .eff none (some _) (.call ⟨.value (.func 223),⟨[.const (.int .u8 (.ofNat k))]⟩,_⟩) _=>some (.knd (.is k))
 | .eff none (some _) (.build 241 ps) _=>(qf9 fs ds ps.toList {}).map .rowA
 | .eff none (some _) (.call ⟨.value (.tmp f),⟨[a,o]⟩,_⟩) _=>match ya fs ds f with
  |some .fx=>(aOp fs ds a).bind fun r=>(lOp fs ds o).map fun l=> .rowP (qiL r l)
  |_=>none
 | .eff none (some _) (.box 241 a) _=>(aOp fs ds a).map .rowP
 | .eff none (some _) (.buildSlice 239 n ps) _=>(qdL fs ds 0 ps.toList).bind fun l=>bif Nat.beq n l.length&&Nat.blt n 9 then some (.kids l) else none
 | .eff none (some _) (.build 175 ps) _=>(qfa fs ds ps.toList (List.replicate 38 none)).map .arr
 |_=>none
def qtw:St→Option Nat
 | .asg _ d _=>some d
 | .eff _ d _ _=>d
def yn:List (Option St)→List (List Nat)→List AC→Option (List AC)
 |some s::ss,d::ds,fs=>match qtw s with
  |some t=>bif Nat.beq t (fs.length+5) then (qfx fs d s).bind fun F=>yn ss ds (fs++[F]) else none
  |none=>none
 |[],_,fs=>some fs
 |_,_,_=>none
theorem qta:∀(ss:List (Option St)) (ds:List (List Nat)) (fs r:List AC),yn ss ds fs=some r→(∃q,r=fs++q)∧r.length=fs.length+ss.length∧
  ∀i s d,ss[i]? =some (some s)→ds[i]? =some d→∃p q F,r=p++F::q∧p.length=fs.length+i∧qfx p d s=some F∧qtw s=some (p.length+5)
 |[],_,fs,r,h=>by
  simp only [yn,Option.some.injEq] at h;subst h;exact ⟨⟨[],by simp⟩,by simp,fun i s d h=>by simp at h⟩
 |none::_,ds,fs,r,h=>by cases ds<;>simp [yn] at h
 |some s::_,[],fs,r,h=>by simp [yn] at h
 |some s::ss,d::ds,fs,r,h=>by
  unfold yn at h;split at h
  ·rename_i t z;cases a:Nat.beq t (fs.length+5) with
   |false=>rw [a] at h;cases h
   |true=>
    rw [a] at h;obtain ⟨F,E,h⟩:=Option.bind_eq_some_iff.1 h;obtain ⟨⟨q,g⟩,H,I⟩:=qta ss ds _ r h;have:=Nat.eq_of_beq_eq_true a;subst this;refine ⟨⟨F::q,by simp [g]⟩,by simp at H⊢;omega,fun i y J c j=> ?_⟩;cases i with
    |zero=>
     cases c;cases j;exact ⟨fs,q,F,by simp [g],rfl,E,z⟩
    |succ i=>
     obtain ⟨p,q',F',o,O,k⟩:=I i y J c j;exact ⟨p,q',F',o,by simp at O;omega,k⟩
  ·cases h
noncomputable def yC:List (Option St):=(qba Tryz.prog 113 qeu (qN qcc 4)).getD []
noncomputable def qaQ:List (List Nat):=qjg (qN qcc 4)
noncomputable def Qd:List AC:=(yn (yC.take 108) qaQ []).getD []
theorem qEV:yn (yC.take 108) qaQ []=some Qd:=by
 have h:(yn (yC.take 108) qaQ []).isSome=true:=by kernel_rfl
 obtain ⟨r,a⟩:=Option.isSome_iff_exists.1 h;unfold Qd;rw [a];rfl
theorem qs8:Qd.length=108:=by kernel_rfl
def qGt:Option AC→List (Option RC)|some (.arr l)=>l|_=>[]
noncomputable def qfy:List (Option RC):=qGt Qd[107]?
theorem qEW:Qd[107]? =some (.arr qfy):=by kernel_rfl
theorem qvg:(List.range 38).map (fun k=>(qfy.getD k none).map RC.r)=(List.range 38).map zZ:=by kernel_rfl
theorem qvh {k:Nat} (a:k<38):(qfy.getD k none).map RC.r=zZ k:=by
 have h:=congrArg (fun l=>l[k]?) qvg;simpa [a] using h
structure J144 (w0:World) (A T:Nat) (L:Nat→Bool) (ρ:qa) (w:World):Prop where
 ext:qb w0 w
 r0:ρ 0= .pointer (some ⟨A,0,none⟩)
 r1:ρ 1=qG 218 #[]
 r2:ρ 2= .pointer (some ⟨T,0,none⟩)
 r3:ρ 3=qG 219 #[]
 A0:w0.heap.size≤A
 bA:L 108=false→Blk w A (Array.replicate 38 (.pointer none)) 175
 fin:L 108=true→∃cs:List Value,Blk w A cs.toArray 175∧wW w cs
 ty:kJ w (.pointer (some ⟨T,0,none⟩)) tyC.r
 facts:∀(k:Nat) (F:AC),Qd[k]? =some F→L k=true→F.holds w (ρ (k+5))
def yI (i:Nat) (L:Nat→Bool):Nat→Bool:=fun k=>if k=i then true else L k
theorem J144.put {w0:World} {A T:Nat} {L:Nat→Bool} {ρ:qa} {w w':World} {v:Value} (h:J144 w0 A T L ρ w) (i:Nat) (F:AC) (t:Qd[i]? =some F) (j:qb w w') (z:F.holds w' v):J144 w0 A T (yI i L) (qu ρ (i+5) v) w':=by
 have H:i<108:=by
  have:=(List.getElem?_eq_some_iff.1 t).1
  rwa [qs8] at this
 have ne:∀k,k<5→qu ρ (i+5) v k=ρ k:=fun k g=>by simp [qu];omega
 have a:yI i L 108=L 108:=by unfold yI;rw [if_neg (by omega)]
 have o:qC zX w w':=qC.ext j;refine ⟨h.ext.trans' j,by rw [ne 0 (by omega)];exact h.r0,by rw [ne 1 (by omega)];exact h.r1,by rw [ne 2 (by omega)];exact h.r2,by rw [ne 3 (by omega)];exact h.r3,h.A0,fun e=>(h.bA (a▸e)).ext j,fun e=> ?_,h.ty.at' o,fun k F' c hL=> ?_⟩
 ·obtain ⟨cs,y,E⟩:=h.fin (a▸e);exact ⟨cs,y.ext j,E.at' o⟩
 ·by_cases g:k=i
  ·subst g;rw [t] at c;cases c;simpa [qu] using z
  ·have e:qu ρ (i+5) v (k+5)=ρ (k+5):=by simp [qu,g]
   rw [e];exact AC.at' o (h.facts k F' c (by simpa [yI,g] using hL))
section
variable {w0:World} {A T:Nat} {L:Nat→Bool} {ρ:qa} {w:World} {Q:Ks} {K:qa→World→Prop} {p:List AC} {ds:List Nat}
def wU (p:List AC) (ds:List Nat) (ρ:qa) (w:World):Prop:=∀t a,ya p ds t=some a→a.holds w (ρ t)
theorem qmN (a:wU p ds ρ w) {o:Operand} {k:KC} (h:kOp p ds o=some k):vD w (qd ρ o) k.f:=by
 unfold kOp at h;split at h<;>first|(cases h;done)|(cases h;first|exact qmM|exact qg4|exact qz3)|skip
 rename_i t;split at h
 ·rename_i g c;cases h;exact a t _ c
 ·cases h
theorem qfX (a:wU p ds ρ w) {o:Operand} {k:SC} (h:sOp p ds o=some k):zW w (qd ρ o) k.f:=by
 unfold sOp at h;split at h<;>first|(cases h;done)|(cases h;first|exact qkI|exact qkH|exact qv9)|skip
 rename_i t;split at h
 ·rename_i c;cases h;have e:ρ t=qG 219 #[]:=a t _ c;show zW w (ρ t) xg;rw [e];exact qwa
 ·cases h
theorem qzD (a:wU p ds ρ w) {o:Operand} {m:Int} (h:nOp p ds o=some m):xV w (qd ρ o) (jn m):=by
 unfold nOp at h;split at h
 ·rename_i t;split at h
  ·rename_i c;cases h;exact a t _ c
  ·cases h
 ·cases h
theorem qmC (a:wU p ds ρ w) {o:Operand} {l:List KC} (h:lOp p ds o=some l):xi w (qd ρ o) (l.map KC.f)∧l.length<9:=by
 unfold lOp at h;split at h
 ·cases h;exact ⟨.nil,by decide⟩
 ·rename_i t;split at h
  ·rename_i c;cases h;exact a t _ c
  ·cases h
 ·cases h
theorem qy3 (a:wU p ds ρ w) {o:Operand} {r:RC} (h:pOp p ds o=some r):kJ w (qd ρ o) r.r:=by
 unfold pOp at h;split at h
 ·rename_i t;split at h
  ·rename_i c;cases h;exact a t _ c
  ·cases h
 ·cases h
theorem qun (a:wU p ds ρ w) {o:Operand} {r:RC} (h:aOp p ds o=some r):qaW w (qd ρ o) r.r:=by
 unfold aOp at h;split at h
 ·rename_i t;split at h
  ·rename_i c;cases h;exact a t _ c
  ·cases h
 ·cases h
theorem qsP {o:Operand} {n:Nat} (h:iOp o=some n):qd ρ o= .int .i64 (n:Int):=by
 unfold iOp at h;split at h
 ·cases h;rfl
 ·cases h
theorem qs6 {pl:Nat→Option (Nat×Nat)} {cs:List Value} {i:Nat} {v:Value} {rest:List (Nat×Value)} (a:pl i=some (i,1)) (c:v.cells= #[v]) (g:i<cs.length):
  Instr.fill pl cs.toArray ((i,v)::rest)=Instr.fill pl (cs.set i v).toArray rest:=by
 rw [Instr.fill,a];simp [c,show¬cs.length<i+1 by omega]
theorem qlf (O:wU p ds ρ w) {pl:Nat→Option (Nat×Nat)} (hp:∀i,i<8→pl i=some (i,1)):∀(ps:List (Nat×Operand)) (c r:RC),qf9 p ds ps c=some r→∀{nm vr ty nu fi mo:Value},RowC w nm vr ty nu fi mo c.r→
  ∃J y I E H z,Instr.fill pl (vz nm vr ty nu fi mo c.r) (ps.map fun q=>(q.1,qd ρ q.2))=some (vz J y I E H z r.r)∧RowC w J y I E H z r.r
 |[],c,r,h,nm,vr,ty,nu,fi,mo,j=>by
  cases h;exact ⟨nm,vr,ty,nu,fi,mo,rfl,j⟩
 |q::ps,c,r,h,nm,vr,ty,nu,fi,mo,j=>by
  obtain ⟨c1,t,h2⟩:=Option.bind_eq_some_iff.1 h;obtain ⟨i,o⟩:=q;have go:∀{S V ty1 U Z Y:Value},i<8→(qd ρ o).cells= #[qd ρ o]→RowC w S V ty1 U Z Y c1.r→(vz nm vr ty nu fi mo c.r).toList.set i (qd ρ o)=(vz S V ty1 U Z Y c1.r).toList→
    ∃J y I E H z,Instr.fill pl (vz nm vr ty nu fi mo c.r) (((i,o)::ps).map fun q=>(q.1,qd ρ q.2))=some (vz J y I E H z r.r)∧RowC w J y I E H z r.r:=fun hi hv aa he=>by
   obtain ⟨a,b,d,e,f,g,h3,h4⟩:=qlf O hp ps c1 r h2 aa;refine ⟨a,b,d,e,f,g, ?_,h4⟩;rw [←h3,List.map_cons];rw [show vz nm vr ty nu fi mo c.r=(vz nm vr ty nu fi mo c.r).toList.toArray from rfl,qs6 (hp i hi) hv (by simpa [vz] using hi),he]
  have one:∀{m:Nat},(Value.int .i64 (m:Int)).cells= #[.int .i64 (m:Int)]:=by simp [Value.cells]
  dsimp only at t;unfold qkK at t;split at t
  ·obtain ⟨s,k,rfl⟩:=Option.map_eq_some_iff.1 t;have h:=qfX O k;exact go (by decide) (wn (vX.fnS (w:=w) (o:=some s.f) h)).1 ⟨h,j.vr,j.typ,j.n,j.first,j.more⟩ rfl
  ·obtain ⟨s,k,rfl⟩:=Option.map_eq_some_iff.1 t;have h:=qfX O k;exact go (by decide) (wn (vX.fnS (w:=w) (o:=some s.f) h)).1 ⟨j.name,h,j.typ,j.n,j.first,j.more⟩ rfl
  ·obtain ⟨s,k,rfl⟩:=Option.map_eq_some_iff.1 t;have h:=qfX O k;exact go (by decide) (wn (vX.fnS (w:=w) (o:=some s.f) h)).1 ⟨j.name,j.vr,h,j.n,j.first,j.more⟩ rfl
  ·obtain ⟨s,k,rfl⟩:=Option.map_eq_some_iff.1 t;have h:=qzD O k;exact go (by decide) (wn (vX.fnN (w:=w) (o:=some (jn s)) h)).1 ⟨j.name,j.vr,j.typ,h,j.first,j.more⟩ rfl
  ·obtain ⟨s,k,rfl⟩:=Option.map_eq_some_iff.1 t;have h:=(qmC O k).1;exact go (by decide) h.one.1 ⟨j.name,j.vr,j.typ,j.n,h,j.more⟩ rfl
  ·obtain ⟨s,k,rfl⟩:=Option.map_eq_some_iff.1 t;have h:=qmN O k;exact go (by decide) (wn (vX.fnK (w:=w) (o:=some s.f) h)).1 ⟨j.name,j.vr,j.typ,j.n,j.first,h⟩ rfl
  ·obtain ⟨s,k,rfl⟩:=Option.map_eq_some_iff.1 t;have e:=qsP (ρ:=ρ) k;exact go (by decide) (e▸one) ⟨j.name,j.vr,j.typ,j.n,j.first,j.more⟩ (by rw [e];rfl)
  ·obtain ⟨s,k,rfl⟩:=Option.map_eq_some_iff.1 t;have e:=qsP (ρ:=ρ) k;exact go (by decide) (e▸one) ⟨j.name,j.vr,j.typ,j.n,j.first,j.more⟩ (by rw [e];rfl)
  ·cases t
theorem qug (y:wU p ds ρ w) {pl:Nat→Option (Nat×Nat)} (E:∀i,i<38→pl i=some (i,1)):∀(ps:List (Nat×Operand)) (l r:List (Option RC)),qfa p ds ps l=some r→∀{cs:List Value},qjF w cs l→
  ∃cs',Instr.fill pl cs.toArray (ps.map fun q=>(q.1,qd ρ q.2))=some cs'.toArray∧qjF w cs' r
 |[],l,r,h,cs,a=>by
  cases h;exact ⟨cs,rfl,a⟩
 |q::ps,l,r,h,cs,a=>by
  obtain ⟨i,o⟩:=q;unfold qfa at h;cases j:Nat.blt i 38 with
  |false=>rw [show Nat.blt (i,o).1 38=false from j] at h;cases h
  |true=>
   rw [show Nat.blt (i,o).1 38=true from j] at h;have g:i<38:=Nat.le_of_ble_eq_true j;obtain ⟨c,O,S⟩:=Option.bind_eq_some_iff.1 h;have z:=qy3 y O;obtain ⟨cs',H,I⟩:=qug y E ps _ r S (cs:=cs.set i (qd ρ o)) ⟨by simp [a.1],by simp [a.2.1],fun k J=>by
    simp only [List.getD_eq_getElem?_getD,List.getElem?_set];by_cases e:i=k
    ·subst e;have t:Qp w (qd ρ (i,o).2) (some c.r):=z;simpa [a.1,a.2.1,g] using t
    ·simpa [e] using a.2.2 k J⟩
   refine ⟨cs', ?_,I⟩;rw [←H,List.map_cons,qs6 (E i g) ?_ (by rw [a.1];exact g)];obtain ⟨X,_,_,_,_,_,_,e,_⟩:=z;rw [show qd ρ (i,o).2=_ from e];rfl
theorem qmL (g:wU p ds ρ w):∀(ps:List (Nat×Operand)) (i:Nat) (l:List KC),qdL p ds i ps=some l→ps.map (·.1)=List.range' i l.length∧(∀q∈ps,(qd ρ q.2).cells= #[qd ρ q.2])∧vx (vD w) (ps.map fun q=>qd ρ q.2) (l.map KC.f)
 |[],i,l,h=>by
  cases h;exact ⟨rfl,by simp,trivial⟩
 |q::ps,i,l,h=>by
  unfold qdL at h;cases a:Nat.beq q.1 i with
  |false=>rw [a] at h;cases h
  |true=>
   rw [a] at h;obtain ⟨k,z,J⟩:=Option.bind_eq_some_iff.1 h;obtain ⟨I,t,rfl⟩:=Option.map_eq_some_iff.1 J;obtain ⟨y,E,H⟩:=qmL g ps _ I t;have j:=qmN g z;have e:=Nat.eq_of_beq_eq_true a;refine ⟨by simp [y,e,List.range'_succ],fun x c=> ?_,j,H⟩;rcases List.mem_cons.1 c with rfl|c
   ·exact (wn (vX.fnK (w:=w) (o:=some k.f) j)).1
   ·exact E x c
theorem qjH:vG Tryz.prog 175=some (Array.replicate 38 (.pointer none)):=by kernel_rfl
theorem qEO {ps:List (Nat×Operand)} (h:∀q∈ps,(qd ρ q.2).cells= #[qd ρ q.2]):(ps.flatMap fun q=>(qd ρ q.2).cells.toList)=ps.map fun q=>qd ρ q.2:=by
 induction ps with
 |nil=>rfl
 |cons q ps a=>
  rw [List.flatMap_cons,List.map_cons,h q (by simp),a fun x c=>h x (by simp [c])];rfl
def qdm:Nat→Option (Nat×Nat):=fun i=>(#[(0,1),(1,1),(2,1),(3,1),(4,1),(5,1),(6,1),(7,1)]:Array (Nat×Nat))[i]?
theorem qF3 (l:List (Nat×Value)):Tryz.prog.built 241 l=Instr.fill qdm #[.nilFunc, .nilFunc, .nilFunc, .nilFunc, .slice none 0 0, .nilFunc, .int .i64 0, .int .i64 0] l:=by kernel_rfl
theorem qF4 (l:List (Nat×Value)):Tryz.prog.built 175 l=Instr.fill (fun i=>some (i*1,1)) (Array.replicate 38 (.pointer none)) l:=by kernel_rfl
theorem qvP (i:Nat) (s:St) (hs:(yC.take 108)[i]? =some (some s)) (hd:qaQ[i]? =some ds) (hL:∀d∈ds,L d=true) (I:J144 w0 A T L ρ w):s.wp Tryz.prog Q (J144 w0 A T (yI i L)) ρ w:=by
 obtain ⟨p,q,F,h1,h2,c,j⟩:=(qta _ _ _ _ qEV).2.2 i s ds hs hd;simp only [List.length_nil,Nat.zero_add] at h2;rw [h2] at j;have hF:Qd[i]? =some F:=by rw [h1,←h2];simp
 have E:wU p ds ρ w:=fun t a J=>by
  unfold ya at J;cases g:ds.contains (t - 5)&&Nat.ble 5 t with
  |false=>rw [g] at J;cases J
  |true=>
   rw [g] at J;simp only [Bool.and_eq_true,List.contains_iff_mem] at g;have:=Nat.le_of_ble_eq_true g.2;have h:=I.facts (t - 5) a (by
    have aa:=(List.getElem?_eq_some_iff.1 J).1;rw [h1,List.getElem?_append_left aa];exact J) (hL _ g.1)
   rwa [Nat.sub_add_cancel this] at h
 have put:=fun {w':World} {v:Value}=>I.put (w':=w') (v:=v) i F hF;unfold qfx at c;split at c
 ·cases c;cases j;simp -implicitDefEqProofs [St.wp,I.r1];exact put (qz _) rfl
 ·cases c;cases j;simp -implicitDefEqProofs [St.wp,I.r3];exact put (qz _) rfl
 ·cases c;cases j;obtain ⟨X,nm,vr,ty,nu,fi,mo,e,y,g⟩:=I.ty;cases e;have z:=kT y;simp [vz] at z;simp -implicitDefEqProofs [St.wp,I.r2,z];exact put (qz _) ⟨nm,vr,ty,nu,fi,mo,rfl,g⟩
 ·cases c;cases j;simp -implicitDefEqProofs [St.wp];refine (qyo _).mono ?_;rintro _ w1 ⟨v,rfl,O,o⟩;exact put o O
 ·cases c;cases j;simp -implicitDefEqProofs [St.wp];refine (qyI _).mono ?_;rintro _ w1 ⟨v,rfl,O,o⟩;exact put o O
 ·obtain ⟨r,H,rfl⟩:=Option.map_eq_some_iff.1 c;cases j;obtain ⟨nm,vr,ty,nu,fi,mo,e,g⟩:=qlf E (pl:=qdm) (fun i hi=>by unfold qdm;match i,hi with|0,_=>rfl|1,_=>rfl|2,_=>rfl|3,_=>rfl|4,_=>rfl|5,_=>rfl|6,_=>rfl|7,_=>rfl|n+8,h=>exact absurd h (by omega)) _ {} r H (nm:= .nilFunc) (vr:= .nilFunc) (ty:= .nilFunc) (nu:= .nilFunc) (fi:= .slice none 0 0) (mo:= .nilFunc) ⟨rfl,rfl,rfl,rfl, .nil,rfl⟩;simp -implicitDefEqProofs only [St.wp,gd,if_true];rw [qts,qF3,Array.toList_map];have Y:Instr.fill qdm #[.nilFunc, .nilFunc, .nilFunc, .nilFunc, .slice none 0 0, .nilFunc, .int .i64 0, .int .i64 0] _=_:=e;rw [Y];exact put (qz _) ⟨nm,vr,ty,nu,fi,mo,rfl,g⟩
 ·split at c
  ·rename_i hf;obtain ⟨r,H,c⟩:=Option.bind_eq_some_iff.1 c;obtain ⟨l,Z,rfl⟩:=Option.map_eq_some_iff.1 c;cases j;obtain ⟨nm,vr,ty,nu,fi,mo,ea,g⟩:=qun E H;obtain ⟨U,hlen⟩:=qmC E Z;simp -implicitDefEqProofs only [St.wp,gd,if_true];refine kp qFO (fs:= #[]) (caps:= #[]) (E _ .fx hf) ?_;have V:=qyN g U (by rw [List.length_map];omega);rw [←ea] at V;refine Calls.mono (show Calls Tryz.prog 218 (#[]++Array.map (qd ρ) ⟨[_,_]⟩++ #[]) w _ from by simpa using V) ?_;rintro _ w1 ⟨v,rfl,O,o⟩;exact put o (by rw [←qEP] at O;exact O)
  ·cases c
 ·obtain ⟨r,H,rfl⟩:=Option.map_eq_some_iff.1 c;cases j;obtain ⟨nm,vr,ty,nu,fi,mo,ea,g⟩:=qun E H;simp -implicitDefEqProofs only [St.wp,gd,if_true];refine vv fun X w1 hX o y _=> ?_;rw [ea,g.cells] at y;exact put o ⟨X,nm,vr,ty,nu,fi,mo,rfl,y,g.at' (qC.ext o)⟩
 ·rename_i n ps _;obtain ⟨l,Z,c⟩:=Option.bind_eq_some_iff.1 c;cases y:Nat.beq n l.length&&Nat.blt n 9 with
  |false=>rw [y] at c;cases c
  |true=>
   rw [y] at c;cases c;cases j;simp only [Bool.and_eq_true] at y;have hn:=Nat.eq_of_beq_eq_true y.1;have V:n<9:=Nat.le_of_ble_eq_true y.2;subst hn;obtain ⟨k1,k2,k3⟩:=qmL E (ρ:=ρ) _ _ l Z;simp -implicitDefEqProofs only [St.wp,gd,if_true];refine jN qvX (by simp;omega) (by rw [k1,List.range_eq_range']) (fun q hq=>by rw [k2 q hq];rfl) fun B w1 hB o S _=> ?_;rw [qEO k2] at S;refine put o ⟨.inr ⟨B,_,by simp,S,k3.imp fun _ _ h=>h.at' (qC.ext (p:=zX) o) fun _=>by simp [zX]⟩,V⟩
 ·obtain ⟨r,H,rfl⟩:=Option.map_eq_some_iff.1 c;cases j;obtain ⟨cs,e,g⟩:=qug E (ρ:=ρ) (pl:=fun i=>some (i*1,1)) (fun i _=>by rw [Nat.mul_one]) _ _ r H (cs:=List.replicate 38 (.pointer none)) ⟨List.length_replicate,List.length_replicate,fun k U=>by rw [List.getD_eq_getElem?_getD,List.getD_eq_getElem?_getD,List.getElem?_replicate,List.getElem?_replicate,if_pos U,if_pos U];rfl⟩;simp -implicitDefEqProofs only [St.wp,gd,if_true];rw [qts,qF4,Array.toList_map];have Y:Instr.fill (fun i=>some (i*1,1)) (Array.replicate 38 (.pointer none)) _=_:=e;rw [Y];exact put (qz _) ⟨cs,rfl,g⟩
 ·cases c
theorem qFo:(qaQ.getD 108 []).contains 107=true:=by kernel_rfl
theorem qvO (hd:qaQ[108]? =some ds) (hL:∀d∈ds,L d=true) (g:J144 w0 A T L ρ w) (hi:L 108=false):(.eff none none (.store 175 (.tmp 0) (.tmp 112)) 0:St).wp Tryz.prog Q (J144 w0 A T (yI 108 L)) ρ w:=by
 have I:L 107=true:=by
  have h:=qFo;rw [List.getD_eq_getElem?_getD,hd] at h;exact hL _ (List.contains_iff_mem.1 h)
 obtain ⟨cs,H,S,_,O⟩:=g.facts 107 _ qEW I;have j:wW w cs:=⟨S,fun k z=>qvh z▸O k z⟩;have o:∀c∈cs,c.cells= #[c]∧c.oneCell=true:=fun c E=>by
  obtain ⟨k,z,rfl⟩:=List.mem_iff_getElem.1 E;have t:=j.2 k (by rw [←j.1];exact z);rw [List.getD_eq_getElem?_getD,List.getElem?_eq_getElem z] at t;simp only [Option.getD_some] at t;generalize cs[k]=c at t;cases U:zZ k with
  |none=>rw [U] at t;cases t;exact ⟨rfl,rfl⟩
  |some r=>
   rw [U] at t;obtain ⟨X,_,_,_,_,_,_,rfl,_⟩:=t;exact ⟨rfl,rfl⟩
 have y:=qul fun c E=>(o c E).1;have a:qd ρ (.tmp 112)= .agg cs.toArray:=H;simp -implicitDefEqProofs [St.wp];refine jl (B:=A) (by simpa using g.r0) (g.bA hi) (by rw [a,y];simp [j.1]) ?_ (by kernel_rfl) fun W Y Z=> ?_
 ·rw [a,y];simpa using fun c E=>(o c E).2
 rw [a,y] at Z;have hE:qb w0 W:=Y.ext g.ext g.A0;have J:qC zX w W:=(qC.only Y (g.bA hi)).mono fun _ _ h=> .inr h;simp -implicitDefEqProofs;refine ⟨hE,g.r0,g.r1,g.r2,g.r3,g.A0,fun e=>by simp [yI] at e,fun _=>⟨cs,Z,j.at' J⟩,g.ty.at' J,fun k F V hL=> ?_⟩;have z:k<108:=by
  have:=(List.getElem?_eq_some_iff.1 V).1
  rwa [qs8] at this
 exact AC.at' J (g.facts k F V (by simpa [yI,show k≠108 by omega] using hL))
end
theorem quu:vG Tryz.prog 241=some #[.nilFunc, .nilFunc, .nilFunc, .nilFunc, .slice none 0 0, .nilFunc, .int .i64 0, .int .i64 0]:=by kernel_rfl
theorem qvA:jA Tryz.prog 241 8=true:=by kernel_rfl
theorem qGe:Tryz.prog.built 241 [(0, .func (.func 77) #[] #[]),(2, .func (.func 22) #[] #[])]=some #[qG 77 #[], .nilFunc,qG 22 #[], .nilFunc, .slice none 0 0, .nilFunc, .int .i64 0, .int .i64 0]:=by kernel_rfl
theorem qkk:yC.length=109:=by kernel_rfl
theorem qvI:yC[108]? =some (some (.eff none none (.store 175 (.tmp 0) (.tmp 112)) 0)):=by kernel_rfl
theorem qvH:qba Tryz.prog 113 qeu (qN qcc 4)=some yC:=by
 have h:(qba Tryz.prog 113 qeu (qN qcc 4)).isSome=true:=by kernel_rfl
 obtain ⟨r,a⟩:=Option.isSome_iff_exists.1 h;unfold yC;rw [a];rfl
theorem qyu {w:World}:Calls Tryz.prog 144 #[] w fun e w'=>∃cs:List Value,e= .returned (.agg cs.toArray)∧wW w' cs∧qb w w':=by
 refine qDT fun ρ=> ?_;simp -implicitDefEqProofs [qrS];refine qR qjH fun A w1 S g y _=> ?_;simp -implicitDefEqProofs [qGe];refine qR quu fun T w2 hT c J _=> ?_;simp -implicitDefEqProofs;refine jl (B:=T) (by simp) J (by simp [Value.cells,qG]) (by simp [Value.cells,qG];exact ⟨rfl,rfl,rfl,rfl⟩) (by simpa [Value.cells,qG] using qvA) fun w3 t j=> ?_;simp -implicitDefEqProofs [Value.cells,qG] at j;have E:qb w w3:=t.ext (g.trans' c) (by have:=g.size;omega);have I:=t.blk (y.ext c) (by have:=y.lt;omega);simp -implicitDefEqProofs;refine qxE qvH rfl (by kernel_rfl) (by kernel_rfl) (J144 w A T) ?_ ?_ ?_
 ·intro w' H _;exact ⟨E.trans' H,by simp,by simp [qG],by simp,by simp [qG],S,fun _=>I.ext H,fun e=>(by cases e),⟨T,qG 77 #[], .nilFunc,qG 22 #[], .nilFunc, .slice none 0 0, .nilFunc,rfl,(j.ext H),⟨qkI (w:=w),rfl,qkH (w:=w),rfl, .nil,rfl⟩⟩,fun k F _ hL=>by cases hL⟩
 ·intro L i s ds z O U hL ρ w a;rcases Nat.lt_or_ge i 108 with h|h
  ·exact qvP i s (by rw [List.getElem?_take_of_lt h];exact z) O hL a
  ·have Y:=(List.getElem?_eq_some_iff.1 z).1;rw [qkk] at Y;obtain rfl:i=108:=by omega
   rw [qvI] at z;cases z;exact qvO O hL a U
 ·intro L ρ Z hL a;obtain ⟨cs,V,o⟩:=a.fin (hL 108 (by rw [qkk];decide));simp -implicitDefEqProofs [qrR];refine qM (by simpa using a.r0) V (by simp [o.1]) ?_;exact ⟨cs,by simp,o,a.ext⟩
end Go.L02
namespace Go.Eng
open Go.RowKit
section
variable {P:Program} {Q:Ks} {d:Option Nat} {ty:TypeId} {K:qa→World→Prop} {ρ:qa} {w:World}
def wk:Value→Bool| .nilFunc=>true|_=>false
def fnT (P:Program) (t:TypeId):Bool:=match P.underlying t with|some (.func ..)=>true|_=>false
theorem qk4 {t:TypeId} {v:Value} (c:fnT P t=true) (j:v= .nilFunc∨∃F a b,v= .func F a b):(Op.equal t v .nilFunc).run P w= .ok (wk v) w:=by
 unfold fnT at c;split at c
 ·rename_i g;have h:∀d:Nat,(Op.equalIn (d+1) t v .nilFunc).run P w= .ok (wk v) w:=fun d=>by
   rcases j with rfl|⟨F,a,b,rfl⟩<;>simp [Op.equalIn,run_underlying g,wk]
  simp [Op.equal,Op.maxDepth,h 9999]
 ·cases c
theorem qtm {t j:TypeId} {x:Operand} {v:Value} (g:fnT P t=true) (k:qd ρ x=v) (c:v= .nilFunc∨∃F a b,v= .func F a b) (h:K (qm ρ d (.bool (wk v))) w):qr P Q d (.binOp .eql t x (.const .nilFunc) j) ty K ρ w:=by
 refine jf (v:= .bool (wk v)) (w':=w) ?_ h;have:=qk4 (w:=w) g c;rcases c with rfl|⟨F,a,b,rfl⟩<;>simp [execOp,qA,k,eqGuard,binOp,this]
theorem qti {t j:TypeId} {x:Operand} {v:Value} (g:fnT P t=true) (k:qd ρ x=v) (c:v= .nilFunc∨∃F a b,v= .func F a b) (h:K (qm ρ d (.bool (!wk v))) w):qr P Q d (.binOp .neq t x (.const .nilFunc) j) ty K ρ w:=by
 refine jf (v:= .bool (!wk v)) (w':=w) ?_ h;have:=qk4 (w:=w) g c;rcases c with rfl|⟨F,a,b,rfl⟩<;>simp [execOp,qA,k,eqGuard,binOp,this]
end
end Go.Eng
namespace Go.L02
open Go Go.Eng Go.RowKit
open Go.Proofs hiding encI
open Go.L01 (Bs Own.same Tok qM qS qe qh)
set_option maxRecDepth 100000
set_option maxHeartbeats 2000000
structure Rd (w:World) (v:Value) (xs:List NV):Prop where
 cells:Cells w v 6 (je xs)
 kids:∀x∈xs,Cells w x.kv 1 (x.nd.kids.map encI)
theorem _root_.Go.Eng.Cells.ext {w w':World} {v:Value} {sz:Nat} {xs:List Value} (h:Cells w v sz xs) (a:qb w w'):Cells w' v sz xs:=⟨h.is,h.len,fun j c=>a.cell (h.cell j c)⟩
theorem Rd.ext {w w':World} {v:Value} {xs:List NV} (h:Rd w v xs) (a:qb w w'):Rd w' v xs:=⟨h.cells.ext a,fun x c=>(h.kids x c).ext a⟩
theorem qmd {xs:List NV} {k j:Nat} (a:k<xs.length) (h:j<6):(je xs)[k*6+j]? =(qi xs[k])[j]? :=by
 induction xs generalizing k with
 |nil=>simp at a
 |cons x xs c=>
  have e:je (x::xs)=qi x++je xs:=rfl;have g:(qi x).length=6:=rfl;rw [e];cases k with
  |zero=>rw [List.getElem?_append_left (by omega)];simp
  |succ k=>
   rw [List.getElem?_append_right (by omega),show (k+1)*6+j - (qi x).length=k*6+j by omega];simpa using c (k:=k) (by simpa using a)
section
variable {w:World} {v:Value} {xs:List NV}
theorem Rd.len (h:Rd w v xs):qk v=xs.length:=by have:=h.cells.len;rw [wJ] at this;omega
theorem Rd.cell (h:Rd w v xs) {k j:Nat} (c:k<xs.length) (g:j<6):w.cell? (qD v (k*6+j))=(qi xs[k])[j]? :=by
 have a:k*6+j<(je xs).length:=by rw [wJ];omega
 rw [h.cells.cell _ a,←List.getElem?_eq_getElem a,qmd c g]
theorem Rd.row (h:Rd w v xs) {k:Nat} (o:k<xs.length):Eng.jq w (qD v (k*6)) 0 6=some (qi xs[k]):=by
 have:=yM (w:=w) (a:=qD v (k*6)) (l:=qi xs[k]) (i:=0) fun j g=>by
  have c:j<6:=g;rw [qcX,Nat.zero_add,h.cell o c,List.getElem?_eq_getElem g]
 exact this
end
structure DOk (d:D):Prop where
 kind:d.kind<256
 name:d.name.length<4294967281
 vr:d.vr.length<4294967281
 typ:d.typ.length<4294967281
theorem qsV:fnT Tryz.prog 34=true:=by kernel_rfl
theorem qsW:fnT Tryz.prog 238=true:=by kernel_rfl
theorem qur (F:FuncId) (c:Array Value):qG F c= .nilFunc∨∃F' a b,qG F c= .func F' a b:= .inr ⟨_,_,_,rfl⟩
theorem qgA {w:World} (j:L01.G w) {v:Value} {o:Option (Bs→Bool)} (s:Bs) (c:s.length<4294967281) (h:vX (zW w) v o):Calls Tryz.prog 225 #[.string (qc s),v] w fun e w'=>e= .returned (.bool (jd s o))∧qb w w':=by
 have g:(⟨#[]⟩:ByteArray)=qc []:=rfl;refine qCC fun ρ r0 r1=> ?_;simp -implicitDefEqProofs [qqw,r0,r1];cases o with
 |none=>
  cases h;refine qtm qsV (v:= .nilFunc) (by simp) (.inl rfl) ?_;simp -implicitDefEqProofs [wk,r0,g,qJ,jd];exact qz _
 |some f=>
  obtain ⟨F,caps,rfl,a,k⟩:=zW.fn h j;refine qtm qsV (v:=qG F caps) (by simp) (qur _ _) ?_;simp -implicitDefEqProofs [wk,qG,qqv,r0,r1];refine kp a (t:=9) (fs:= #[]) (caps:=caps) (by simp) ?_;simp -implicitDefEqProofs;refine (k s c).mono ?_;rintro _ w1 ⟨rfl,y⟩;simp -implicitDefEqProofs [jd];exact y
theorem qwY:∀(k:Nat) (r:Row),zZ k=some r→r.more=none→r.most≤r.first.length:=by
 intro k r h a;unfold zZ yL at h;rcases k with _|_|_|_|_|_|_|_|_|_|_|_|_|_|_|_|_|_|_|_|_|_|_|_|_|_|_|_|_|_|_|_|_|_|_|_|_|_|k<;>
  simp [Option.join] at h<;>subst h<;>first|(simp [qg];done)|(simp at a;done)|(simp;done)
theorem qjT:Tryz.prog.underlying 175=some (.array 38 174):=by kernel_rfl
theorem qjU:Tryz.prog.underlying 174=some (.pointer 241):=by kernel_rfl
theorem qEz:∃inf,Tryz.prog.info? 174=some inf∧inf.size=1:=by
 have:(match Tryz.prog.info? 174 with|some inf=>inf.size==1|none=>false)=true:=by kernel_rfl
 cases h:Tryz.prog.info? 174 with
 |none=>rw [h] at this;cases this
 |some inf=>rw [h] at this;exact ⟨inf,rfl,by simpa using this⟩
theorem qw0 {k:Nat} (h:38≤k):zZ k=none:=by
 unfold zZ;have:yL[k]? =none:=List.getElem?_eq_none (by show yL.length≤k;exact h);rw [this];rfl
theorem y9 {v:Value} (h:qo v=true):qk v≤qv v:=by
 rcases zJ h with ⟨b,o,n,c,rfl,a⟩|rfl|⟨b,o,s,rfl⟩
 ·exact a
 ·exact Nat.le_refl _
 ·exact Nat.le_refl _
theorem qjn {w:World} {v:Value} {xs:List Value} (h:Cells w v 1 xs) (l:Nat) (o:l≤xs.length):Cells w (qY v 1 l (qk v) (qv v)) 1 (xs.drop l):=by
 have g:=h.len;have a:=y9 h.is;refine ⟨QY h.is 1 l _ _ (by omega) a (Nat.le_refl _),by rw [qbf _ _ _ _ h.is];simp;omega,fun j k=> ?_⟩;have c:l+j<xs.length:=by simp at k;omega
 rw [qcW 1 l _ _ j h.is (by omega) (by omega),Nat.mul_one,h.cell (l+j) c];simp
theorem qwX:∀(k:Nat) (r:Row),zZ k=some r→r.most≤400:=by
 intro k r h;unfold zZ yL at h;rcases k with _|_|_|_|_|_|_|_|_|_|_|_|_|_|_|_|_|_|_|_|_|_|_|_|_|_|_|_|_|_|_|_|_|_|_|_|_|_|k<;>
  simp [Option.join] at h<;>subst h<;>first|(simp [qg];done)|(simp;done)
def RB (w:World) (b:Bool) (e:Ending) (w':World):Prop:=e= .returned (.bool b)∧qb w w'
structure RtS (w W:World) (lv:Value) (xs:List NV) (x:NV) (X Rw:Nat) (nm vr ty nu fi mo:Value) (r:Row):Prop where
 ext:qb w W
 rd:Rd W lv xs
 bX:Blk W X (qi x).toArray 44
 bR:Blk W Rw (vz nm vr ty nu fi mo r) 241
 rc:RowC W nm vr ty nu fi mo r
 kv:Cells W x.kv 1 (x.nd.kids.map encI)
 g:L01.G W
 m:vY W
structure RtK (ρ:qa) (lv:Value) (X Rw:Nat):Prop where
 r0:ρ 0=lv
 r4:ρ 4= .pointer (some ⟨X,0,none⟩)
 r7:ρ 7= .pointer (some ⟨Rw,0,none⟩)
structure RtH (xs:List NV) (x:NV) (r:Row):Prop where
 d:DOk x.nd.d
 ds:∀y∈xs,DOk y.nd.d
 len:xs.length≤400
 hin:∀k∈x.nd.kids,0≤k∧k<xs.length
 row:zZ x.nd.d.kind=some r
section
variable {w W W':World} {lv:Value} {xs:List NV} {x:NV} {X Rw:Nat} {nm vr ty nu fi mo:Value} {r:Row} {ρ:qa}
theorem RtS.to (h:RtS w W lv xs x X Rw nm vr ty nu fi mo r) (a:qb W W'):RtS w W' lv xs x X Rw nm vr ty nu fi mo r:=
 ⟨h.ext.trans' a,h.rd.ext a,h.bX.ext a,h.bR.ext a,h.rc.at' (qC.ext a),h.kv.ext a,h.g.ext a,h.m.ext a⟩
theorem RtS.cX (h:RtS w W lv xs x X Rw nm vr ty nu fi mo r):W.cell? ⟨X,0,none⟩=some (.int .u8 (x.nd.d.kind:Int))∧W.cell? ⟨X,1,none⟩=some (.string (qc x.nd.d.name))∧W.cell? ⟨X,2,none⟩=some (.string (qc x.nd.d.vr))∧W.cell? ⟨X,3,none⟩=some (.string (qc x.nd.d.typ))∧W.cell? ⟨X,4,none⟩=some (.int .i64 x.nd.d.n)∧W.cell? ⟨X,5,none⟩=some x.kv:=
 ⟨by rw [h.bX.cell];rfl,by rw [h.bX.cell];rfl,by rw [h.bX.cell];rfl,by rw [h.bX.cell];rfl,by rw [h.bX.cell];rfl,by rw [h.bX.cell];rfl⟩
theorem RtS.cR (h:RtS w W lv xs x X Rw nm vr ty nu fi mo r):W.cell? ⟨Rw,0,none⟩=some nm∧W.cell? ⟨Rw,1,none⟩=some vr∧W.cell? ⟨Rw,2,none⟩=some ty∧W.cell? ⟨Rw,3,none⟩=some nu∧W.cell? ⟨Rw,4,none⟩=some fi∧W.cell? ⟨Rw,5,none⟩=some mo∧W.cell? ⟨Rw,6,none⟩=some (.int .i64 (r.least:Int))∧W.cell? ⟨Rw,7,none⟩=some (.int .i64 (r.most:Int)):=
 ⟨by rw [h.bR.cell];rfl,by rw [h.bR.cell];rfl,by rw [h.bR.cell];rfl,by rw [h.bR.cell];rfl,by rw [h.bR.cell];rfl,by rw [h.bR.cell];rfl,by rw [h.bR.cell];rfl,by rw [h.bR.cell];rfl⟩
theorem RtS.row (h:RtS w W lv xs x X Rw nm vr ty nu fi mo r):Eng.jq W ⟨X,0,none⟩ 0 6=some (qi x):=by
 have:=kT h.bX;simpa [qi] using this
theorem RtS.kl (h:RtS w W lv xs x X Rw nm vr ty nu fi mo r):qk x.kv=x.nd.kids.length:=by have:=h.kv.len;simpa using this.symm
theorem qmI {k:Int} (h:0≤k∧k<xs.length):xN (xs.map (·.nd)) k=(xs[k.toNat]'(by omega)).nd.d.name:=by
 unfold xN;rw [List.getElem?_map,List.getElem?_eq_getElem (by omega)];rfl
theorem qmJ {k:Int} (h:0≤k∧k<xs.length):jw (xs.map (·.nd)) k=(xs[k.toNat]'(by omega)).nd.d.kind:=by
 unfold jw;rw [List.getElem?_map,List.getElem?_eq_getElem (by omega)];rfl
theorem qwU (hh:RtH xs x r) (h:RtS w W lv xs x X Rw nm vr ty nu fi mo r) (a:RtK ρ lv X Rw) (h32:x.nd.d.kind=32→1≤x.nd.kids.length) (hkl:x.nd.kids.length≤400):
  qaF.wp ⟨Tryz.prog,178,xR,[]⟩ (qw [.tmp 6] (RB w (vi (xs.map (·.nd)) x.nd))) (qF [.tmp 6] (RB w (vi (xs.map (·.nd)) x.nd))) ρ W:=by
 obtain ⟨c0,c1,c2,c3,c4,c5⟩:=h.cX;have e0:(⟨#[]⟩:ByteArray)=qc []:=rfl;have en:(⟨#[110,111,116]⟩:ByteArray)=qc [110,111,116]:=rfl;have hl:=h.kl;simp -implicitDefEqProofs [qaF,a.r4,c0];by_cases k5:x.nd.d.kind=5
 ·have es:vi (xs.map (·.nd)) x.nd=qco x.nd.d:=by unfold vi;rw [if_pos k5]
  rw [es];simp -implicitDefEqProofs [k5,a.r4,h.row];refine (qyT (x:=x) h.g h.m h.kv.is hh.d.name hh.d.vr hh.d.typ).mono ?_;rintro _ w2 ⟨rfl,hE⟩;simp -implicitDefEqProofs [RB];exact h.ext.trans' hE
 ·by_cases k6:x.nd.d.kind=6
  ·have es:vi (xs.map (·.nd)) x.nd=(decide (x.nd.d.name=[110,111,116])==decide (x.nd.kids.length=1)):=by unfold vi;rw [if_neg k5,if_pos k6]
   rw [es];simp -implicitDefEqProofs [k6,a.r4,c1,c5,h.kv.is,hl,en,qJ,RB];refine ⟨?_,h.ext⟩;congr 1;rw [Bool.eq_iff_iff];simp;omega
  ·by_cases U:x.nd.d.kind=32
   ·have es:vi (xs.map (·.nd)) x.nd=wb (xs.map (·.nd)) x.nd.kids.length 0 (x.nd.kids.drop 1):=by unfold vi;rw [if_neg k5,if_neg k6,if_pos U]
    have h1:=h32 U;rw [es];have V:=QY h.kv.is 1 1 (qk x.kv) (qv x.kv) (by rw [hl];exact h1) (y9 h.kv.is) (Nat.le_refl _);have t:=qjn h.kv 1 (by simpa using h1);generalize hb:wb (xs.map (·.nd)) x.nd.kids.length 0 (x.nd.kids.drop 1)=b;have h1':(1:Int)≤(x.nd.kids.length:Int):=by omega
    rw [hl] at V t;simp -implicitDefEqProofs [U,a.r4,c5,h.kv.is,hl,h1',V];generalize hkv:qY x.kv 1 1 x.nd.kids.length (qv x.kv)=kv at V t;obtain ⟨I,hI⟩:∃I:Nat→qa→World→Prop,∀j H w',I j H w'↔(RtK H lv X Rw∧H 150=kv∧H 151= .int .i64 ((x.nd.kids.length - 1:Nat):Int)∧RtS w w' lv xs x X Rw nm vr ty nu fi mo r∧wb (xs.map (·.nd)) x.nd.kids.length j ((x.nd.kids.drop 1).drop j)=b):=⟨_,fun _ _ _=>Iff.rfl⟩;refine jj 152 (x.nd.kids.length - 1) I (by simp) ((hI _ _ _).2 ⟨⟨by simp [a.r0],by simp [a.r4],by simp [a.r7]⟩,by simp,by simp,h,hb⟩) ?_;clear a hb h c0 c1 c2 c3 c4 c5 t;rintro j H w' hj rj hIw;obtain ⟨a,J,z,h,hb⟩:=(hI _ _ _).1 hIw;obtain ⟨c0,c1,c2,c3,c4,c5⟩:=h.cX;have t:=qjn h.kv 1 (by simpa using h1);rw [hl,hkv] at t;have hkl1:qk kv=x.nd.kids.length - 1:=by have:=t.len;simpa using this.symm
    by_cases E:j<x.nd.kids.length - 1
    ·have hjl:j<(x.nd.kids.drop 1).length:=by simpa using E
     have hj1:j+1<x.nd.kids.length:=by omega
     have o:=t.cell j (by simpa using E);have hget:(List.drop 1 (List.map encI x.nd.kids))[j]'(by simpa using E)=encI (x.nd.kids[j+1]):=by simp
     rw [hget] at o;have hin:=hh.hin x.nd.kids[j+1] (List.getElem_mem _);have hdr:(x.nd.kids.drop 1).drop j=x.nd.kids[j+1]::(x.nd.kids.drop 1).drop (j+1):=by
      rw [List.drop_eq_getElem_cons hjl];simp [List.drop_drop]
     rw [hdr] at hb;have c:((qh (xN (xs.map (·.nd)) x.nd.kids[j+1])|| !(!decide (xN (xs.map (·.nd)) x.nd.kids[j+1]=[])||decide (j+2<x.nd.kids.length)))&&wb (xs.map (·.nd)) x.nd.kids.length (j+1) ((x.nd.kids.drop 1).drop (j+1)))=b:=hb;rw [qmI hin] at c;generalize hk:x.nd.kids[j+1]=k at o hin c;have hkn:k.toNat<xs.length:=by omega
     have hkz:((k.toNat:Nat):Int)=k:=by omega
     have cn:w'.cell? (qD lv (k.toNat*6+1))=some (.string (qc (xs[k.toNat]).nd.d.name)):=by rw [h.rd.cell hkn (by omega)];rfl
     have O:(j:Int)<((x.nd.kids.length - 1:Nat):Int):=by omega
     simp -implicitDefEqProofs [qir,rj,z,O,qrM,J,V,hkl1,E,o,encI,a.r0,h.rd.cells.is,h.rd.len,hin.1,hin.2,cn];refine (L01.Qx h.g _).mono ?_;rintro _ w2 ⟨rfl,hE⟩;have h2:=h.to hE;obtain ⟨_,_,_,_,_,c5'⟩:=h2.cX;have Y:∀y:qa,y 0=lv→y 4= .pointer (some ⟨X,0,none⟩)→y 7= .pointer (some ⟨Rw,0,none⟩)→y 150=kv→y 151= .int .i64 ((x.nd.kids.length - 1:Nat):Int)→wb (xs.map (·.nd)) x.nd.kids.length (j+1) ((x.nd.kids.drop 1).drop (j+1))=b→I (j+1) y w2:=
      fun y a0 a4 a7 a150 a151 hb2=>(hI _ _ _).2 ⟨⟨a0,a4,a7⟩,a150,a151,h2,hb2⟩
     have hw:IntKind.i64.wrap ((x.nd.kids.length:Int) - 2)=(x.nd.kids.length:Int) - 2:=qp (by omega);have hwj:IntKind.i64.wrap ((j:Int)+1)=(j:Int)+1:=qp (by omega);generalize (xs[k.toNat]'hkn).nd.d.name=nm at c cn;cases hn:qh nm with
     |true=>
      rw [hn] at c;simp -implicitDefEqProofs [qiu,rj,hwj];exact Y _ (by simp [a.r0]) (by simp [a.r4]) (by simp [a.r7]) (by simp [J]) (by simp [z]) (by simpa using c)
     |false=>
      rw [hn] at c;by_cases Z:nm=[]
      ·subst Z;by_cases hj2:j+2<x.nd.kids.length
       ·have S:(j:Int)<(x.nd.kids.length:Int) - 2:=by omega
        simp -implicitDefEqProofs [e0,a.r4,c5',h.kv.is,hl,hw,S,RB];refine ⟨?_,h2.ext⟩;rw [←c];simp [hj2]
       ·have S:¬(j:Int)<(x.nd.kids.length:Int) - 2:=by omega
        simp -implicitDefEqProofs [e0,a.r4,c5',h.kv.is,hl,hw,S,qiu,rj,hwj];exact Y _ (by simp [a.r0]) (by simp [a.r4]) (by simp [a.r7]) (by simp [J]) (by simp [z]) (by simpa [hj2] using c)
      ·simp -implicitDefEqProofs [e0,qJ,Z,RB];refine ⟨?_,h2.ext⟩;rw [←c];simp [Z]
    ·have O:¬(j:Int)<((x.nd.kids.length - 1:Nat):Int):=by omega
     have hd0:(x.nd.kids.drop 1).drop j=[]:=by rw [List.drop_eq_nil_iff];simp;omega
     rw [hd0] at hb;simp -implicitDefEqProofs [qir,rj,z,O,E,qit,RB];exact ⟨hb.symm,h.ext⟩
   ·have es:vi (xs.map (·.nd)) x.nd=true:=by unfold vi;rw [if_neg k5,if_neg k6,if_neg U]
    rw [es];have k5':¬(x.nd.d.kind:Int)=5:=by omega
    have k6':¬(x.nd.d.kind:Int)=6:=by omega
    have k32':¬(x.nd.d.kind:Int)=32:=by omega
    simp -implicitDefEqProofs [k5',k6',k32',qit,RB];exact h.ext
theorem qz1 {w:World} {v:Value} {l:List (Nat→Bool)} (h:xi w v l) {i:Nat} (a:i<l.length):qo v=true∧qk v=l.length∧∃u,w.cell? (qD v i)=some u∧vD w u l[i]:=by
 rcases h with ⟨_,rfl⟩|⟨B,cs,rfl,j,c⟩
 ·simp at a
 ·have g:=c.len;refine ⟨by simp [qo],rfl,cs[i]'(by omega), ?_,c.get i (by omega) a⟩;simp only [qD,Nat.zero_add];rw [j.cell];simp [g,a]
theorem qz0 {w:World} {v:Value} {l:List (Nat→Bool)} (h:xi w v l):qo v=true∧qk v=l.length:=by
 rcases h with ⟨rfl,rfl⟩|⟨B,cs,rfl,c,a⟩
 ·exact ⟨rfl,rfl⟩
 ·exact ⟨by simp [qo],rfl⟩
theorem qwW (hh:RtH xs x r) (h:RtS w W lv xs x X Rw nm vr ty nu fi mo r) (a:RtK ρ lv X Rw) (h1:r.least≤x.nd.kids.length) (h2:x.nd.kids.length≤r.most):
  qis.wp ⟨Tryz.prog,178,xR,[]⟩ (qw [.tmp 6] (RB w (qQ (xs.map (·.nd)) r 0 x.nd.kids&&vi (xs.map (·.nd)) x.nd))) (qF [.tmp 6] (RB w (qQ (xs.map (·.nd)) r 0 x.nd.kids&&vi (xs.map (·.nd)) x.nd))) ρ W:=by
 obtain ⟨c0,c1,c2,c3,c4,c5⟩:=h.cX;have hl:=h.kl;have hmost:r.most≤400:=qwX _ _ hh.row;have h32:x.nd.d.kind=32→1≤x.nd.kids.length:=fun e=>by
  have:=hh.row;rw [e] at this;have hr:r.least=2:=by
   have h3:zZ 32=some {first:=[qt 20],more:=some (qt 33),least:=2,most:=400}:=rfl;rw [h3] at this;cases this;rfl
  omega
 generalize Z:(qQ (xs.map (·.nd)) r 0 x.nd.kids&&vi (xs.map (·.nd)) x.nd)=b;simp -implicitDefEqProofs [qis,a.r4,c5,h.kv.is,hl];obtain ⟨I,hI⟩:∃I:Nat→qa→World→Prop,∀j U w',I j U w'↔(RtK U lv X Rw∧U 97=x.kv∧U 98= .int .i64 (x.nd.kids.length:Int)∧RtS w w' lv xs x X Rw nm vr ty nu fi mo r∧(qQ (xs.map (·.nd)) r j (x.nd.kids.drop j)&&vi (xs.map (·.nd)) x.nd)=b):=⟨_,fun _ _ _=>Iff.rfl⟩;refine jj 99 x.nd.kids.length I (by simp) ((hI _ _ _).2 ⟨⟨by simp [a.r0],by simp [a.r4],by simp [a.r7]⟩,by simp,by simp,h,Z⟩) ?_;clear a Z h c0 c1 c2 c3 c4 c5;rintro j U w' hj rj hIw;obtain ⟨a,Y,O,h,Z⟩:=(hI _ _ _).1 hIw;obtain ⟨d0,d1,d2,d3,d4,d5,d6,d7⟩:=h.cR;have hwj:IntKind.i64.wrap ((j:Int)+1)=(j:Int)+1:=qp (by omega);by_cases y:j<x.nd.kids.length
 ·have c:=h.kv.cell j (by simpa using y);have hget:(List.map encI x.nd.kids)[j]'(by simpa using y)=encI (x.nd.kids[j]):=by simp
  rw [hget] at c;have hin:=hh.hin x.nd.kids[j] (List.getElem_mem _);rw [List.drop_eq_getElem_cons y] at Z;have z:(((match r.first[j]? with|some f=>f (jw (xs.map (·.nd)) x.nd.kids[j])|none=>(match r.more with|some f=>f (jw (xs.map (·.nd)) x.nd.kids[j])|none=>false))&&qQ (xs.map (·.nd)) r (j+1) (x.nd.kids.drop (j+1)))&&vi (xs.map (·.nd)) x.nd)=b:=Z;rw [qmJ hin] at z;generalize hk:x.nd.kids[j]=k at c hin z;have aa:k.toNat<xs.length:=by omega
  have hkz:((k.toNat:Nat):Int)=k:=by omega
  have hrow:=h.rd.row aa;obtain ⟨hfi,hfl⟩:=qz0 h.rc.first;have E:(j:Int)<(x.nd.kids.length:Int):=by omega
  have go:∀(g:qa) (u:Value) (f:Nat→Bool),RtK g lv X Rw→g 97=x.kv→g 98= .int .i64 (x.nd.kids.length:Int)→g 99= .int .i64 (j:Int)→g 10= .int .i64 k→g 11=u→vD w' u f→((f (xs[k.toNat]'aa).nd.d.kind&&qQ (xs.map (·.nd)) r (j+1) (x.nd.kids.drop (j+1)))&&vi (xs.map (·.nd)) x.nd)=b→
    qiy.wp ⟨Tryz.prog,178,xR,[]⟩ (qet.wp ⟨Tryz.prog,178,xR,[]⟩ (fun o ab=>o 99= .int .i64 ((j:Int)+1)∧I (j+1) o ab) (((qF [.tmp 6] (RB w b)).blk 0 (qaF.wp ⟨Tryz.prog,178,xR,[]⟩ (qw [.tmp 6] (RB w b)) (qF [.tmp 6] (RB w b)))))) ((((qF [.tmp 6] (RB w b)).blk 0 (qaF.wp ⟨Tryz.prog,178,xR,[]⟩ (qw [.tmp 6] (RB w b)) (qF [.tmp 6] (RB w b))))).blk 1 (qet.wp ⟨Tryz.prog,178,xR,[]⟩ (fun o ab=>o 99= .int .i64 ((j:Int)+1)∧I (j+1) o ab) (((qF [.tmp 6] (RB w b)).blk 0 (qaF.wp ⟨Tryz.prog,178,xR,[]⟩ (qw [.tmp 6] (RB w b)) (qF [.tmp 6] (RB w b))))))) g w':=by
   intro g u f H a97 a98 a99 a10 a11 hu J;obtain ⟨F,caps,rfl,hcb,hc⟩:=hu.fn;simp -implicitDefEqProofs [qiy,a11,qG,H.r0,a10,h.rd.cells.is,h.rd.len,hin.1,hin.2,hrow];refine kp hcb (t:=122) (fs:= #[]) (caps:=caps) (by simp) ?_;simp -implicitDefEqProofs;refine (hc w' (qz _) xs[k.toNat] (h.rd.kids _ (List.getElem_mem _)).is (hh.ds _ (List.getElem_mem _)).kind).mono ?_;rintro _ w2 ⟨rfl,hE⟩;have h2:=h.to hE;cases hf:f (xs[k.toNat]'aa).nd.d.kind with
   |false=>
    rw [hf] at J;simp -implicitDefEqProofs [RB];exact ⟨by rw [←J];rfl,h2.ext⟩
   |true=>
    rw [hf] at J;simp -implicitDefEqProofs [qet,a99,hwj,y];exact (hI _ _ _).2 ⟨⟨by simp [H.r0],by simp [H.r4],by simp [H.r7]⟩,by simp [a97],by simp [a98],h2,by simpa using J⟩
  by_cases V:j<r.first.length
  ·have S:(j:Int)<(r.first.length:Int):=by omega
   obtain ⟨_,_,u,hu,hku⟩:=qz1 h.rc.first V;have e1:r.first[j]? =some r.first[j]:=List.getElem?_eq_getElem V;rw [e1] at z;simp -implicitDefEqProofs [qeq,rj,O,Y,E,y,qiv,h.kv.is,hl,c,encI,a.r7,d4,d5,hfi,hfl,S,V,hu];exact go _ u _ ⟨by simp [a.r0],by simp [a.r4],by simp [a.r7]⟩ (by simp [Y]) (by simp [O]) (by simp [rj]) (by simp) (by simp) hku z
  ·have S:¬(j:Int)<(r.first.length:Int):=by omega
   have e1:r.first[j]? =none:=List.getElem?_eq_none (by omega);rw [e1] at z;cases hm:r.more with
   |none=>
    have:=qwY _ _ hh.row hm;omega
   |some f=>
    rw [hm] at z;have hmo:=h.rc.more;rw [hm] at hmo;simp -implicitDefEqProofs [qeq,rj,O,Y,E,y,qiv,h.kv.is,hl,c,encI,a.r7,d4,d5,hfi,hfl,S,V];exact go _ mo f ⟨by simp [a.r0],by simp [a.r4],by simp [a.r7]⟩ (by simp [Y]) (by simp [O]) (by simp [rj]) (by simp) (by simp) hmo z
 ·have E:¬(j:Int)<(x.nd.kids.length:Int):=by omega
  have hd0:x.nd.kids.drop j=[]:=List.drop_eq_nil_iff.2 (by omega);rw [hd0] at Z;have J:vi (xs.map (·.nd)) x.nd=b:=by simpa [qQ] using Z
  simp -implicitDefEqProofs [qeq,rj,O,E,y];rw [←J];exact qwU hh h ⟨by simp [a.r0],by simp [a.r4],by simp [a.r7]⟩ h32 (by omega)
theorem qlc {num:Bool} (I:RtH xs x r) (h:RtS w W lv xs x X Rw nm vr ty nu fi mo r) (j:RtK ρ lv X Rw) (r8:ρ 8= .bool num) {b:Bool}
  (k:(jd x.nd.d.name r.name&&jd x.nd.d.vr r.vr&&jd x.nd.d.typ r.typ&&num&&(decide (r.least≤x.nd.kids.length)&&decide (x.nd.kids.length≤r.most))&&qQ (xs.map (·.nd)) r 0 x.nd.kids&&vi (xs.map (·.nd)) x.nd)=b):
  qix.wp ⟨Tryz.prog,178,xR,[]⟩ (qw [.tmp 6] (RB w b)) (qF [.tmp 6] (RB w b)) ρ W:=by
 obtain ⟨c0,c1,c2,c3,c4,c5⟩:=h.cX;obtain ⟨O,Z,S,d3,d4,d5,U,d7⟩:=h.cR;have V:=h.kl;have fin:∀(o:qa) (W2:World),qb W W2→o 95= .bool true→b=false→qes.wp ⟨Tryz.prog,178,xR,[]⟩ (qw [.tmp 6] (RB w b)) (qF [.tmp 6] (RB w b)) o W2:=by
  intro o W2 t e1 Y;subst Y;simp -implicitDefEqProofs [qes,e1,RB];exact h.ext.trans' t
 simp -implicitDefEqProofs [-ja,xI,xJ,xH,qix,j.r4,j.r7,c1,O];refine qbC (.bool (jd x.nd.d.name r.name)) qjo (fun w' a=> ?_) ?_
 ·simp;refine (qgA (h.to a).g _ I.d.name (h.to a).rc.name).mono ?_;rintro _ w2 ⟨rfl,t⟩;exact ⟨rfl,a.trans' t⟩
 cases y:jd x.nd.d.name r.name with
 |false=>
  rw [y] at k;simp -implicitDefEqProofs [-ja,xI,xJ,xH];intro W2 c;exact fin _ W2 c (by simp) (by rw [←k];rfl)
 |true=>
 simp -implicitDefEqProofs [-ja,xI,xJ,xH,j.r4,j.r7,c2,Z];refine qbC (.bool (jd x.nd.d.vr r.vr)) qjo (fun w' a=> ?_) ?_
 ·simp;refine (qgA (h.to a).g _ I.d.vr (h.to a).rc.vr).mono ?_;rintro _ w2 ⟨rfl,t⟩;exact ⟨rfl,a.trans' t⟩
 cases E:jd x.nd.d.vr r.vr with
 |false=>
  rw [y,E] at k;simp -implicitDefEqProofs [-ja,xI,xJ,xH];intro W2 c;exact fin _ W2 c (by simp) (by rw [←k];rfl)
 |true=>
 simp -implicitDefEqProofs [-ja,xI,xJ,xH,j.r4,j.r7,c3,S];refine qbC (.bool (jd x.nd.d.typ r.typ)) qjo (fun w' a=> ?_) ?_
 ·simp;refine (qgA (h.to a).g _ I.d.typ (h.to a).rc.typ).mono ?_;rintro _ w2 ⟨rfl,t⟩;exact ⟨rfl,a.trans' t⟩
 cases H:jd x.nd.d.typ r.typ with
 |false=>
  rw [y,E,H] at k;simp -implicitDefEqProofs [-ja,xI,xJ,xH];intro W2 c;exact fin _ W2 c (by simp) (by rw [←k];rfl)
 |true=>
 cases num with
 |false=>
  rw [y,E,H] at k;simp -implicitDefEqProofs [-ja,xI,xJ,xH,r8];intro W2 c;exact fin _ W2 c (by simp) (by rw [←k];rfl)
 |true=>
 simp -implicitDefEqProofs [-ja,xI,xJ,xH,r8,j.r4,j.r7,c5,h.kv.is,V,U,d7];refine qbC (.bool (decide (r.least≤x.nd.kids.length)&&decide (x.nd.kids.length≤r.most))) qFP (fun w' a=> ?_) ?_
 ·simp;refine (qar w' _ _ _).mono ?_;rintro _ _ ⟨rfl,rfl⟩;refine ⟨?_,a⟩;simp
 cases z:(decide (r.least≤x.nd.kids.length)&&decide (x.nd.kids.length≤r.most)) with
 |false=>
  rw [y,E,H,z] at k;simp -implicitDefEqProofs [-ja,xI,xJ,xH];intro W2 c;exact fin _ W2 c (by simp) (by rw [←k];rfl)
 |true=>
  rw [y,E,H,z] at k;simp only [Bool.and_eq_true,decide_eq_true_eq] at z;simp -implicitDefEqProofs [-ja,xI,xJ,xH];intro W2 c;have J:(qQ (xs.map (·.nd)) r 0 x.nd.kids&&vi (xs.map (·.nd)) x.nd)=b:=k;simp -implicitDefEqProofs [qes];rw [←J];exact qwW I (h.to c) ⟨by simp [j.r0],by simp [j.r4],by simp [j.r7]⟩ z.1 z.2
theorem qwV (j:RtH xs x r) (h:RtS w W lv xs x X Rw nm vr ty nu fi mo r) (a:RtK ρ lv X Rw):
  qiw.wp ⟨Tryz.prog,178,xR,[]⟩ (qw [.tmp 6] (RB w (qZ (xs.map (·.nd)) x.nd))) (qF [.tmp 6] (RB w (qZ (xs.map (·.nd)) x.nd))) ρ W:=by
 obtain ⟨c0,c1,c2,c3,c4,c5⟩:=h.cX;obtain ⟨O,Z,S,I,d4,Y,U,d7⟩:=h.cR;generalize k:qZ (xs.map (·.nd)) x.nd=b;unfold qZ at k;rw [j.row] at k;simp -implicitDefEqProofs [qiw,a.r4,a.r7,c4,I];cases hn:r.n with
 |none=>
  have c:=h.rc.n;rw [hn] at c;cases c;refine qti qsW (v:= .nilFunc) (by simp) (.inl rfl) ?_;simp -implicitDefEqProofs [wk];refine qlc (num:=decide (x.nd.d.n=0)) j h ⟨by simp [a.r0],by simp [a.r4],by simp [a.r7]⟩ (by simp;rw [Bool.eq_iff_iff];simp) ?_;simpa [hn] using k
 |some f=>
  have c:=h.rc.n;rw [hn] at c;obtain ⟨F,caps,rfl,y,E⟩:=xV.fn c;refine qti qsW (v:=qG F caps) (by simp) (qur _ _) ?_;simp -implicitDefEqProofs [wk,qG];refine vH qDL (fun W'=>Blk W' X (qi x).toArray 44∧Blk W' Rw (vz nm vr ty (qG F caps) fi mo r) 241) fun w3 g _=>⟨⟨h.bX.ext g,h.bR.ext g⟩, ?_⟩;have o:=h.to g;have H:∀W',(Blk W' X (qi x).toArray 44∧Blk W' Rw (vz nm vr ty (qG F caps) fi mo r) 241)→W'.cell? ⟨X,4,none⟩=some (.int .i64 x.nd.d.n)∧W'.cell? ⟨Rw,3,none⟩=some (qG F caps):=fun W' j=>⟨by rw [j.1.cell];rfl,by rw [j.2.cell];rfl⟩;have z:Blk w3 X (qi x).toArray 44∧Blk w3 Rw (vz nm vr ty (qG F caps) fi mo r) 241:=⟨o.bX,o.bR⟩;simp+contextual -implicitDefEqProofs [qrK,H,z,a.r4,a.r7];refine kp y (t:=45) (fs:= #[]) (caps:=caps) (by simp [qG]) ?_;simp -implicitDefEqProofs;refine (E w3 g x.nd.d.n).mono ?_;rintro _ V ⟨rfl,J⟩;simp -implicitDefEqProofs;refine qlc (num:=f x.nd.d.n) j (o.to J) ⟨by simp [a.r0],by simp [a.r4],by simp [a.r7]⟩ (by simp) ?_;simpa [hn] using k
end
section
variable {w:World} {lv:Value} {xs:List NV} {x:NV} {A:Nat} {cs:List Value} {R:Ending→World→Prop}
theorem qyw (hG:L01.G w) (hM:vY w) (hR:Rd w lv xs) (hx:Cells w x.kv 1 (x.nd.kids.map encI)) (hd:DOk x.nd.d) (hds:∀y∈xs,DOk y.nd.d) (ab:xs.length≤400) (hin:∀k∈x.nd.kids,0≤k∧k<xs.length) (hA:Blk w A cs.toArray 175) (hT:wW w cs):
  Calls Tryz.prog 147 #[lv,ju x, .pointer (some ⟨A,0,none⟩)] w (RB w (qZ (xs.map (·.nd)) x.nd)):=by
 generalize I:RB w (qZ (xs.map (·.nd)) x.nd)=R;have H:=hd.kind;refine qDO fun ρ r0 r1 r2=> ?_;simp -implicitDefEqProofs [qrO];refine vv fun X w1 hX j J _=> ?_;rw [show qd ρ (.tmp 1)=ju x by simp [r1],kf hx.is] at J;simp -implicitDefEqProofs;refine vH qDN (fun W=>Blk W X (qi x).toArray 44) fun w2 c _=>⟨J.ext c, ?_⟩;have E:=J.ext c;have U:=hA.ext (j.trans' c);have cX:∀W,Blk W X (qi x).toArray 44→W.cell? ⟨X,0,none⟩=some (.int .u8 (x.nd.d.kind:Int)):=fun W h=>by rw [h.cell];rfl
 by_cases hk:38≤x.nd.d.kind
 ·have z:(38:Int)≤(x.nd.d.kind:Int):=by omega
  simp+contextual -implicitDefEqProofs [qiq,cX,E,k8 H,z,r2,qer];rw [←I];refine ⟨?_,j.trans' c⟩;simp [qZ,qw0 hk]
 ·have z:¬(38:Int)≤(x.nd.d.kind:Int):=by omega
  obtain ⟨inf,V,S⟩:=qEz;simp+contextual -implicitDefEqProofs [qiq,cX,E,k8 H,z,r2];refine qeM qjT V S (B:=A) (o:=0) (k:=x.nd.d.kind) (by simp) (by simp;rfl) (by omega) ?_;have O:x.nd.d.kind<cs.length:=by rw [hT.1];omega
  have cA:∀W,Blk W A cs.toArray 175→W.cell? ⟨A,x.nd.d.kind,none⟩=some (cs.getD x.nd.d.kind undef):=fun W h=>by
   rw [h.cell,List.getD_eq_getElem?_getD,List.getElem?_eq_getElem O];simp [O]
  have g:=hT.2 x.nd.d.kind (by omega);simp -implicitDefEqProofs [cA w2 U];cases hr:zZ x.nd.d.kind with
  |none=>
   rw [hr] at g;have e:cs.getD x.nd.d.kind undef= .pointer none:=g;refine qtj qjU (p:=none) (by simp;simpa using e) ?_;simp -implicitDefEqProofs [qer];rw [←I];refine ⟨?_,j.trans' c⟩;simp [qZ,hr]
  |some r=>
   rw [hr] at g;obtain ⟨Rw,nm,vr,ty,nu,fi,mo,e,hbR,hRC⟩:=g;refine qtj qjU (p:=some ⟨Rw,0,none⟩) (by simp;simpa using e) ?_;simp -implicitDefEqProofs [qer,qrN];refine vH qDM (fun W=>Blk W X (qi x).toArray 44) fun w3 t _=>⟨E.ext t, ?_⟩;have Y:=E.ext t;have hA3:=U.ext t;simp+contextual -implicitDefEqProofs [qrL,cX,Y,k8 H,z,r2];refine qeM qjT V S (B:=A) (o:=0) (k:=x.nd.d.kind) (by simp) (by simp;rfl) (by omega) ?_;have Z:=cA w3 hA3;rw [e] at Z;have aa:=hbR.ext (((j.trans' c).trans' t));have a:=(j.trans' c).trans' t;simp -implicitDefEqProofs [Z];rw [←I];exact qwV ⟨hd,hds,ab,hin,hr⟩ ⟨a,hR.ext a,Y,aa,hRC.at' (qC.ext a),hx.ext a,hG.ext a,hM.ext a⟩ ⟨by simp [r0],by simp,by simp⟩
end
@[simp] theorem qFQ:qf Tryz.prog 50=true:=by kernel_rfl
@[simp] theorem qJ4:qf Tryz.prog 26=true:=by kernel_rfl
theorem ql0 {w:World} {a b:Value} {xs ys:List Int} (E:Cells w a 1 (xs.map encI)) (O:Cells w b 1 (ys.map encI)) (hbd:xs.length<4611686018427387904):Calls Tryz.prog 50 #[a,b] w fun e w'=>e= .returned (.bool (decide (xs=ys)))∧qb w w':=by
 have k:qk a=xs.length:=by simpa using E.len.symm
 have z:qk b=ys.length:=by simpa using O.len.symm
 refine qA1 fun ρ r0 r1=> ?_;simp -implicitDefEqProofs [qok,r0,r1,E.is,O.is,k,z];by_cases y:xs.length=ys.length
 ·simp -implicitDefEqProofs [y,qog,r0,E.is,k];obtain ⟨I,Y⟩:∃I:Nat→qa→World→Prop,∀j c w',I j c w'↔(c 0=a∧c 1=b∧c 12= .int .i64 (ys.length:Int)∧qb w w'∧xs.take j=ys.take j):=⟨_,fun _ _ _=>Iff.rfl⟩;refine jj 13 ys.length I (by simp) ((Y _ _ _).2 ⟨by simp [r0],by simp [r1],by simp,qz _,by simp⟩) ?_;rintro j c w' hj S V;obtain ⟨r0,r1,o,H,h⟩:=(Y _ _ _).1 V;have U:IntKind.i64.wrap ((j:Int)+1)=(j:Int)+1:=qp (by omega);by_cases g:j<ys.length
  ·have Z:=(E.ext H).cell j (by simpa [y] using g);have cb:=(O.ext H).cell j (by simpa using g);simp only [List.getElem_map,encI] at Z cb;simp -implicitDefEqProofs [qhl,S,o,g,qoi,r0,r1,E.is,k,O.is,z,y,Z,cb];intro w2 t;by_cases J:xs[j]=ys[j]
   ·simp -implicitDefEqProofs [qhm,qoj,J,S,U];refine (Y _ _ _).2 ⟨by simp [r0],by simp [r1],by simp [o],H.trans' t, ?_⟩;rw [List.take_succ_eq_append_getElem (by omega),List.take_succ_eq_append_getElem (by omega),h,J]
   ·simp -implicitDefEqProofs [qhm,J];exact ⟨fun e=>J (by simp [e]),H.trans' t⟩
  ·simp -implicitDefEqProofs [qhl,S,o,g,qoh];refine ⟨?_,H⟩;rw [List.take_of_length_le (by omega),List.take_of_length_le (by omega)] at h;exact h
 ·simp -implicitDefEqProofs [y];exact ⟨fun e=>y (by rw [e]),qz _⟩
theorem qzd {base e:Nat} {w:World} {v:Value} {xs:List Value} (h:Own base e 1 w v xs) (l:Nat) (j:l≤xs.length):Own base e 1 w (qY v 1 0 l l) (xs.take l):=by
 rcases h with ⟨rfl,rfl⟩|⟨g,off,n,cap,cur,rfl,o,k,a,z,y,t,c⟩
 ·have:l=0:=by simpa using j
  subst this;exact .inl ⟨by simp [qY],rfl⟩
 ·have hn:n=xs.length:=by omega
  have es:qY (.slice (some ⟨g,off,none⟩) n cap) 1 0 l l= .slice (some ⟨g,off,none⟩) l l:=by
   simp [qY]
  rw [es];refine .inr ⟨g,off,l,l,cur,rfl,o,k,by simp;omega,Nat.le_refl _,by omega,by omega, ?_⟩;rw [←c,List.take_take];congr 1;omega
def wI:Option (List Int)→Bool|some o=>decide (o.length=1)|none=>false
theorem ww:vG Tryz.prog 44=some #[.int .u8 0, .string ⟨#[]⟩, .string ⟨#[]⟩, .string ⟨#[]⟩, .int .i64 0, .slice none 0 0]:=by kernel_rfl
theorem qyx {w:World} {lv:Value} {xs:List NV} (hR:Rd w lv xs) (hlen:xs.length≤1000000) (hkl:∀x∈xs,x.nd.kids.length≤1000000):Calls Tryz.prog 98 #[lv] w fun e w'=>e= .returned (.bool (vA (xs.map (·.nd))))∧qb w w':=by
 have hl:=hR.len;have his:=hR.cells.is;generalize U:vm (xs.map (·.nd)) 0 []=b;have hp:vA (xs.map (·.nd))=wI b:=by unfold vA;rw [U];cases b<;>rfl
 rw [hp];clear hp;refine qAl fun ρ r0=> ?_;simp -implicitDefEqProofs [qnd,r0,his,hl];generalize ab:(fun (e:Ending) (w':World)=>e= .returned (.bool (wI b))∧qb w w')=R;obtain ⟨I,hI⟩:∃I:Nat→qa→World→Prop,∀j g w',I j g w'↔(g 7=lv∧g 8= .int .i64 (xs.length:Int)∧∃os:List Int,Own w.heap.size 3 1 w' (g 3) (os.map encI)∧os.length≤j∧qb w w'∧vm ((xs.drop j).map (·.nd)) j os=b):=⟨_,fun _ _ _=>Iff.rfl⟩;refine jj 9 xs.length I (by simp) ((hI _ _ _).2 ⟨by simp,by simp,[],by simpa using Own.nil _ _ _ _,Nat.le_refl _,qz _,U⟩) ?_;clear U r0;rintro j g w' hj rj hIw;obtain ⟨r7,r8,os,O,hol,hE,U⟩:=(hI _ _ _).1 hIw;have Y:=hR.ext hE;generalize S:g 3=v3 at O;have z:=O.isl;have hoc:=L01.jM O;have t:qk v3=os.length:=by simpa using hoc.len.symm
 have hwj:IntKind.i64.wrap ((j:Int)+1)=(j:Int)+1:=qp (by omega);by_cases o:j<xs.length
 ·rw [List.drop_eq_getElem_cons o] at U;have V:=Y.row o;have hk:=Y.kids xs[j] (List.getElem_mem _);have hkL:qk xs[j].kv=xs[j].nd.kids.length:=by simpa using hk.len.symm
  have hklj:=hkl xs[j] (List.getElem_mem _);have E:=vl hk.is;have hko:=vU hk.is;generalize xs[j]=x at V hk hkL hklj E hko U;have a:(if x.nd.kids.length≤os.length∧os.drop (os.length - x.nd.kids.length)=x.nd.kids then vm ((xs.drop (j+1)).map (·.nd)) (j+1) (os.take (os.length - x.nd.kids.length)++[(j:Int)]) else none)=b:=U;have H:(j:Int)<(xs.length:Int):=by omega
  simp -implicitDefEqProofs [qg9,rj,r8,H,o,qna,r7,Y.cells.is,hl,V];refine qR ww fun X w1 hX hE1 hb1 _=> ?_;simp -implicitDefEqProofs;refine jl (B:=X) (by simp) hb1 (by simp [Value.cells,qi,E]) (by simp [Value.cells,qi,E,hko]) (by simpa [Value.cells,qi,E] using wE) fun w2 hO2 hb2=> ?_;simp -implicitDefEqProofs [Value.cells,qi,E] at hb2;have k:qb w' w2:=hO2.ext hE1 hX;have c5:w2.cell? ⟨X,5,none⟩=some x.kv:=by rw [hb2.cell];rfl
  have hw:IntKind.i64.wrap ((os.length:Int) - (x.nd.kids.length:Int))=(os.length:Int) - (x.nd.kids.length:Int):=qp (by omega);simp -implicitDefEqProofs [-ja,xI,xJ,xH,S,z,t,c5,hk.is,hkL,hw];by_cases y:x.nd.kids.length≤os.length
  ·have hn:¬((os.length:Int) - (x.nd.kids.length:Int)<0):=by omega
   have hn0:(0:Int)≤(os.length:Int) - (x.nd.kids.length:Int):=by omega
   have hn1:(os.length:Int) - (x.nd.kids.length:Int)≤(os.length:Int):=by omega
   have hnn:((os.length:Int) - (x.nd.kids.length:Int)).toNat=os.length - x.nd.kids.length:=by omega
   simp -implicitDefEqProofs [-ja,xI,xJ,xH,y,hn,S,z,t,hn0,hn1,hnn,c5];refine qbC (.bool (decide (os.drop (os.length - x.nd.kids.length)=x.nd.kids))) qFQ (fun w3 aa=> ?_) ?_
   ·simp;have hd:=qjn (hoc.ext (k.trans' aa)) (os.length - x.nd.kids.length) (by simp);rw [t,←List.map_drop] at hd;refine (ql0 hd (hk.ext (k.trans' aa)) (by simp;omega)).mono ?_;rintro _ w4 ⟨rfl,J⟩;exact ⟨rfl,aa.trans' J⟩
   by_cases he:os.drop (os.length - x.nd.kids.length)=x.nd.kids
   ·rw [if_pos ⟨y,he⟩] at a;simp -implicitDefEqProofs [-ja,xI,xJ,xH,he];intro w3 c;have hE03:=(hE.trans' k).trans' c;have ho3:=qzd ((O.ext k).ext c) (os.length - x.nd.kids.length) (by simp);have hcap:=y9 z;rw [t] at hcap;have hn2:(os.length:Int) - (x.nd.kids.length:Int)≤(qv v3:Int):=by omega
    simp -implicitDefEqProofs [qdT,qnc,S,z,y,hn0,hnn,hn2];refine jN QB (by decide) (by decide) (by simp [Value.cells]) fun Z w4 hZ J hb4 _=> ?_;simp -implicitDefEqProofs [Value.cells] at hb4⊢;refine kF QH (W0:=w) (hE03.trans' J) (sv:=qY v3 1 0 (os.length - x.nd.kids.length) (os.length - x.nd.kids.length)) (xv:= .slice (some ⟨Z,0,none⟩) 1 1) (by simp) (by simp) (ho3.ext J) (Blk.cells (cs:=[encI (j:Int)]) (by simpa [encI] using hb4) rfl) (by simp [encI,Value.oneCell']) (by simp;omega) (by simp;omega) fun v' w5 hE5 ho5 _ _=> ?_;simp -implicitDefEqProofs [qnb,rj,hwj,o];exact (hI _ _ _).2 ⟨by simp [r7],by simp [r8],os.take (os.length - x.nd.kids.length)++[(j:Int)],by simpa [List.map_take] using ho5,by simp;omega,hE5,a⟩
   ·rw [if_neg (fun h=>he h.2)] at a;subst a;simp -implicitDefEqProofs [-ja,xI,xJ,xH,he];intro w3 c;simp -implicitDefEqProofs [qdT];rw [←ab];exact ⟨rfl,(hE.trans' k).trans' c⟩
  ·rw [if_neg (fun h=>y h.1)] at a;subst a;have hn:((os.length:Int) - (x.nd.kids.length:Int)<0):=by omega
   simp -implicitDefEqProofs [-ja,xI,xJ,xH,hn,y];intro w3 c;simp -implicitDefEqProofs [qdT];rw [←ab];exact ⟨rfl,(hE.trans' k).trans' c⟩
 ·have hd0:xs.drop j=[]:=List.drop_eq_nil_iff.2 (by omega);rw [hd0] at U;have a:some os=b:=U;subst a;have H:¬(j:Int)<(xs.length:Int):=by omega
  simp -implicitDefEqProofs [qg9,rj,r8,H,o,qm9,S,z,t];rw [←ab];refine ⟨?_,hE⟩;simp only [wI];congr 2;rw [Bool.eq_iff_iff];simp;omega
theorem qyM {w:World} {lv:Value} {xs:List NV} (U:Rd w lv xs) (aa:xs.length≤1000000) {F:FuncId} {caps:Array Value} (S:qf Tryz.prog F=true) {p:NV→Bool} (hc:∀W,qb w W→∀x∈xs,Calls Tryz.prog F (#[ju x]++caps) W fun e w'=>e= .returned (.bool (p x))∧qb W w'):
  Calls Tryz.prog 224 #[lv,qG F caps] w fun e w'=>∃n:Int,e= .returned (.int .i64 n)∧decide (0≤n)=xs.any p∧qb w w':=by
 have Z:=U.len;refine qCE fun ρ r0 r1=> ?_;simp -implicitDefEqProofs [qqA,r0,U.cells.is,Z];generalize y:(fun (e:Ending) (w':World)=>∃n:Int,e= .returned (.int .i64 n)∧decide (0≤n)=xs.any p∧qb w w')=R;obtain ⟨I,V⟩:∃I:Nat→qa→World→Prop,∀j a w',I j a w'↔(a 0=lv∧a 1=qG F caps∧a 7= .int .i64 (xs.length:Int)∧qb w w'∧(xs.take j).any p=false):=⟨_,fun _ _ _=>Iff.rfl⟩;refine jj 8 xs.length I (by simp) ((V _ _ _).2 ⟨by simp [r0],by simp [r1],by simp,qz _,by simp⟩) ?_;clear r0 r1;rintro j a w' hj H O;obtain ⟨r0,r1,r7,E,c⟩:=(V _ _ _).1 O;have J:IntKind.i64.wrap ((j:Int)+1)=(j:Int)+1:=qp (by omega);have o:=U.ext E;by_cases h:j<xs.length
 ·have g:(j:Int)<(xs.length:Int):=by omega
  have z:=o.row h;simp -implicitDefEqProofs [qh1,H,r7,g,h,qqy,r0,r1,o.cells.is,Z,z];refine kp S (t:=11) (fs:= #[]) (caps:=caps) (by simp [qG]) ?_;simp -implicitDefEqProofs;refine (hc w' E xs[j] (List.getElem_mem _)).mono ?_;rintro _ w2 ⟨rfl,k⟩;cases Y:p xs[j] with
  |true=>
   simp -implicitDefEqProofs;rw [←y];refine ⟨j,rfl, ?_,E.trans' k⟩;rw [List.any_eq_true.2 ⟨xs[j],List.getElem_mem _,Y⟩];simp
  |false=>
   simp -implicitDefEqProofs [qqz,H,J,h];refine (V _ _ _).2 ⟨by simp [r0],by simp [r1],by simp [r7],E.trans' k, ?_⟩;rw [List.take_succ_eq_append_getElem h,List.any_append,c];simp [Y]
 ·have g:¬(j:Int)<(xs.length:Int):=by omega
  rw [List.take_of_length_le (by omega)] at c;simp -implicitDefEqProofs [qh1,H,r7,g,h,qqx];rw [←y];exact ⟨-1,rfl,by rw [c];rfl,E⟩
theorem qyR {w:World} {lv:Value} {xs:List NV} (h:Rd w lv xs) (a:xs.length≤1000000) {F:FuncId} {caps:Array Value} (c:qf Tryz.prog F=true) {p:NV→Bool} (g:∀W,qb w W→∀x∈xs,Calls Tryz.prog F (#[ju x]++caps) W fun e w'=>e= .returned (.bool (p x))∧qb W w'):
  Calls Tryz.prog 145 #[lv,qG F caps] w fun e w'=>e= .returned (.bool (xs.any p))∧qb w w':=by
 refine qDR fun ρ r0 r1=> ?_;simp -implicitDefEqProofs [qrQ,r0,r1];refine (qyM h a c g).mono ?_;rintro _ w2 ⟨n,rfl,hn,j⟩;simp -implicitDefEqProofs;exact ⟨hn,j⟩
theorem qlQ:∀(l:List Nd) (i:Nat) (o:List Int),(∀k∈o,0≤k∧k<i)→vm l i o≠none→∀x∈l,∀k∈x.kids,0≤k∧k<i+l.length
 |[],_,_,_,_,x,c,_,_=>by cases c
 |y::l,i,o,g,h,x,c,k,a=>by
  rw [qcT] at h;split at h
  ·rename_i j;rcases List.mem_cons.1 c with rfl|c
   ·rw [←j.2] at a;have:=g k (List.mem_of_mem_drop a);simp;omega
   ·have:=qlQ l (i+1) _ (fun k a=>by
     rcases List.mem_append.1 a with a|a
     ·have:=g k (List.mem_of_mem_take a);omega
     ·rw [List.mem_singleton.1 a];omega) h x c k a
    simp;omega
  ·exact absurd rfl h
theorem qbJ {l:List Nd} (h:vA l=true):∀x∈l,∀k∈x.kids,0≤k∧k<(l.length:Int):=by
 intro x g k a;have c:vm l 0 []≠none:=fun e=>by unfold vA at h;rw [e] at h;cases h
 have:=qlQ l 0 [] (by simp) c x g k a;omega
theorem qyv {w:World} {lv:Value} {xs:List NV} {x:NV} {A Lb:Nat} {cs:List Value} (U:L01.G w) (V:vY w) (H:Rd w lv xs) (z:Blk w Lb #[lv] 29) (E:x∈xs) (c:∀y∈xs,DOk y.nd.d) (o:xs.length≤400) (O:vA (xs.map (·.nd))=true) (J:Blk w A cs.toArray 175) (Y:wW w cs):
  Calls Tryz.prog 146 #[ju x, .pointer (some ⟨Lb,0,none⟩), .pointer (some ⟨A,0,none⟩)] w fun e w'=>e= .returned (.bool (!qZ (xs.map (·.nd)) x.nd))∧qb w w':=by
 have g:=H.kids x E;refine qDP fun ρ r0 r1 r2=> ?_;simp -implicitDefEqProofs [qrP];refine vv fun X w1 Z a j _=> ?_;rw [show qd ρ (.tmp 0)=ju x by simp [r0],kf g.is] at j;have S:w1.cell? ⟨Lb,0,none⟩=some lv:=by rw [(z.ext a).cell];rfl
 have h:Eng.jq w1 ⟨X,0,none⟩ 0 6=some (qi x):=by
  have:=kT j;simpa [qi] using this
 simp -implicitDefEqProofs [r1,r2,S,h];refine (qyw (U.ext a) (V.ext a) (H.ext a) (g.ext a) (c x E) c o (fun k I=> ?_) (J.ext a) (Y.at' (qC.ext a))).mono ?_
 ·have:=qbJ O x.nd (List.mem_map.2 ⟨x,E,rfl⟩) k I;simpa using this
 rintro _ w2 ⟨rfl,t⟩;simp -implicitDefEqProofs;exact a.trans' t
theorem wW.cells {w:World} {cs:List Value} (g:wW w cs):∀c∈cs,c.cells= #[c]∧c.oneCell=true:=fun c o=>by
 obtain ⟨k,h,rfl⟩:=List.mem_iff_getElem.1 o;have a:=g.2 k (by rw [←g.1];exact h);rw [List.getD_eq_getElem?_getD,List.getElem?_eq_getElem h] at a;simp only [Option.getD_some] at a;generalize cs[k]=c at a;cases j:zZ k with
 |none=>rw [j] at a;cases a;exact ⟨rfl,rfl⟩
 |some r=>
  rw [j] at a;obtain ⟨X,_,_,_,_,_,_,rfl,_⟩:=a;exact ⟨rfl,rfl⟩
theorem qlV {w:World} {lv rv:Value} {xs:List NV} {root:Nat→Bool} (hG:L01.G w) (hM:vY w) (Y:Rd w lv xs) (hds:∀y∈xs,DOk y.nd.d) (hkl:∀x∈xs,x.nd.kids.length≤1000000) (hr:vD w rv root):
  Calls Tryz.prog 64 #[lv,rv] w fun e w'=>e= .returned (.bool (whole (xs.map (·.nd)) root))∧qb w w':=by
 have hl:=Y.len;have ab:=Y.cells.is;obtain ⟨F,caps,hrv,hcb,hc⟩:=hr.fn;refine qAS fun ρ r0 r1=> ?_;simp -implicitDefEqProofs [qn1];refine vv fun B w1 hB aa hb1 _=> ?_;have J:Blk w1 B #[lv] 29:=by simpa [r0,vl ab] using hb1
 have cB:∀W,qb w1 W→W.cell? ⟨B,0,none⟩=some lv:=fun W hE=>by rw [(J.ext hE).cell];rfl
 simp -implicitDefEqProofs [cB w1 (qz _),ab,hl];refine (qar w1 _ 1 400).mono ?_;rintro _ w1' ⟨rfl,hw1⟩;obtain rfl:=hw1.symm;generalize o:whole (xs.map (·.nd)) root=b;unfold whole at o;rw [List.length_map] at o;have hin:((decide (1≤(xs.length:Int))&&decide ((xs.length:Int)≤400)):Bool)=(decide (1≤xs.length)&&decide (xs.length≤400)):=by
  congr 1<;>exact decide_eq_decide.2 (by omega)
 cases U:(decide (1≤xs.length)&&decide (xs.length≤400)) with
 |false=>
  rw [U] at o hin;subst o;simp -implicitDefEqProofs [hin];exact aa
 |true=>
 rw [U] at hin;have j:=U;simp only [Bool.and_eq_true,decide_eq_true_eq] at j;rw [j.1|>decide_eq_true,j.2|>decide_eq_true] at o;simp -implicitDefEqProofs [hin,cB w1 (qz _)];refine (qyx (Y.ext aa) (by omega) hkl).mono ?_;rintro _ w2 ⟨rfl,z⟩;have h:=aa.trans' z;cases hp:vA (xs.map (·.nd)) with
 |false=>
  rw [hp] at o;have ac:b=false:=by rw [←o];rfl
  subst ac;simp -implicitDefEqProofs;exact h
 |true=>
 rw [hp] at o;have hrow:=(Y.ext h).row (k:=xs.length - 1) (by omega);have hwl:IntKind.i64.wrap ((xs.length:Int) - 1)=((xs.length - 1:Nat):Int):=by rw [qp (by omega)];omega
 have hltl:((xs.length - 1:Nat):Int)<(xs.length:Int):=by omega
 have a:xs.length - 1<xs.length:=by omega
 simp -implicitDefEqProofs [r1,hrv,cB w2 z,ab,hl,hwl,hltl,a,hrow];refine kp hcb (t:=16) (fs:= #[]) (caps:=caps) (by simp [qG]) ?_;simp -implicitDefEqProofs;have I:=List.getElem_mem a;refine (hc w2 h xs[xs.length - 1] (Y.kids _ I).is (hds _ I).kind).mono ?_;rintro _ w3 ⟨rfl,Z⟩;have O:=h.trans' Z;have hrk:kD (xs.map (·.nd))=(xs[xs.length - 1]'a).nd.d.kind:=by
  unfold kD;rw [List.getLast?_eq_getElem?,List.length_map,List.getElem?_map,List.getElem?_eq_getElem a];rfl
 cases hro:root (xs[xs.length - 1]'a).nd.d.kind with
 |false=>
  rw [hrk,hro] at o;have ac:b=false:=by rw [←o];rfl
  subst ac;simp -implicitDefEqProofs;exact O
 |true=>
 rw [hrk,hro] at o;simp -implicitDefEqProofs [qn0];refine qyu.mono ?_;rintro _ w4 ⟨cs,rfl,hT,V⟩;simp -implicitDefEqProofs;refine qR qjH fun A w5 hA hE5 hbA _=> ?_;simp -implicitDefEqProofs;have S:=hT.cells;have H:=qul fun c hc=>(S c hc).1;refine jl (B:=A) (by simp) hbA (by simp [H,hT.1]) ?_ (by simp [H,hT.1];kernel_rfl) fun w6 hO6 hb6=> ?_
 ·simp only [qd,qm,qu];simpa [H] using fun c hc=>(S c hc).2
 have hb6':Blk w6 A cs.toArray 175:=by simpa [H] using hb6
 have E:qb w4 w6:=hO6.ext hE5 hA;have g:=(O.trans' V).trans' E;have cB6:=cB w6 (((z.trans' Z).trans' V).trans' E);have hB6:=J.ext (((z.trans' Z).trans' V).trans' E);simp -implicitDefEqProofs [cB6];refine (qyR (p:=fun y=> !qZ (xs.map (·.nd)) y.nd) (F:=146) (caps:= #[.pointer (some ⟨B,0,none⟩), .pointer (some ⟨A,0,none⟩)]) (Y.ext g) (by omega) (by kernel_rfl) fun W hW y hy=> ?_).mono ?_
 ·simpa using qyv (hG.ext (g.trans' hW)) (hM.ext (g.trans' hW)) (Y.ext (g.trans' hW)) (hB6.ext hW) hy hds j.2 hp (hb6'.ext hW) (hT.at' (qC.ext (E.trans' hW)))
 rintro _ w7 ⟨rfl,hE7⟩;simp -implicitDefEqProofs;refine ⟨?_,g.trans' hE7⟩;rw [←o];simp [List.all_map,Function.comp_def];rw [List.any_eq_not_all_not];simp
theorem qgE {w:World} {lv:Value} {xs:List NV} (h:L01.G w) (k:vY w) (j:Rd w lv xs) (c:∀y∈xs,DOk y.nd.d) (a:∀x∈xs,x.nd.kids.length≤1000000):
  Calls Tryz.prog 26 #[lv] w fun e w'=>e= .returned (.int .i64 (if jI (xs.map (·.nd)) then 0 else 21))∧qb w w':=by
 refine qBO fun ρ r0=> ?_;simp -implicitDefEqProofs [qpD,r0];refine (qlV h k j c a (qg4 (w:=w))).mono ?_;rintro _ w2 ⟨rfl,g⟩;unfold jI;cases whole (xs.map (·.nd)) (qt 20) with
 |false=>
  simp -implicitDefEqProofs;exact g
 |true=>
  simp -implicitDefEqProofs [qpo];exact g
end Go.L02
namespace Go.L02
open Go.Eng
open Go.L01 (Bs Tok)
def Sh (s:Bs):Prop:=s.length≤1000000
structure DS (d:D):Prop where
 kind:d.kind≤37
 name:Sh d.name
 vr:Sh d.vr
 typ:Sh d.typ
inductive TOk:T→Prop
 |mk {d:D} {ks:List T}:DS d→(∀t∈ks,TOk t)→TOk (T.mk d ks)
section
variable {L:List Tok} {α β:Type} {P:α→Prop} {Q:β→Prop}
end
section
variable {L:List Tok} (hL:wt L) (hn:L.length≤20000)
def qup (l:List T):Prop:=∀t∈l,TOk t
theorem tok {d:D} {ks:List T} (h:DS d) (a:qup ks):TOk (T.mk d ks):= .mk h a
theorem TOk.ks {t:T} (h:TOk t):qup t.kids:=by cases h with|mk c a=>exact a
theorem TOk.ds {t:T} (h:TOk t):DS t.d:=by cases h with|mk a c=>exact a
section
variable {e b s:M T} {p:M (T×Nat)}
end
mutual
theorem qmF:∀(t:T) (b:Nat),∀x∈t.flat b,x.kids.length<t.size
 | .mk d ks,b,x,a=>by
  simp only [T.flat,List.mem_append,List.mem_singleton] at a;rcases a with a|rfl
  ·have:=kids_flats ks b x a;simp only [T.size];omega
  ·have:(qL b ks).length≤sizes ks:=roots_sizes ks b;simp only [T.size];omega
theorem kids_flats:∀(c:List T) (b:Nat),∀x∈flats b c,x.kids.length<sizes c
 |[],_,x,a=>by simp [flats] at a
 |t::c,b,x,a=>by
  simp only [flats,List.mem_append] at a;simp only [sizes];rcases a with a|a
  ·have:=qmF t b x a;omega
  ·have:=kids_flats c _ x a;omega
theorem roots_sizes:∀(a:List T) (b:Nat),(qL b a).length≤sizes a
 |[],_=>by simp [qL]
 |t::a,b=>by
  have:=roots_sizes a (b+t.size);have:=t.size_pos;simp only [qL,sizes,List.length_cons];omega
end
end
end Go.L02
namespace Go.L02
open Go Go.Eng Go.RowKit
open Go.Proofs hiding encI
open Go.L01 (Bd Bs Own.same Qo SlK Tok fV jC jF jG jH jZ jo qB qM qS qe ql vp vt)
set_option maxRecDepth 100000
set_option maxHeartbeats 2000000
def Src (L:List Tok) (n:Nat) (m:Mod):Prop:=∃i f j g,qzp L n i f= .ok m j g∧j≤L.length
structure PaS (L:List Tok) (n:Nat) (B P Lv Ln Ou:Nat) (w:World) (tv:Value) (i f:Nat) (nv lv rv:Value) (xs:List NV) (css:List (List Value)) (ls:List Int) (ms:List Mod) (w':World):Prop where
 st:PSt B B w' tv nv L i f xs
 ln:xs.length≤2*i+2
 sp:z7 lv xs
 bP:Blk w' P #[.pointer (some ⟨B,0,none⟩)] 83
 bL:Blk w' Lv #[tv] 48
 bN:Blk w' Ln #[lv] 40
 bO:Blk w' Ou #[rv] 23
 ol:Own w.heap.size 3 1 w' lv (ls.map encI)
 oo:Own w.heap.size 66 7 w' rv css.flatten
 all:vx (yu (xE (fun k=>lv.ownBlock≠some k) w' nv xs) w') css ms
 sm:qC (fun k T=>qfr k T∧k<w.heap.size) w w'
 bl:Below B w w'
 src:∀m∈ms,Src L n m
section
variable {L:List Tok} {n B P Lv Ln Ou:Nat} {w w1 w2 w3:World} {tv nv lv lv' rv rv':Value} {i f:Nat} {xs:List NV} {css:List (List Value)} {ls:List Int} {ms:List Mod}
theorem PaS.ext (h:PaS L n B P Lv Ln Ou w tv i f nv lv rv xs css ls ms w1) (a:qb w1 w2):PaS L n B P Lv Ln Ou w tv i f nv lv rv xs css ls ms w2:=by
 have c:qC (fun _ _=>True) w1 w2:=qC.ext a;refine ⟨h.st.ext a,h.ln,h.sp,h.bP.ext a,h.bL.ext a,h.bN.ext a,h.bO.ext a,h.ol.ext a,h.oo.ext a, ?_,h.sm.trans (qC.ext a),h.bl.trans (qiN a (Nat.le_of_lt h.st.blk.lt)),h.src⟩;exact h.all.imp fun _ _ h=>h.at' c (fun _=>trivial) (fun _=>trivial) (fun _=>trivial) (fun _=>trivial) fun _ _ h=>h.at' c (fun _=>trivial) fun _ _=>trivial
theorem PaS.line (h:PaS L n B P Lv Ln Ou w tv i f nv lv rv xs css ls ms w1) {x:Int} (z:w1.grownBy w2 lv.ownBlock) (S:Own w.heap.size 3 1 w2 lv' ((ls++[x]).map encI)) (Y:lv'.ownBlock=lv.ownBlock∨lv'.ownBlock=some w1.heap.size) (U:B≤Ln) (Z:B≤w.heap.size) (E:Only Ln w2 w3) (hb:Blk w3 Ln #[lv'] 40):
  PaS L n B P Lv Ln Ou w tv i f nv lv' rv xs css (ls++[x]) ms w3:=by
 have c:=qC.grown h.ol z;have o:=h.bN.at' c (.inr (by decide));have a:=qC.only E o;have j:=h.st.kidLt;have J:∀k,k<w1.heap.size→lv.ownBlock≠some k→(lv.ownBlock≠some k∧lv'.ownBlock≠some k):=fun k g t=>⟨t,fun e=>by
  rcases Y with I|I
  ·exact t (I▸e)
  ·rw [I] at e;cases e;omega⟩
 refine ⟨(h.st.grown h.ol z h.sp (by decide) (by decide) (by decide)).only (cs:= #[lv]) (T:=40) E (fun _=>o.heap) (by decide) (by decide) (by decide) (by decide),h.ln,fun y O k g=>(J k (j y O k g) (h.sp y O k g)).2,
  (h.bP.at' c (.inr (by decide))).at' a (.inr (by decide)),(h.bL.at' c (.inr (by decide))).at' a (.inr (by decide)),hb,(h.bO.at' c (.inr (by decide))).at' a (.inr (by decide)),
  S.at' a fun k _=> .inr (by decide),(h.oo.at' c fun k _=> .inr (by decide)).at' a fun k _=> .inr (by decide), ?_, ?_,(h.bl.trans (qEC (v:=lv) z (fun k g=>Nat.le_trans Z (h.ol.blk k g).1) (Nat.le_of_lt h.st.blk.lt))).trans (wj E U),h.src⟩
 ·refine h.all.imp fun _ _ V=> ?_;have t:yu (xE (fun k=>lv.ownBlock≠some k∧lv'.ownBlock≠some k) w2 nv xs) w2 _ _:=V.at' c (fun _=> .inr (by decide)) (fun _=> .inr (by decide)) (fun _=> .inr (by decide)) (fun _=> .inr (by decide)) fun v l H=>
   (xE.mono (q':=fun k=>lv.ownBlock≠some k∧lv'.ownBlock≠some k) H j J).at2 c (fun k g=> .inl g.1) fun k _=> .inr (by decide)
  exact t.at' a (fun _=> .inr (by decide)) (fun _=> .inr (by decide)) (fun _=> .inr (by decide)) (fun _=> .inr (by decide)) fun v l H=>
   (H.mono (fun x hx k g=>Nat.lt_of_lt_of_le (j x hx k g) z.size) fun k _ g=>g.2).at2 a (fun k _=> .inr (by decide)) fun k _=> .inr (by decide)
 ·refine (h.sm.trans ((c.mono fun k T g=> ?_).trans (a.mono fun k T g=> ?_)))
  ·exact .inl fun e=>by have:=(h.ol.blk k e).1;have:=g.2;omega
  ·rcases g.1 with rfl|rfl|rfl<;>exact .inr (by decide)
end
def RdN (w:World) (v:Value) (l:List Nd):Prop:=∃xs:List NV,xs.map (·.nd)=l∧Rd w v xs
def RdO (w:World) (v:Value) (l:List Nd):Prop:=∃(xs:List NV) (b b':Nat),xs.map (·.nd)=l∧Own b 44 6 w v (je xs)∧∀x∈xs,Own b' 3 1 w x.kv (x.nd.kids.map encI)
theorem RdO.at' {w w':World} {v:Value} {l:List Nd} {p:Nat→TypeId→Prop} (h:RdO w v l) (c:qC p w w') (a:∀k,p k 44) (g:∀k,p k 3):RdO w' v l:=by
 obtain ⟨xs,b,y,j,z,o⟩:=h;exact ⟨xs,b,y,j,z.at' c fun k _=>a k,fun x t=>(o x t).at' c fun k _=>g k⟩
theorem RdO.ext {w w':World} {v:Value} {l:List Nd} (h:RdO w v l) (a:qb w w'):RdO w' v l:=by
 obtain ⟨xs,b,j,c,k,g⟩:=h;exact ⟨xs,b,j,c,k.ext a,fun x o=>(g x o).ext a⟩
def z8 (l:List Nd):Prop:=(∀x∈l,DOk x.d)∧∀x∈l,x.kids.length≤1000000
theorem DS.ok {d:D} (h:DS d):DOk d:=by
 obtain ⟨j,g,a,c⟩:=h;unfold Sh at g a c;exact ⟨by omega,by omega,by omega,by omega⟩
theorem z8.ds {xs:List NV} {l:List Nd} (h:z8 l) (e:xs.map (·.nd)=l):∀y∈xs,DOk y.nd.d:=fun y a=>h.1 y.nd (by rw [←e];exact List.mem_map.2 ⟨y,a,rfl⟩)
theorem z8.kl {xs:List NV} {l:List Nd} (h:z8 l) (e:xs.map (·.nd)=l):∀y∈xs,y.nd.kids.length≤1000000:=fun y a=>h.2 y.nd (by rw [←e];exact List.mem_map.2 ⟨y,a,rfl⟩)
theorem qxB {w:World} {v:Value} {b c:Nat} {xs:List NV} (h:Own b 44 6 w v (je xs)) (a:∀x∈xs,Own c 3 1 w x.kv (x.nd.kids.map encI)):Rd w v xs:=⟨L01.jM h,fun x g=>L01.jM (a x g)⟩
theorem qcC.more {B P:Nat} {tv:Value} {W w2:World} {ok:Bool} {g:Nat} {Ok:World→Prop} {e:Ending} {L:List Tok} {cs:Array Value} (t:∀w2,Ok w2→∃(i f:Nat) (nv:Value) (ys:List NV),PSt B B w2 tv nv L i f ys) (I:Blk W P cs 83) (h:qcC B tv W ok g Ok e w2):
  qcC B tv W ok g (fun w2=>Ok w2∧Blk w2 P cs 83∧(ok=false→g≤L.length)) e w2:=by
 obtain ⟨y,S,H⟩:=h;have k:=I.at' y (.inr (.inr rfl));refine ⟨y,S, ?_⟩;rcases H with ⟨a,b,c⟩|⟨a,b,j,o,z,J,c⟩
 ·exact .inl ⟨a,b,c,k,fun e=>by rw [a] at e;cases e⟩
 ·refine .inr ⟨a,b,j,o,z,J,c,k,fun _=> ?_⟩;obtain ⟨i,f,nv,ys,E⟩:=t w2 c;have e:=E.blk.heap;rw [z.heap] at e;simp only [Option.some.injEq,Obj.cells.injEq] at e;have O:=congrArg (fun a:Array Value=>a[2]?) e.1;simp at O;have:=E.fl;omega
end Go.L02
namespace Go.Eng
end Go.Eng
namespace Go.L02
open Go Go.Eng Go.RowKit
open Go.Proofs hiding encI
open Go.L01 (Bs Own.same Tok qM qS qe qh)
set_option maxRecDepth 100000
set_option maxHeartbeats 2000000
@[simp] theorem qJG:qf Tryz.prog 51=true:=by kernel_rfl
theorem qyP {w:World} {a b:Value} {xs ys:List Bs} (E:Cells w a 1 (xs.map qe)) (O:Cells w b 1 (ys.map qe)) (hbd:xs.length<4611686018427387904):Calls Tryz.prog 51 #[a,b] w fun e w'=>e= .returned (.bool (decide (xs=ys)))∧qb w w':=by
 have k:qk a=xs.length:=by simpa using E.len.symm
 have z:qk b=ys.length:=by simpa using O.len.symm
 refine qAZ fun ρ r0 r1=> ?_;simp -implicitDefEqProofs [qof,r0,r1,E.is,O.is,k,z];by_cases y:xs.length=ys.length
 ·simp -implicitDefEqProofs [y,qob,r0,E.is,k];obtain ⟨I,Y⟩:∃I:Nat→qa→World→Prop,∀j c w',I j c w'↔(c 0=a∧c 1=b∧c 12= .int .i64 (ys.length:Int)∧qb w w'∧xs.take j=ys.take j):=⟨_,fun _ _ _=>Iff.rfl⟩;refine jj 13 ys.length I (by simp) ((Y _ _ _).2 ⟨by simp [r0],by simp [r1],by simp,qz _,by simp⟩) ?_;rintro j c w' hj S V;obtain ⟨r0,r1,o,H,h⟩:=(Y _ _ _).1 V;have U:IntKind.i64.wrap ((j:Int)+1)=(j:Int)+1:=qp (by omega);by_cases g:j<ys.length
  ·have Z:=(E.ext H).cell j (by simpa [y] using g);have cb:=(O.ext H).cell j (by simpa using g);simp only [List.getElem_map,qe] at Z cb;simp -implicitDefEqProofs [qhj,S,o,g,qod,r0,r1,E.is,k,O.is,z,y,Z,cb];intro w2 t;by_cases J:xs[j]=ys[j]
   ·simp -implicitDefEqProofs [qhk,qoe,J,S,U];refine (Y _ _ _).2 ⟨by simp [r0],by simp [r1],by simp [o],H.trans' t, ?_⟩;rw [List.take_succ_eq_append_getElem (by omega),List.take_succ_eq_append_getElem (by omega),h,J]
   ·simp -implicitDefEqProofs [qhk,qJ,J];exact ⟨fun e=>J (by simp [e]),H.trans' t⟩
  ·simp -implicitDefEqProofs [qhj,S,o,g,qoc];refine ⟨?_,H⟩;rw [List.take_of_length_le (by omega),List.take_of_length_le (by omega)] at h;exact h
 ·simp -implicitDefEqProofs [y];exact ⟨fun e=>y (by rw [e]),qz _⟩
def xh {α:Type} (sz:Nat) (C:List Value→α→Prop) (w:World) (v:Value) (l:List α):Prop:=∃css:List (List Value),Cells w v sz css.flatten∧vx C css l
def wu (w:World) (cs:List Value) (s:Sig):Prop:=∃av sv,cs=[.bool s.iter,av, .string (qc s.result),sv]∧Cells w av 1 (s.args.map qe)∧Cells w sv 1 (s.signals.map qe)
def qad (w:World) (cs:List Value) (n:Need):Prop:=∃c,cs= .string (qc n.op)::c∧wu w c n.sig
def qac (w:World) (cs:List Value) (o:Opn):Prop:=∃c,cs= .string (qc o.name)::c∧wu w c o.sig
def qab (w:World) (cs:List Value) (r:Rout):Prop:=∃c pv ndv,cs= .string (qc r.name)::(c++[pv,ndv])∧wu w c r.sig∧Cells w pv 1 (r.params.map qe)∧RdN w ndv r.nodes
def qae (w:World) (cs:List Value) (m:Mod):Prop:=∃needv opv rv,cs=[.string (qc m.face.name), .int .u8 (m.face.kind:Int), .bool m.face.param,needv,opv, .string (qc m.rep),rv]∧xh 5 (qad w) w needv m.face.needs∧xh 5 (qac w) w opv m.face.ops∧xh 7 (qab w) w rv m.routs
section
variable {w w':World} {cs:List Value} {v:Value}
theorem wu.ext {s:Sig} (h:wu w cs s) (a:qb w w'):wu w' cs s:=by
 obtain ⟨j,sv,e,g,c⟩:=h;exact ⟨j,sv,e,g.ext a,c.ext a⟩
theorem qad.ext {s:Need} (h:qad w cs s) (g:qb w w'):qad w' cs s:=by
 obtain ⟨c,e,a⟩:=h;exact ⟨c,e,a.ext g⟩
theorem qac.ext {s:Opn} (h:qac w cs s) (g:qb w w'):qac w' cs s:=by
 obtain ⟨c,e,a⟩:=h;exact ⟨c,e,a.ext g⟩
theorem RdN.ext {l:List Nd} (h:RdN w v l) (a:qb w w'):RdN w' v l:=by
 obtain ⟨xs,e,h⟩:=h;exact ⟨xs,e,h.ext a⟩
theorem qab.ext {s:Rout} (h:qab w cs s) (a:qb w w'):qab w' cs s:=by
 obtain ⟨c,t,g,e,o,k,j⟩:=h;exact ⟨c,t,g,e,o.ext a,k.ext a,j.ext a⟩
theorem xh.ext {α:Type} {sz:Nat} {C C':List Value→α→Prop} {l:List α} (h:xh sz C w v l) (k:qb w w') (g:∀c a,C c a→C' c a):xh sz C' w' v l:=by
 obtain ⟨css,j,o⟩:=h;exact ⟨css,j.ext k,o.imp g⟩
theorem qae.ext {m:Mod} (h:qae w cs m) (g:qb w w'):qae w' cs m:=by
 obtain ⟨a,b,c,e,o,k,j⟩:=h;exact ⟨a,b,c,e,o.ext g fun _ _ h=>h.ext g,k.ext g fun _ _ h=>h.ext g,j.ext g fun _ _ h=>h.ext g⟩
end
theorem wu.len {w:World} {cs:List Value} {s:Sig} (h:wu w cs s):cs.length=4:=by obtain ⟨a,sv,rfl,_⟩:=h;rfl
theorem wu.row {w:World} {cs:List Value} {s:Sig} (h:wu w cs s):∀c∈cs,c.cells= #[c]∧c.oneCell=true:=by
 obtain ⟨k,sv,rfl,g,j⟩:=h;intro c a;simp only [List.mem_cons,List.mem_nil_iff,or_false] at a;rcases a with rfl|rfl|rfl|rfl
 ·exact ⟨rfl,rfl⟩
 ·exact ⟨vl g.is,vU g.is⟩
 ·exact ⟨rfl,rfl⟩
 ·exact ⟨vl j.is,vU j.is⟩
theorem qsX {α:Type} {sz:Nat}:∀{css:List (List α)},(∀c∈css,c.length=sz)→∀{k j:Nat} (a:k<css.length),j<sz→css.flatten[k*sz+j]? =css[k][j]?
 |[],_,k,_,a,_=>by simp at a
 |c::css,h,k,j,a,g=>by
  have t:=h c (by simp);rw [List.flatten_cons];cases k with
  |zero=>rw [List.getElem?_append_left (by omega)];simp
  |succ k=>
   have e:(k+1)*sz+j=c.length+(k*sz+j):=by rw [Nat.succ_mul];omega
   rw [e,List.getElem?_append_right (by omega),Nat.add_sub_cancel_left];simpa using qsX (css:=css) (fun d o=>h d (by simp [o])) (k:=k) (by simpa using a) g
section
variable {α:Type} {sz:Nat} {C:List Value→α→Prop} {w:World} {v:Value} {l:List α}
theorem xh.is (h:xh sz C w v l):qo v=true:=by obtain ⟨css,a,_⟩:=h;exact a.is
theorem xh.len (h:xh sz C w v l) (t:∀c a,C c a→c.length=sz) (o:0<sz):qk v=l.length:=by
 obtain ⟨css,y,j⟩:=h;have k:=qiK (n:=sz) (vx.left (P:=fun c=>c.length=sz) t j);have g:=y.len;rw [k,j.len] at g;exact (Nat.eq_of_mul_eq_mul_right o g).symm
theorem xh.at (h:xh sz C w v l) (S:∀c a,C c a→c.length=sz) {k:Nat} (O:k<l.length):∃c,C c l[k]∧c.length=sz∧Eng.jq w (qD v (k*sz)) 0 sz=some c∧∀j,j<sz→w.cell? (qD v (k*sz+j))=c[j]? :=by
 obtain ⟨css,U,E⟩:=h;have g:=vx.left (P:=fun c=>c.length=sz) S E;have J:=E.len;have t:k<css.length:=by omega
 have o:∀j,j<sz→w.cell? (qD v (k*sz+j))=css[k][j]? :=fun j I=>by
  have H:=qiK (n:=sz) g;have y:k*sz+j<css.flatten.length:=by
   rw [H];have:(k+1)*sz≤css.length*sz:=Nat.mul_le_mul_right _ t;rw [Nat.succ_mul] at this;omega
  rw [U.cell _ y,←List.getElem?_eq_getElem y,qsX g t I]
 refine ⟨css[k],E.get k t O,g _ (List.getElem_mem _), ?_,o⟩;have z:=g _ (List.getElem_mem t);have:=yM (w:=w) (a:=qD v (k*sz)) (l:=css[k]) (i:=0) fun j I=>by
  rw [qcX,Nat.zero_add,o j (by omega),List.getElem?_eq_getElem I]
 rw [z] at this;exact this
end
theorem qad.len {w:World} {c:List Value} {n:Need} (h:qad w c n):c.length=5:=by obtain ⟨c,rfl,h⟩:=h;simp [h.len]
theorem qac.len {w:World} {c:List Value} {n:Opn} (h:qac w c n):c.length=5:=by obtain ⟨c,rfl,h⟩:=h;simp [h.len]
theorem qab.len {w:World} {c:List Value} {n:Rout} (h:qab w c n):c.length=7:=by obtain ⟨c,g,a,rfl,h,_⟩:=h;simp [h.len]
structure FmS (w W:World) (m:Mod) (X F:Nat) (needv opv rv:Value):Prop where
 ext:qb w W
 bX:Blk W X #[.string (qc m.face.name), .int .u8 (m.face.kind:Int), .bool m.face.param,needv,opv, .string (qc m.rep),rv] 66
 bF:Blk W F #[.string (qc m.face.name), .int .u8 (m.face.kind:Int), .bool m.face.param,needv,opv] 63
 needs:xh 5 (qad W) W needv m.face.needs
 ops:xh 5 (qac W) W opv m.face.ops
 routs:xh 7 (qab W) W rv m.routs
 g:L01.G W
 m:vY W
section
variable {w W W':World} {m:Mod} {X F:Nat} {needv opv rv:Value} {ρ:qa} {b:Bool}
theorem FmS.cX (h:FmS w W m X F needv opv rv):W.cell? ⟨X,5,none⟩=some (.string (qc m.rep))∧W.cell? ⟨X,6,none⟩=some rv:=⟨by rw [h.bX.cell];rfl,by rw [h.bX.cell];rfl⟩
theorem FmS.ol (h:FmS w W m X F needv opv rv):qk opv=m.face.ops.length:=h.ops.len (fun _ _ h=>h.len) (by decide)
theorem FmS.nl (h:FmS w W m X F needv opv rv):qk needv=m.face.needs.length:=h.needs.len (fun _ _ h=>h.len) (by decide)
end
theorem qFN {w:World} {Mb:Nat} {ps:List (ByteArray×Value)} (h:MapB w Mb ps) (a:Addr) (j:a.block=Mb):w.cell? a=none:=by
 obtain ⟨es,c,g,_⟩:=h.ex;subst j;unfold World.cell?;rw [g]
theorem qFM {w w':World} {Mb:Nat} {ps:List (ByteArray×Value)} (h:MapB w Mb ps) (j:Only Mb w w') {a:Addr} {v:Value} (c:w.cell? a=some v):w'.cell? a=some v:=by
 have g:a.block≠Mb:=fun e=>by rw [qFN h a e] at c;cases c
 rw [←c];unfold World.cell?;rw [j.block a.block g]
theorem Cells.map {w w':World} {Mb:Nat} {ps:List (ByteArray×Value)} {v:Value} {sz:Nat} {xs:List Value} (h:Cells w v sz xs) (c:MapB w Mb ps) (a:Only Mb w w'):Cells w' v sz xs:=⟨h.is,h.len,fun j g=>qFM c a (h.cell j g)⟩
section
variable {w w0 W W':World} {m:Mod} {X F:Nat} {needv opv rv:Value} {ρ:qa} {b:Bool}
end
section
variable {w w0 W W':World} {m:Mod} {X F:Nat} {needv opv rv nsv:Value} {ρ:qa} {b:Bool}
end
theorem qae.row {w:World} {cs:List Value} {m:Mod} (h:qae w cs m):cs.length=7∧∀c∈cs,c.cells= #[c]∧c.oneCell=true:=by
 obtain ⟨needv,opv,rv,rfl,j,k,a⟩:=h;refine ⟨rfl, ?_⟩;intro c g;simp only [List.mem_cons,List.mem_nil_iff,or_false] at g;rcases g with rfl|rfl|rfl|rfl|rfl|rfl|rfl
 ·exact ⟨rfl,rfl⟩
 ·exact ⟨rfl,rfl⟩
 ·exact ⟨rfl,rfl⟩
 ·exact ⟨vl j.is,vU j.is⟩
 ·exact ⟨vl k.is,vU k.is⟩
 ·exact ⟨rfl,rfl⟩
 ·exact ⟨vl a.is,vU a.is⟩
end Go.L02
namespace Go.L02
open Go.Eng
open Go.L01 (Bs Tok jV js jz qh ql right)
set_option maxRecDepth 10000
theorem y8 (P:Nat→Prop) (h:∀k,k<38→P k) (c:∀k,38≤k→P k) (k:Nat):P k:=by
 by_cases a:k<38
 ·exact h k a
 ·exact c k (by omega)
theorem y7 {k:Nat} (h:38≤k):jv k=63:=by
 unfold jv qj;rw [if_neg (by omega),if_neg (by omega),if_neg (by simp;omega),if_neg (by omega),if_neg (by omega),if_neg (by simp;omega)]
theorem qm1 {k:Nat} (h:38≤k):qj k=false:=by unfold qj;simp;omega
theorem qAd {k:Nat} (h:38≤k):kY k=false:=by
 unfold kY;simp only [Bool.or_eq_false_iff,Bool.and_eq_false_iff,decide_eq_false_iff_not];omega
theorem qs1:∀k,zR (jv k) 101=qj k:=y8 _ (by decide) fun k h=>by rw [y7 h,qm1 h];decide
theorem qEQ:∀k,zR (jv k) 113=qt 20 k:=y8 _ (by decide) fun k h=>by rw [y7 h];simp [zR,qt];omega
theorem qmU:∀k,decide (jv k=113)=qt 20 k:=y8 _ (by decide) fun k h=>by rw [y7 h];simp [qt];omega
theorem qAb:∀k,decide (jv k=99)=qt 5 k:=y8 _ (by decide) fun k h=>by rw [y7 h];simp [qt];omega
theorem qGz:∀k,([101,99]:Bs).contains (jv k)=qj k:=y8 _ (by decide) fun k h=>by rw [y7 h,qm1 h];decide
theorem qGy:∀k,([115]:Bs).contains (jv k)=kY k:=y8 _ (by decide) fun k h=>by rw [y7 h,qAd h];decide
theorem qGx:∀k,([119]:Bs).contains (jv k)=qt 33 k:=y8 _ (by decide) fun k h=>by rw [y7 h];simp [qt];omega
theorem qGA:∀k,([97]:Bs).contains (jv k)=qt 36 k:=y8 _ (by decide) fun k h=>by rw [y7 h];simp [qt];omega
theorem qdK (l:List Nd) (f:Nat→Bool) (r:Row) (h:r.more=some f):∀(ks:List Int) (i:Nat),r.first.length≤i→qQ l r i ks=ks.all fun k=>f (jw l k)
 |[],_,_=>rfl
 |k::ks,i,a=>by
  unfold qQ;have:r.first[i]? =none:=List.getElem?_eq_none a;rw [this,h];simp only [List.all_cons,qdK l f r h ks (i+1) (by omega)]
def QX (ks:List Int):Bool:=decide (ks=[])
def xm (l:List Nd) (f:Nat→Bool):List Int→Bool|[a]=>f (jw l a)|_=>false
def vK (l:List Nd) (f g:Nat→Bool):List Int→Bool|[a,b]=>f (jw l a)&&g (jw l b)|_=>false
def xy (l:List Nd) (f g h:Nat→Bool):List Int→Bool|[a,b,c]=>f (jw l a)&&(g (jw l b)&&h (jw l c))|_=>false
theorem qaz (l:List Nd) (r:Row) (h:r.first=[]) (ks:List Int):(decide (0≤ks.length)&&decide (ks.length≤0)&&qQ l r 0 ks)=QX ks:=by
 cases ks<;>simp [qQ,QX]
theorem wK (l:List Nd) (r:Row) (f:Nat→Bool) (h:r.first=[f]) (ks:List Int):(decide (1≤ks.length)&&decide (ks.length≤1)&&qQ l r 0 ks)=xm l f ks:=by
 match ks with
 |[]=>simp [xm]
 |[a]=>simp [xm,qQ,h]
 |a::b::ks=>simp [xm]
theorem qdM (l:List Nd) (r:Row) (f g:Nat→Bool) (h:r.first=[f,g]) (ks:List Int):(decide (2≤ks.length)&&decide (ks.length≤2)&&qQ l r 0 ks)=vK l f g ks:=by
 match ks with
 |[]=>simp [vK]
 |[a]=>simp [vK]
 |[a,b]=>simp [vK,qQ,h]
 |a::b::c::ks=>simp [vK]
theorem qz4 (l:List Nd) (r:Row) (f g k:Nat→Bool) (h:r.first=[f,g,k]) (ks:List Int):(decide (3≤ks.length)&&decide (ks.length≤3)&&qQ l r 0 ks)=xy l f g k ks:=by
 match ks with
 |[]=>simp [xy]
 |[a]=>simp [xy]
 |[a,b]=>simp [xy]
 |[a,b,c]=>simp [xy,qQ,h]
 |a::b::c::d::ks=>simp [xy]
section
variable (l:List Nd) (x:Nd)
theorem yl (p:UInt8):jt (jQ l x) [p]=xm l (fun k=>zR (jv k) p) x.kids:=by
 unfold jQ
 match x.kids with
 |[]=>rfl
 |[a]=>simp [jt,xm]
 |a::b::ks=>simp [jt,xm]
theorem qcj (p q:UInt8):jt (jQ l x) [p,q]=vK l (fun k=>zR (jv k) p) (fun k=>zR (jv k) q) x.kids:=by
 unfold jQ
 match x.kids with
 |[]=>rfl
 |[a]=>simp [jt,vK]
 |[a,b]=>simp [jt,vK]
 |a::b::c::ks=>simp [jt,vK]
theorem qs2 (p q r:UInt8):jt (jQ l x) [p,q,r]=xy l (fun k=>zR (jv k) p) (fun k=>zR (jv k) q) (fun k=>zR (jv k) r) x.kids:=by
 unfold jQ
 match x.kids with
 |[]=>rfl
 |[a]=>simp [jt,xy]
 |[a,b]=>simp [jt,xy]
 |[a,b,c]=>simp [jt,xy]
 |a::b::c::d::ks=>simp [jt,xy]
theorem Je:decide (jQ l x=[])=QX x.kids:=by unfold jQ QX;simp
theorem qiR (p:UInt8):decide (jQ l x=[p])=xm l (fun k=>decide (jv k=p)) x.kids:=by
 unfold jQ
 match x.kids with
 |[]=>rfl
 |[a]=>simp [xm]
 |a::b::ks=>simp [xm]
theorem qE2 (p q:UInt8):decide (jQ l x=[p,q])=vK l (fun k=>decide (jv k=p)) (fun k=>decide (jv k=q)) x.kids:=by
 unfold jQ
 match x.kids with
 |[]=>rfl
 |[a]=>simp [vK]
 |[a,b]=>simp [vK,Bool.and_comm]
 |a::b::c::ks=>simp [vK]
theorem qfc (s:Bs) (ks:List Int):xC (ks.map fun k=>jv (jw l k)) s=ks.all fun k=>s.contains (jv (jw l k)):=by
 unfold xC;rw [List.all_map];rfl
theorem qdJ:(jQ l x).length=x.kids.length:=by simp [jQ]
end
def jS (r:Row) (d:D):Bool:=jd d.name r.name&&(jd d.vr r.vr&&(jd d.typ r.typ&&(match r.n with|none=>decide (d.n=0)|some f=>f d.n)))
theorem jY (l:List Nd) (x:Nd) (r:Row) (a:zZ x.d.kind=some r):qZ l x=(jS r x.d&&((decide (r.least≤x.kids.length)&&decide (x.kids.length≤r.most)&&qQ l r 0 x.kids)&&vi l x)):=by
 unfold qZ jS;rw [a];simp only [Bool.and_assoc];rfl
theorem vo (l:List Nd) (x:Nd) (c:x.d.kind≠5) (g:x.d.kind≠6) (a:x.d.kind≠32):vi l x=true:=by
 unfold vi;rw [if_neg c,if_neg g,if_neg a]
theorem qm0:qt 20=fun k=>zR (jv k) 113:=by funext k;rw [qEQ]
theorem kn:qj=fun k=>zR (jv k) 101:=by funext k;rw [qs1]
theorem qg7:qt 20=fun k=>decide (jv k=113):=by funext k;rw [qmU]
theorem qmZ:qt 5=fun k=>decide (jv k=99):=by funext k;rw [qAb]
theorem qxw (l:List Nd) (x:Nd) (h:x.d.kind=1):qZ l x=qx l x:=by
 rw [jY l x (qg {n:=some (jn 1000000000)} []) (by rw [h];rfl),vo l x (by omega) (by omega) (by omega),Bool.and_true];have a:=qaz l (qg {n:=some (jn 1000000000)} []) rfl x.kids;rw [show (decide ((qg {n:=some (jn 1000000000)} []).least≤x.kids.length)&&decide (x.kids.length≤(qg {n:=some (jn 1000000000)} []).most)&&qQ l (qg {n:=some (jn 1000000000)} []) 0 x.kids)=_ from a];unfold qx jS;simp only [h,Nat.reduceEqDiff,if_false,if_true,or_false,false_or,or_true,true_or,Je,qg,jd,qI,Bool.false_or,Bool.true_or,Bool.true_and,Bool.and_true,jn]
 skip
 skip
 simp only [Bool.and_assoc,Bool.and_comm,Bool.and_left_comm]
theorem qxu (l:List Nd) (x:Nd) (h:x.d.kind=2):qZ l x=qx l x:=by
 rw [jY l x (qg {n:=some (jn 1)} []) (by rw [h];rfl),vo l x (by omega) (by omega) (by omega),Bool.and_true];have a:=qaz l (qg {n:=some (jn 1)} []) rfl x.kids;rw [show (decide ((qg {n:=some (jn 1)} []).least≤x.kids.length)&&decide (x.kids.length≤(qg {n:=some (jn 1)} []).most)&&qQ l (qg {n:=some (jn 1)} []) 0 x.kids)=_ from a];unfold qx jS;simp only [h,Nat.reduceEqDiff,if_false,if_true,or_false,false_or,or_true,true_or,Je,qg,jd,qI,Bool.false_or,Bool.true_or,Bool.true_and,Bool.and_true,jn];have hn:(decide (0≤x.d.n)&&decide (x.d.n≤1))=(decide (x.d.n=0)||decide (x.d.n=1)):=by rw [Bool.eq_iff_iff];simp;omega
 rw [hn];simp only [Bool.and_assoc]
theorem qxj (l:List Nd) (x:Nd) (h:x.d.kind=3):qZ l x=qx l x:=by
 rw [jY l x (qg {} []) (by rw [h];rfl),vo l x (by omega) (by omega) (by omega),Bool.and_true];have a:=qaz l (qg {} []) rfl x.kids;rw [show (decide ((qg {} []).least≤x.kids.length)&&decide (x.kids.length≤(qg {} []).most)&&qQ l (qg {} []) 0 x.kids)=_ from a];unfold qx jS;simp only [h,Nat.reduceEqDiff,if_false,if_true,or_false,false_or,or_true,true_or,Je,qg,jd,qI,Bool.false_or,Bool.true_or,Bool.true_and,Bool.and_true,jn]
 skip
 skip
 simp only [Bool.and_assoc,Bool.and_comm,Bool.and_left_comm]
theorem qxc (l:List Nd) (x:Nd) (h:x.d.kind=4):qZ l x=qx l x:=by
 rw [jY l x (qg {name:=some qh} []) (by rw [h];rfl),vo l x (by omega) (by omega) (by omega),Bool.and_true];have a:=qaz l (qg {name:=some qh} []) rfl x.kids;rw [show (decide ((qg {name:=some qh} []).least≤x.kids.length)&&decide (x.kids.length≤(qg {name:=some qh} []).most)&&qQ l (qg {name:=some qh} []) 0 x.kids)=_ from a];unfold qx jS;simp only [h,Nat.reduceEqDiff,if_false,if_true,or_false,false_or,or_true,true_or,Je,qg,jd,qI,Bool.false_or,Bool.true_or,Bool.true_and,Bool.and_true,jn]
 skip
 skip
 simp only [Bool.and_assoc,Bool.and_comm,Bool.and_left_comm]
theorem qw9 (l:List Nd) (x:Nd) (h:x.d.kind=7):qZ l x=qx l x:=by
 rw [jY l x (qg {} [qj,qj]) (by rw [h];rfl),vo l x (by omega) (by omega) (by omega),Bool.and_true];have a:=qdM l (qg {} [qj,qj]) _ _ rfl x.kids;rw [show (decide ((qg {} [qj,qj]).least≤x.kids.length)&&decide (x.kids.length≤(qg {} [qj,qj]).most)&&qQ l (qg {} [qj,qj]) 0 x.kids)=_ from a];unfold qx jS;simp only [h,Nat.reduceEqDiff,if_false,if_true,or_false,false_or,or_true,true_or,qcj,←kn,qg,jd,qI,Bool.false_or,Bool.true_or,Bool.true_and,Bool.and_true,jn]
 skip
 skip
 simp only [Bool.and_assoc,Bool.and_comm,Bool.and_left_comm]
theorem qw8 (l:List Nd) (x:Nd) (h:x.d.kind=8):qZ l x=qx l x:=by
 rw [jY l x (qg {name:=some qh} [qj]) (by rw [h];rfl),vo l x (by omega) (by omega) (by omega),Bool.and_true];have a:=wK l (qg {name:=some qh} [qj]) _ rfl x.kids;rw [show (decide ((qg {name:=some qh} [qj]).least≤x.kids.length)&&decide (x.kids.length≤(qg {name:=some qh} [qj]).most)&&qQ l (qg {name:=some qh} [qj]) 0 x.kids)=_ from a];unfold qx jS;simp only [h,Nat.reduceEqDiff,if_false,if_true,or_false,false_or,or_true,true_or,yl,←kn,qg,jd,qI,Bool.false_or,Bool.true_or,Bool.true_and,Bool.and_true,jn]
 skip
 skip
 simp only [Bool.and_assoc,Bool.and_comm,Bool.and_left_comm]
theorem qw7 (l:List Nd) (x:Nd) (h:x.d.kind=9):qZ l x=qx l x:=by
 rw [jY l x (qg {} [qj]) (by rw [h];rfl),vo l x (by omega) (by omega) (by omega),Bool.and_true];have a:=wK l (qg {} [qj]) _ rfl x.kids;rw [show (decide ((qg {} [qj]).least≤x.kids.length)&&decide (x.kids.length≤(qg {} [qj]).most)&&qQ l (qg {} [qj]) 0 x.kids)=_ from a];unfold qx jS;simp only [h,Nat.reduceEqDiff,if_false,if_true,or_false,false_or,or_true,true_or,yl,←kn,qg,jd,qI,Bool.false_or,Bool.true_or,Bool.true_and,Bool.and_true,jn]
 skip
 skip
 simp only [Bool.and_assoc,Bool.and_comm,Bool.and_left_comm]
theorem qxv (l:List Nd) (x:Nd) (h:x.d.kind=10):qZ l x=qx l x:=by
 rw [jY l x (qg {} [qj]) (by rw [h];rfl),vo l x (by omega) (by omega) (by omega),Bool.and_true];have a:=wK l (qg {} [qj]) _ rfl x.kids;rw [show (decide ((qg {} [qj]).least≤x.kids.length)&&decide (x.kids.length≤(qg {} [qj]).most)&&qQ l (qg {} [qj]) 0 x.kids)=_ from a];unfold qx jS;simp only [h,Nat.reduceEqDiff,if_false,if_true,or_false,false_or,or_true,true_or,yl,←kn,qg,jd,qI,Bool.false_or,Bool.true_or,Bool.true_and,Bool.and_true,jn]
 skip
 skip
 simp only [Bool.and_assoc,Bool.and_comm,Bool.and_left_comm]
theorem qxs (l:List Nd) (x:Nd) (h:x.d.kind=21):qZ l x=qx l x:=by
 rw [jY l x (qg {name:=some qh,typ:=some jh} [qj]) (by rw [h];rfl),vo l x (by omega) (by omega) (by omega),Bool.and_true];have a:=wK l (qg {name:=some qh,typ:=some jh} [qj]) _ rfl x.kids;rw [show (decide ((qg {name:=some qh,typ:=some jh} [qj]).least≤x.kids.length)&&decide (x.kids.length≤(qg {name:=some qh,typ:=some jh} [qj]).most)&&qQ l (qg {name:=some qh,typ:=some jh} [qj]) 0 x.kids)=_ from a];unfold qx jS;simp only [h,Nat.reduceEqDiff,if_false,if_true,or_false,false_or,or_true,true_or,yl,←kn,qg,jd,qI,Bool.false_or,Bool.true_or,Bool.true_and,Bool.and_true,jn]
 skip
 skip
 simp only [Bool.and_assoc,Bool.and_comm,Bool.and_left_comm]
theorem qxr (l:List Nd) (x:Nd) (h:x.d.kind=22):qZ l x=qx l x:=by
 rw [jY l x (qg {name:=some qh} [qj]) (by rw [h];rfl),vo l x (by omega) (by omega) (by omega),Bool.and_true];have a:=wK l (qg {name:=some qh} [qj]) _ rfl x.kids;rw [show (decide ((qg {name:=some qh} [qj]).least≤x.kids.length)&&decide (x.kids.length≤(qg {name:=some qh} [qj]).most)&&qQ l (qg {name:=some qh} [qj]) 0 x.kids)=_ from a];unfold qx jS;simp only [h,Nat.reduceEqDiff,if_false,if_true,or_false,false_or,or_true,true_or,yl,←kn,qg,jd,qI,Bool.false_or,Bool.true_or,Bool.true_and,Bool.and_true,jn]
 skip
 skip
 simp only [Bool.and_assoc,Bool.and_comm,Bool.and_left_comm]
theorem qxq (l:List Nd) (x:Nd) (h:x.d.kind=23):qZ l x=qx l x:=by
 rw [jY l x (qg {} [qj,qj,qj]) (by rw [h];rfl),vo l x (by omega) (by omega) (by omega),Bool.and_true];have a:=qz4 l (qg {} [qj,qj,qj]) _ _ _ rfl x.kids;rw [show (decide ((qg {} [qj,qj,qj]).least≤x.kids.length)&&decide (x.kids.length≤(qg {} [qj,qj,qj]).most)&&qQ l (qg {} [qj,qj,qj]) 0 x.kids)=_ from a];unfold qx jS;simp only [h,Nat.reduceEqDiff,if_false,if_true,or_false,false_or,or_true,true_or,qs2,←kn,qg,jd,qI,Bool.false_or,Bool.true_or,Bool.true_and,Bool.and_true,jn]
 skip
 skip
 simp only [Bool.and_assoc,Bool.and_comm,Bool.and_left_comm]
theorem qxp (l:List Nd) (x:Nd) (h:x.d.kind=24):qZ l x=qx l x:=by
 rw [jY l x (qg {name:=some qh} [qj,qj]) (by rw [h];rfl),vo l x (by omega) (by omega) (by omega),Bool.and_true];have a:=qdM l (qg {name:=some qh} [qj,qj]) _ _ rfl x.kids;rw [show (decide ((qg {name:=some qh} [qj,qj]).least≤x.kids.length)&&decide (x.kids.length≤(qg {name:=some qh} [qj,qj]).most)&&qQ l (qg {name:=some qh} [qj,qj]) 0 x.kids)=_ from a];unfold qx jS;simp only [h,Nat.reduceEqDiff,if_false,if_true,or_false,false_or,or_true,true_or,qcj,←kn,qg,jd,qI,Bool.false_or,Bool.true_or,Bool.true_and,Bool.and_true,jn]
 skip
 skip
 simp only [Bool.and_assoc,Bool.and_comm,Bool.and_left_comm]
theorem qxo (l:List Nd) (x:Nd) (h:x.d.kind=25):qZ l x=qx l x:=by
 rw [jY l x (qg {} [qt 5]) (by rw [h];rfl),vo l x (by omega) (by omega) (by omega),Bool.and_true];have a:=wK l (qg {} [qt 5]) _ rfl x.kids;rw [show (decide ((qg {} [qt 5]).least≤x.kids.length)&&decide (x.kids.length≤(qg {} [qt 5]).most)&&qQ l (qg {} [qt 5]) 0 x.kids)=_ from a];unfold qx jS;simp only [h,Nat.reduceEqDiff,if_false,if_true,or_false,false_or,or_true,true_or,qiR,←qmZ,qg,jd,qI,Bool.false_or,Bool.true_or,Bool.true_and,Bool.and_true,jn]
 skip
 skip
 simp only [Bool.and_assoc,Bool.and_comm,Bool.and_left_comm]
theorem qxm (l:List Nd) (x:Nd) (h:x.d.kind=27):qZ l x=qx l x:=by
 rw [jY l x (qg {} [qj,qt 20]) (by rw [h];rfl),vo l x (by omega) (by omega) (by omega),Bool.and_true];have a:=qdM l (qg {} [qj,qt 20]) _ _ rfl x.kids;rw [show (decide ((qg {} [qj,qt 20]).least≤x.kids.length)&&decide (x.kids.length≤(qg {} [qj,qt 20]).most)&&qQ l (qg {} [qj,qt 20]) 0 x.kids)=_ from a];unfold qx jS;simp only [h,Nat.reduceEqDiff,if_false,if_true,or_false,false_or,or_true,true_or,qcj,←kn,←qm0,qg,jd,qI,Bool.false_or,Bool.true_or,Bool.true_and,Bool.and_true,jn]
 skip
 skip
 simp only [Bool.and_assoc,Bool.and_comm,Bool.and_left_comm]
theorem qxl (l:List Nd) (x:Nd) (h:x.d.kind=28):qZ l x=qx l x:=by
 rw [jY l x (qg {name:=some qh,typ:=some jh} [qt 5,qt 20]) (by rw [h];rfl),vo l x (by omega) (by omega) (by omega),Bool.and_true];have a:=qdM l (qg {name:=some qh,typ:=some jh} [qt 5,qt 20]) _ _ rfl x.kids;rw [show (decide ((qg {name:=some qh,typ:=some jh} [qt 5,qt 20]).least≤x.kids.length)&&decide (x.kids.length≤(qg {name:=some qh,typ:=some jh} [qt 5,qt 20]).most)&&qQ l (qg {name:=some qh,typ:=some jh} [qt 5,qt 20]) 0 x.kids)=_ from a];unfold qx jS;simp only [h,Nat.reduceEqDiff,if_false,if_true,or_false,false_or,or_true,true_or,qE2,←qmZ,←qg7,qg,jd,qI,Bool.false_or,Bool.true_or,Bool.true_and,Bool.and_true,jn]
 skip
 skip
 simp only [Bool.and_assoc,Bool.and_comm,Bool.and_left_comm]
theorem qxi (l:List Nd) (x:Nd) (h:x.d.kind=30):qZ l x=qx l x:=by
 rw [jY l x (qg {} [qj]) (by rw [h];rfl),vo l x (by omega) (by omega) (by omega),Bool.and_true];have a:=wK l (qg {} [qj]) _ rfl x.kids;rw [show (decide ((qg {} [qj]).least≤x.kids.length)&&decide (x.kids.length≤(qg {} [qj]).most)&&qQ l (qg {} [qj]) 0 x.kids)=_ from a];unfold qx jS;simp only [h,Nat.reduceEqDiff,if_false,if_true,or_false,false_or,or_true,true_or,yl,←kn,qg,jd,qI,Bool.false_or,Bool.true_or,Bool.true_and,Bool.and_true,jn]
 skip
 skip
 simp only [Bool.and_assoc,Bool.and_comm,Bool.and_left_comm]
theorem qxh (l:List Nd) (x:Nd) (h:x.d.kind=31):qZ l x=qx l x:=by
 rw [jY l x (qg {name:=some qh} []) (by rw [h];rfl),vo l x (by omega) (by omega) (by omega),Bool.and_true];have a:=qaz l (qg {name:=some qh} []) rfl x.kids;rw [show (decide ((qg {name:=some qh} []).least≤x.kids.length)&&decide (x.kids.length≤(qg {name:=some qh} []).most)&&qQ l (qg {name:=some qh} []) 0 x.kids)=_ from a];unfold qx jS;simp only [h,Nat.reduceEqDiff,if_false,if_true,or_false,false_or,or_true,true_or,Je,qg,jd,qI,Bool.false_or,Bool.true_or,Bool.true_and,Bool.and_true,jn]
 skip
 skip
 simp only [Bool.and_assoc,Bool.and_comm,Bool.and_left_comm]
theorem qxg (l:List Nd) (x:Nd) (h:x.d.kind=34):qZ l x=qx l x:=by
 rw [jY l x (qg {} []) (by rw [h];rfl),vo l x (by omega) (by omega) (by omega),Bool.and_true];have a:=qaz l (qg {} []) rfl x.kids;rw [show (decide ((qg {} []).least≤x.kids.length)&&decide (x.kids.length≤(qg {} []).most)&&qQ l (qg {} []) 0 x.kids)=_ from a];unfold qx jS;simp only [h,Nat.reduceEqDiff,if_false,if_true,or_false,false_or,or_true,true_or,Je,qg,jd,qI,Bool.false_or,Bool.true_or,Bool.true_and,Bool.and_true,jn]
 skip
 skip
 simp only [Bool.and_assoc,Bool.and_comm,Bool.and_left_comm]
theorem qxe (l:List Nd) (x:Nd) (h:x.d.kind=36):qZ l x=qx l x:=by
 rw [jY l x (qg {name:=some qh,vr:=some qh,typ:=some jh} [qt 20]) (by rw [h];rfl),vo l x (by omega) (by omega) (by omega),Bool.and_true];have a:=wK l (qg {name:=some qh,vr:=some qh,typ:=some jh} [qt 20]) _ rfl x.kids;rw [show (decide ((qg {name:=some qh,vr:=some qh,typ:=some jh} [qt 20]).least≤x.kids.length)&&decide (x.kids.length≤(qg {name:=some qh,vr:=some qh,typ:=some jh} [qt 20]).most)&&qQ l (qg {name:=some qh,vr:=some qh,typ:=some jh} [qt 20]) 0 x.kids)=_ from a];unfold qx jS;simp only [h,Nat.reduceEqDiff,if_false,if_true,or_false,false_or,or_true,true_or,qiR,←qg7,qg,jd,qI,Bool.false_or,Bool.true_or,Bool.true_and,Bool.and_true,jn]
 skip
 skip
 simp only [Bool.and_assoc,Bool.and_comm,Bool.and_left_comm]
theorem qxd (l:List Nd) (x:Nd) (h:x.d.kind=37):qZ l x=qx l x:=by
 rw [jY l x (qg {} [qj]) (by rw [h];rfl),vo l x (by omega) (by omega) (by omega),Bool.and_true];have a:=wK l (qg {} [qj]) _ rfl x.kids;rw [show (decide ((qg {} [qj]).least≤x.kids.length)&&decide (x.kids.length≤(qg {} [qj]).most)&&qQ l (qg {} [qj]) 0 x.kids)=_ from a];unfold qx jS;simp only [h,Nat.reduceEqDiff,if_false,if_true,or_false,false_or,or_true,true_or,yl,←kn,qg,jd,qI,Bool.false_or,Bool.true_or,Bool.true_and,Bool.and_true,jn]
 skip
 skip
 simp only [Bool.and_assoc,Bool.and_comm,Bool.and_left_comm]
theorem qxt (l:List Nd) (x:Nd) (h:x.d.kind=20) (c:x.kids.length≤400):qZ l x=qx l x:=by
 rw [jY l x {more:=some kY,most:=400} (by rw [h];rfl),vo l x (by omega) (by omega) (by omega),Bool.and_true];unfold qx jS;rw [qdK l kY _ rfl x.kids 0 (by simp)];have a:xC (jQ l x) [115]=x.kids.all fun k=>kY (jw l k):=by unfold jQ;rw [qfc];simp only [qGy]
 simp only [h,Nat.reduceEqDiff,if_false,if_true,or_false,false_or,a,jd,qI,Bool.false_or,Bool.true_and,c,Nat.zero_le,decide_true];simp only [Bool.and_assoc,Bool.and_comm,Bool.and_left_comm]
theorem qxb (l:List Nd) (x:Nd) (h:x.d.kind=5):qZ l x=qx l x:=by
 rw [jY l x {name:=some xg,vr:=some xg,typ:=some xg,more:=some qj,most:=6} (by rw [h];rfl)];unfold qx jS vi qco;rw [qdK l qj _ rfl x.kids 0 (by simp)];have c:xC (jQ l x) [101,99]=x.kids.all fun k=>qj (jw l k):=by unfold jQ;rw [qfc];simp only [qGz]
 simp only [h,Nat.reduceEqDiff,if_false,if_true,or_false,false_or,c,jd,qI,xg,Bool.true_or,Bool.false_or,Bool.true_and,Nat.zero_le,decide_true,qdJ];by_cases a:x.d.vr=[]
 ·simp only [a,if_true,decide_true,Bool.true_and];simp only [Bool.and_assoc,Bool.and_comm,Bool.and_left_comm]
 ·simp only [a,if_false];simp only [Bool.and_assoc,Bool.and_comm,Bool.and_left_comm]
theorem qzj (s:Bs):wH.contains s=(decide (s=[110,111,116])||wi.contains s):=by
 unfold wH wi;simp only [List.contains_cons];congr 1;rw [Bool.eq_iff_iff];simp
theorem qxa (l:List Nd) (x:Nd) (h:x.d.kind=6):qZ l x=qx l x:=by
 rw [jY l x {name:=some wH.contains,first:=[qj,qj],least:=1,most:=2} (by rw [h];rfl)];unfold qx jS vi;simp only [h,Nat.reduceEqDiff,if_false,if_true,or_false,false_or,jd,qI,Bool.true_or,Bool.false_or,Bool.true_and,yl,qcj,←kn,qzj];have j:x.d.name=[110,111,116]→wi.contains x.d.name=false:=by intro h;rw [h];decide
 match hk:x.kids with
 |[]=>simp [xm,vK]
 |[a]=>
  simp only [xm,vK,qQ,List.length_cons,List.length_nil,Nat.zero_add,Nat.le_refl,decide_true,Bool.true_and,Bool.and_true,List.getElem?_cons_zero];by_cases hn:x.d.name=[110,111,116] <;>cases g:wi.contains x.d.name<;>simp_all [Bool.and_assoc]
 |[a,b]=>
  simp only [xm,vK,qQ,List.length_cons,List.length_nil,Nat.zero_add,Nat.le_refl,decide_true,Bool.true_and,Bool.and_true,List.getElem?_cons_zero,List.getElem?_cons_succ];by_cases hn:x.d.name=[110,111,116] <;>cases g:wi.contains x.d.name<;>simp_all [Bool.and_assoc]
 |a::b::c::ks=>simp [xm,vK]
theorem qxn (l:List Nd) (x:Nd) (h:x.d.kind=26):qZ l x=qx l x:=by
 rw [jY l x {first:=[qj,qt 20,qt 20],least:=2,most:=3} (by rw [h];rfl),vo l x (by omega) (by omega) (by omega),Bool.and_true];unfold qx jS;simp only [h,Nat.reduceEqDiff,if_false,if_true,or_false,false_or,jd,qI,Bool.true_or,Bool.false_or,Bool.true_and,qcj,qs2,←kn,←qm0]
 match hk:x.kids with
 |[]=>simp [vK,xy]
 |[a]=>simp [vK,xy]
 |[a,b]=>simp [vK,xy,qQ,Bool.and_assoc]
 |[a,b,c]=>simp [vK,xy,qQ,Bool.and_assoc]
 |a::b::c::d::ks=>simp [vK,xy]
theorem qxk (l:List Nd) (x:Nd) (h:x.d.kind=29):qZ l x=qx l x:=by
 rw [jY l x {first:=[qj],most:=1} (by rw [h];rfl),vo l x (by omega) (by omega) (by omega),Bool.and_true];unfold qx jS;simp only [h,Nat.reduceEqDiff,if_false,if_true,or_false,false_or,jd,qI,Bool.true_or,Bool.false_or,Bool.true_and,yl,Je,←kn]
 match hk:x.kids with
 |[]=>simp [QX,xm,qQ,Bool.and_assoc]
 |[a]=>simp [QX,xm,qQ,Bool.and_assoc]
 |a::b::ks=>simp [QX,xm]
theorem qgc (l:List Nd) (x:Nd) (h:x.d.kind=33):qx l x=(qZ l x&&(decide (x.d.name=[])||qh x.d.name)):=by
 rw [jY l x (qg {name:=some xg} [qt 20]) (by rw [h];rfl),vo l x (by omega) (by omega) (by omega),Bool.and_true];have a:=wK l (qg {name:=some xg} [qt 20]) _ rfl x.kids;rw [show (decide ((qg {name:=some xg} [qt 20]).least≤x.kids.length)&&decide (x.kids.length≤(qg {name:=some xg} [qt 20]).most)&&qQ l (qg {name:=some xg} [qt 20]) 0 x.kids)=_ from a];unfold qx jS;simp only [h,Nat.reduceEqDiff,if_false,if_true,or_false,false_or,qiR,←qg7,qg,jd,qI,xg,Bool.false_or,Bool.true_or,Bool.true_and,Bool.and_true];simp only [Bool.and_assoc,Bool.and_comm,Bool.and_left_comm]
theorem qmG (l:List Nd) (f g:Nat→Bool) (r:Row) (c:r.first=[f]) (h:r.more=some g) (a:Int) (ks:List Int):qQ l r 0 (a::ks)=(f (jw l a)&&ks.all fun k=>g (jw l k)):=by
 unfold qQ;rw [qdK l g r h ks 1 (by simp [c]),c];rfl
theorem qxf (l:List Nd) (x:Nd) (h:x.d.kind=35) (c:x.kids.length≤400):qZ l x=qx l x:=by
 rw [jY l x {first:=[qj],more:=some (qt 36),least:=2,most:=400} (by rw [h];rfl),vo l x (by omega) (by omega) (by omega),Bool.and_true];unfold qx jS;simp only [h,Nat.reduceEqDiff,if_false,if_true,or_false,false_or,jd,qI,Bool.true_or,Bool.false_or,Bool.true_and,c,decide_true,Bool.and_true,qdJ];unfold jQ
 match hk:x.kids with
 |[]=>simp
 |a::ks=>
  rw [qmG l qj (qt 36) _ rfl rfl];simp only [List.map_cons,List.take_succ_cons,List.take_zero,List.drop_succ_cons,List.drop_zero,jt,qs1,Bool.and_true,qfc,qGA,List.length_cons];have:decide (1<ks.length+1)=decide (2≤ks.length+1):=by congr 1
  rw [this];simp only [Bool.and_assoc,Bool.and_comm,Bool.and_left_comm]
def qaV (l:List Nd) (x:Nd):Bool:=qI x.d false false false false&&(match x.kids with|a::b::ks=>qt 20 (jw l a)&&(b::ks).all fun k=>qt 33 (jw l k)|_=>false)
theorem qgd (l:List Nd) (x:Nd) (h:x.d.kind=32) (c:x.kids.length≤400):qZ l x=(qaV l x&&wb l x.kids.length 0 (x.kids.drop 1)):=by
 rw [jY l x {first:=[qt 20],more:=some (qt 33),least:=2,most:=400} (by rw [h];rfl)];unfold jS vi qaV;simp only [h,Nat.reduceEqDiff,if_false,if_true,or_false,false_or,jd,qI,Bool.true_or,Bool.false_or,Bool.true_and,c,decide_true,Bool.and_true]
 match hk:x.kids with
 |[]=>simp
 |[a]=>simp
 |a::b::ks=>
  rw [qmG l (qt 20) (qt 33) _ rfl rfl];simp only [List.length_cons,show decide (2≤ks.length+1+1)=true by simp,Bool.true_and,Bool.and_assoc]
theorem qlj (l:List Nd) (x:Nd) (h:x.d.kind=32):qx l x=(qaV l x&&qck l x):=by
 unfold qx qaV;simp only [h,Nat.reduceEqDiff,if_false,if_true,or_false,false_or,qdJ];unfold jQ
 match hk:x.kids with
 |[]=>simp
 |[a]=>simp
 |a::b::ks=>
  simp only [List.map_cons,List.getD_cons_zero,List.drop_succ_cons,List.drop_zero,qmU,List.length_cons,show decide (2≤ks.length+1+1)=true by simp,Bool.true_and];rw [show xC (jv (jw l b)::ks.map fun k=>jv (jw l k)) [119]=xC ((b::ks).map fun k=>jv (jw l k)) [119] from rfl,qfc];simp only [qGx];simp only [Bool.and_assoc,Bool.and_comm,Bool.and_left_comm]
theorem qli (l:List Nd) (x:Nd) (j:x.kids.length≤400) (g:x.d.kind≠32) (k:x.d.kind≠33):qZ l x=qx l x:=by
 have a:zZ x.d.kind=none→qZ l x=false:=by intro h;unfold qZ;rw [h]
 by_cases o:38≤x.d.kind
 ·rw [a (by unfold zZ;rw [List.getElem?_eq_none (by simpa [yL] using o)];rfl)];unfold qx;simp only [show∀n,n<38→¬x.d.kind=n from fun n h=>by omega]
  symm
  rw [if_neg (by omega),if_neg (by omega),if_neg (by omega),if_neg (by omega),if_neg (by omega),if_neg (by omega),if_neg (by omega),if_neg (by omega),if_neg (by omega),if_neg (by omega),if_neg (by omega),if_neg (by omega),if_neg (by omega),if_neg (by omega),if_neg (by omega),if_neg (by omega),if_neg (by omega),if_neg (by omega),if_neg (by omega),if_neg (by omega),if_neg (by omega),if_neg (by omega),if_neg (by omega)]
 ·have c:x.d.kind<38:=by omega
  generalize hn:x.d.kind=n at g k c
  match n,g,k,c with
  |0,_,_,_=>rw [a (by rw [hn];rfl)];unfold qx;simp [hn]
  |1,_,_,_=>exact qxw l x hn
  |2,_,_,_=>exact qxu l x hn
  |3,_,_,_=>exact qxj l x hn
  |4,_,_,_=>exact qxc l x hn
  |5,_,_,_=>exact qxb l x hn
  |6,_,_,_=>exact qxa l x hn
  |7,_,_,_=>exact qw9 l x hn
  |8,_,_,_=>exact qw8 l x hn
  |9,_,_,_=>exact qw7 l x hn
  |10,_,_,_=>exact qxv l x hn
  |11,_,_,_=>rw [a (by rw [hn];rfl)];unfold qx;simp [hn]
  |12,_,_,_=>rw [a (by rw [hn];rfl)];unfold qx;simp [hn]
  |13,_,_,_=>rw [a (by rw [hn];rfl)];unfold qx;simp [hn]
  |14,_,_,_=>rw [a (by rw [hn];rfl)];unfold qx;simp [hn]
  |15,_,_,_=>rw [a (by rw [hn];rfl)];unfold qx;simp [hn]
  |16,_,_,_=>rw [a (by rw [hn];rfl)];unfold qx;simp [hn]
  |17,_,_,_=>rw [a (by rw [hn];rfl)];unfold qx;simp [hn]
  |18,_,_,_=>rw [a (by rw [hn];rfl)];unfold qx;simp [hn]
  |19,_,_,_=>rw [a (by rw [hn];rfl)];unfold qx;simp [hn]
  |20,_,_,_=>exact qxt l x hn j
  |21,_,_,_=>exact qxs l x hn
  |22,_,_,_=>exact qxr l x hn
  |23,_,_,_=>exact qxq l x hn
  |24,_,_,_=>exact qxp l x hn
  |25,_,_,_=>exact qxo l x hn
  |26,_,_,_=>exact qxn l x hn
  |27,_,_,_=>exact qxm l x hn
  |28,_,_,_=>exact qxl l x hn
  |29,_,_,_=>exact qxk l x hn
  |30,_,_,_=>exact qxi l x hn
  |31,_,_,_=>exact qxh l x hn
  |34,_,_,_=>exact qxg l x hn
  |35,_,_,_=>exact qxf l x hn j
  |36,_,_,_=>exact qxe l x hn
  |37,_,_,_=>exact qxd l x hn
  |32,h,_,_=>exact absurd rfl h
  |33,_,h,_=>exact absurd rfl h
  |n+38,_,_,h=>omega
end Go.L02
namespace Go.L02
open Go.Eng
open Go.L01 (Bs Tok jV js jz qh ql right)
mutual
theorem T.kids_le:∀(t:T) (b:Nat),∀x∈t.flat b,x.kids.length<t.size
 | .mk d ks,b,x,a=>by
  simp only [T.flat,List.mem_append,List.mem_singleton] at a;simp only [T.size];rcases a with a|rfl
  ·have:=kids_les ks b x a;omega
  ·have h:∀ks:List T,ks.length≤sizes ks:=by
    intro ks
    induction ks with
    |nil=>simp [sizes]
    |cons t ks c=>have:=t.size_pos;simp only [sizes,List.length_cons];omega
   have:=h ks;simp only [xb];omega
theorem kids_les:∀(c:List T) (b:Nat),∀x∈flats b c,x.kids.length<sizes c
 |[],b,x,a=>by simp [flats] at a
 |t::c,b,x,a=>by
  simp only [flats,List.mem_append] at a;simp only [sizes];rcases a with a|a
  ·have:=T.kids_le t b x a;omega
  ·have:=kids_les c _ x a;omega
end
mutual
theorem T.parent:∀(t:T) (b j:Nat),b≤j→j+1<b+t.size→∃x∈t.flat b,(j:Int)∈x.kids
 | .mk d ks,b,j,a,c=>by
  simp only [T.size] at c;rcases parents ks b j a (by omega) with h|⟨x,g,h⟩
  ·exact ⟨⟨d,qL b ks⟩,by simp [T.flat],h⟩
  ·exact ⟨x,by simp [T.flat,g],h⟩
theorem parents:∀(a:List T) (b j:Nat),b≤j→j<b+sizes a→(j:Int)∈qL b a∨∃x∈flats b a,(j:Int)∈x.kids
 |[],b,j,k,c=>by simp [sizes] at c;omega
 |t::a,b,j,k,c=>by
  simp only [sizes] at c;by_cases y:j<b+t.size
  ·by_cases o:j+1=b+t.size
   ·left;simp only [qL,List.mem_cons];left;omega
   ·obtain ⟨x,g,h⟩:=T.parent t b j k (by omega);exact .inr ⟨x,by simp [flats,g],h⟩
  ·rcases parents a (b+t.size) j (by omega) (by omega) with h|⟨x,g,h⟩
   ·exact .inl (by simp [qL,h])
   ·exact .inr ⟨x,by simp [flats,g],h⟩
end
theorem qAf:qh []=false:=rfl
theorem qmH (l:List Nd) (r:Row):∀(ks:List Int) (i:Nat),qQ l r i ks=true→∀k∈ks,∃f∈r.first++r.more.toList,f (jw l k)=true
 |[],_,_,k,c=>by simp at c
 |a::ks,i,h,k,c=>by
  unfold qQ at h;simp only [Bool.and_eq_true] at h;rcases List.mem_cons.1 c with rfl|c
  ·have g:=h.1;split at g
   ·rename_i f j;exact ⟨f,by simp [List.mem_of_getElem? j],g⟩
   ·split at g
    ·rename_i f j;exact ⟨f,by simp [j],g⟩
    ·cases g
  ·exact qmH l r ks (i+1) h.2 k c
theorem qwZ:(yL.zipIdx.all fun p=>decide (p.2=32)||(match p.1 with|none=>true|some r=>(r.first++r.more.toList).all fun f=> !f 33))=true:=by decide
theorem qzl {l:List Nd} {x:Nd} (h:qZ l x=true) {k:Int} (E:k∈x.kids) (t:jw l k=33):x.d.kind=32:=by
 unfold qZ at h;split at h
 ·cases h
 ·rename_i r c;simp only [Bool.and_eq_true] at h;obtain ⟨f,z,g⟩:=qmH l r _ _ h.1.2 k E;rw [t] at g;unfold zZ at c;cases j:yL[x.d.kind]? with
  |none=>rw [j] at c;cases c
  |some o=>
   rw [j] at c;simp only [Option.join] at c;have a:=List.all_eq_true.1 qwZ (o,x.d.kind) (List.mem_zipIdx_iff_getElem?.2 (by simpa using j));simp only [Bool.or_eq_true,decide_eq_true_eq] at a;rcases a with h|h
   ·exact h
   ·have y:o=some r:=by simpa using c
    rw [y] at h;have:=List.all_eq_true.1 h f z;rw [g] at this;cases this
theorem qcH (l:List Nd) (n:Nat):∀(ks:List Int) (i:Nat),wb l n i ks=true↔∀j (a:j<ks.length),qh (xN l ks[j])=true∨(xN l ks[j]=[]∧n≤i+j+2)
 |[],i=>by simp [wb]
 |k::ks,i=>by
  unfold wb;simp only [Bool.and_eq_true,qcH l n ks (i+1),Bool.or_eq_true,Bool.not_eq_true',Bool.or_eq_false_iff,Bool.not_eq_false',decide_eq_true_eq,decide_eq_false_iff_not];constructor
  ·rintro ⟨c,g⟩ j a;cases j with
   |zero=>simpa using c.imp id fun h=>⟨h.1,by omega⟩
   |succ j=>
    have:=g j (by simpa using a);simpa using this.imp id fun h=>⟨h.1,by omega⟩
  ·intro h;refine ⟨?_,fun j a=> ?_⟩
   ·have:=h 0 (by simp);simpa using this.imp id fun h=>⟨h.1,by omega⟩
   ·have:=h (j+1) (by simpa using a);simpa using this.imp id fun h=>⟨h.1,by omega⟩
theorem qeI (l:List Nd) (x:Nd):qck l x=true↔∀j (c:j<(x.kids.drop 1).length),j+2<x.kids.length→xN l ((x.kids.drop 1)[j])≠[]:=by
 unfold qck;rw [List.all_eq_true];constructor
 ·intro h j c g;have:=h ((x.kids.drop 1)[j]) (by
   rw [List.mem_take_iff_getElem];exact ⟨j,by omega,rfl⟩)
  simpa using this
 ·intro h k a;rw [List.mem_take_iff_getElem] at a;obtain ⟨j,c,rfl⟩:=a;have:=h j (by omega) (by omega);simpa using this
theorem qz2 {l:List Nd} {k:Int} {c:Nat} (h:jw l k=c) (g:c≠0):∃y∈l,l[k.toNat]? =some y∧y.d.kind=c∧xN l k=y.d.name:=by
 unfold jw at h;split at h
 ·rename_i y a;exact ⟨y,List.mem_of_getElem? a,a,h,by unfold xN;rw [a]⟩
 ·exact absurd h.symm g
theorem qw6 {l:List Nd} (hp:vA l=true) (aa:l.length≤400) (Z:kD l≠33):l.all (qZ l)=l.all (qx l):=by
 obtain ⟨t,rfl⟩:=qlP hp;rw [qw5] at Z;have z:∀x∈t.flat 0,x.kids.length≤400:=fun x g=>by
  have:=T.kids_le t 0 x g;rw [T.flat_len] at aa;omega
 rw [Bool.eq_iff_iff,List.all_eq_true,List.all_eq_true];constructor
 ·intro h x g;by_cases U:x.d.kind=32
  ·have o:=h x g;rw [qgd _ x U (z x g),Bool.and_eq_true] at o;rw [qlj _ x U,Bool.and_eq_true];refine ⟨o.1,(qeI _ _).2 fun j H E J=> ?_⟩;rcases (qcH _ _ _ _).1 o.2 j H with c|⟨_,c⟩
   ·rw [J,qAf] at c;cases c
   ·omega
  ·by_cases E:x.d.kind=33
   ·rw [qgc _ x E,h x g,Bool.true_and];obtain ⟨j,H,rfl⟩:=List.getElem_of_mem g;have hroot:j+1<t.size:=by
     rw [T.flat_len] at H;by_cases hl:j+1=t.size
     ·have J:=qs0 t 0;rw [List.getLast?_eq_getElem?,T.flat_len] at J;have c:t.size - 1=j:=by omega
      rw [c] at J;have Y:(t.flat 0)[j]? =some (t.flat 0)[j]:=List.getElem?_eq_getElem _;rw [J] at Y;simp only [Option.some.injEq] at Y;rw [←Y] at E;exact absurd E Z
     ·omega
    obtain ⟨p,O,V⟩:=T.parent t 0 j (by omega) (by omega);have I:jw (t.flat 0) (j:Int)=33:=by
     unfold jw;rw [Int.toNat_natCast,List.getElem?_eq_getElem H];exact E
    have h32:=qzl (h p O) V I;have o:=h p O;rw [qgd _ p h32 (z p O),Bool.and_eq_true] at o;have hkd:(j:Int)∈p.kids.drop 1:=by
     have S:=o.1;unfold qaV at S;simp only [Bool.and_eq_true] at S
     match hm:p.kids,V,S.2 with
     |a::b::ks,V,k=>
      rcases List.mem_cons.1 V with rfl|V
      ·simp only [Bool.and_eq_true] at k;rw [I] at k;exact absurd k.1 (by decide)
      ·simpa using V
    obtain ⟨i,hi,he⟩:=List.getElem_of_mem hkd;have hn:xN (t.flat 0) (j:Int)=((t.flat 0)[j]).d.name:=by
     unfold xN;rw [Int.toNat_natCast,List.getElem?_eq_getElem H]
    rcases (qcH _ _ _ _).1 o.2 i hi with c|⟨c,_⟩
    ·rw [he,hn] at c;rw [c,Bool.or_true]
    ·rw [he,hn] at c;simp [c]
   ·rw [←qli _ x (z x g) U E];exact h x g
 ·intro h x g;by_cases U:x.d.kind=32
  ·have o:=h x g;rw [qlj _ x U,Bool.and_eq_true] at o;rw [qgd _ x U (z x g),Bool.and_eq_true];refine ⟨o.1,(qcH _ _ _ _).2 fun j H=> ?_⟩;have S:=o.1;unfold qaV at S;simp only [Bool.and_eq_true] at S;have I:jw (t.flat 0) ((x.kids.drop 1)[j])=33:=by
    match hm:x.kids,H,S.2 with
    |a::b::ks,H,k=>
     simp only [Bool.and_eq_true] at k;have:=List.all_eq_true.1 k.2 ((b::ks)[j]'(by simpa using H)) (List.getElem_mem _);simpa [qt] using this
   obtain ⟨y,hy,E,J,c⟩:=qz2 I (by decide);have Y:=h y hy;rw [qgc _ y J,Bool.and_eq_true,Bool.or_eq_true] at Y;rw [c];rcases Y.2 with h7|h7
   ·right;have h8:y.d.name=[]:=by simpa using h7
    refine ⟨h8, ?_⟩;by_cases hc:j+2<x.kids.length
    ·exact absurd (c.trans h8) ((qeI _ _).1 o.2 j H hc)
    ·omega
   ·exact .inl h7
  ·by_cases E:x.d.kind=33
   ·have:=h x g;rw [qgc _ x E,Bool.and_eq_true] at this;exact this.1
   ·rw [qli _ x (z x g) U E];exact h x g
theorem quK (l:List Nd) (root:Nat→Bool) (k:root 33=false):whole l root=(yT l&&root (kD l)):=by
 unfold whole yT;by_cases j:vA l=true
 ·by_cases g:l.length≤400
  ·by_cases a:root (kD l)=true
   ·have c:kD l≠33:=fun h=>by rw [h,k] at a;cases a
    rw [qw6 j g c,a];simp only [Bool.and_true]
   ·have:root (kD l)=false:=by simpa using a
    rw [this];simp
  ·simp [g]
 ·have:vA l=false:=by simpa using j
  rw [this];simp
def jK (l:List Nd) (i:Nat) (u:T):Prop:=∃pre post,l=pre++(u.flat pre.length++post)∧i+1=pre.length+u.size
mutual
theorem quc:∀(t:T) (b i:Nat),b≤i→i<b+t.size→∃(u:T) (a post:List Nd),t.flat b=a++(u.flat (b+a.length)++post)∧i+1=b+a.length+u.size
 | .mk d ks,b,i,g,c=>by
  by_cases j:i=b+sizes ks
  ·exact ⟨.mk d ks,[],[],by simp,by simp only [List.length_nil,T.size];omega⟩
  ·obtain ⟨u,a,post,e,h⟩:=at_exTs ks b i g (by simp only [T.size] at c;omega);refine ⟨u,a,post++[⟨d,qL b ks⟩], ?_,h⟩;simp only [T.flat];rw [e];simp
theorem at_exTs:∀(c:List T) (b i:Nat),b≤i→i<b+sizes c→∃(u:T) (a post:List Nd),flats b c=a++(u.flat (b+a.length)++post)∧i+1=b+a.length+u.size
 |[],b,i,j,g=>by simp [sizes] at g;omega
 |t::c,b,i,j,g=>by
  by_cases k:i<b+t.size
  ·obtain ⟨u,a,post,e,h⟩:=quc t b i j k;refine ⟨u,a,post++flats (b+t.size) c, ?_,h⟩;simp only [flats];rw [e];simp
  ·obtain ⟨u,a,post,e,h⟩:=at_exTs c (b+t.size) i (by omega) (by simp only [sizes] at g;omega);refine ⟨u,t.flat b++a,post, ?_, ?_⟩
   ·simp only [flats];rw [e,List.length_append,T.flat_len];simp [Nat.add_assoc]
   ·rw [List.length_append,T.flat_len];omega
end
theorem qud (t:T) {i:Nat} (h:i<t.size):∃u:T,jK (t.flat 0) i u:=by
 obtain ⟨u,a,post,e,c⟩:=quc t 0 i (Nat.zero_le _) (by omega);exact ⟨u,a,post,by simpa using e,by simpa using c⟩
theorem T.flat_eq (u:T) (b:Nat):u.flat b=flats b u.kids++[⟨u.d,qL b u.kids⟩]:=by cases u;rfl
theorem T.size_eq (u:T):u.size=sizes u.kids+1:=by cases u;rfl
section
variable {l:List Nd} {i:Nat} {u:T}
theorem jK.lt (h:jK l i u):i<l.length:=by
 obtain ⟨a,post,rfl,h⟩:=h;rw [List.length_append,List.length_append,T.flat_len];omega
theorem jK.le (h:jK l i u):u.size≤i+1:=by obtain ⟨a,post,rfl,h⟩:=h;omega
theorem jK.node (h:jK l i u):l[i]? =some ⟨u.d,qL (i+1 - u.size) u.kids⟩:=by
 obtain ⟨a,post,rfl,h⟩:=h;have j:=u.size_eq;rw [List.getElem?_append_right (by omega),u.flat_eq,List.append_assoc,List.getElem?_append_right (by rw [flats_len];omega),flats_len];have g:i - a.length - sizes u.kids=0:=by omega
 have c:i+1 - u.size=a.length:=by omega
 rw [g,c];rfl
theorem qbu:∀(ks:List T) (b j:Nat) (h:j<ks.length),(qL b ks)[j]? =some (((b+sizes (ks.take (j+1)):Nat):Int) - 1)
 |[],_,_,h=>by simp at h
 |k::ks,b,0,_=>by simp [qL,sizes]
 |k::ks,b,j+1,h=>by
  simp only [qL,List.getElem?_cons_succ];rw [qbu ks (b+k.size) j (by simpa using h),List.take_succ_cons,sizes];congr 2;omega
theorem jK.kid (h:jK l i u) {j:Nat} (g:j<u.kids.length):jK l (i+sizes (u.kids.take (j+1)) - u.size) u.kids[j]:=by
 have o:=h.le;obtain ⟨a,post,rfl,h⟩:=h;have e:u.kids=u.kids.take j++(u.kids[j]::u.kids.drop (j+1)):=by rw [←List.drop_eq_getElem_cons g,List.take_append_drop]
 have k:sizes (u.kids.take (j+1))=sizes (u.kids.take j)+u.kids[j].size:=by rw [List.take_succ_eq_append_getElem g,x9];simp [sizes]
 have t:u.size=sizes u.kids+1:=u.size_eq;have y:sizes u.kids=sizes (u.kids.take j)+(u.kids[j].size+sizes (u.kids.drop (j+1))):=by conv=>lhs;rw [e,x9,sizes]
 have c:=u.kids[j].size_pos;refine ⟨a++flats a.length (u.kids.take j),flats (a.length+(sizes (u.kids.take j)+u.kids[j].size)) (u.kids.drop (j+1))++([⟨u.d,qL a.length u.kids⟩]++post), ?_, ?_⟩
 ·rw [u.flat_eq]
  conv=>lhs;rw [e]
  rw [qeE,flats,List.length_append,flats_len];simp only [List.append_assoc,Nat.add_assoc];rw [←e]
 ·rw [List.length_append,flats_len,k];omega
theorem jK.uniq:∀(n:Nat) {i:Nat} {u v:T},u.size≤n→jK l i u→jK l i v→u=v
 |0,_,u,_,hn,_,_=>by have:=u.size_pos;omega
 |n+1,i,u,v,hn,h,k=>by
  have e:=h.node.symm.trans k.node;simp only [Option.some.injEq,Nd.mk.injEq] at e;obtain ⟨z,er⟩:=e;have c:u.kids.length=v.kids.length:=by
   have:=congrArg List.length er
   rwa [xb,xb] at this
  have y:u.kids=v.kids:=by
   refine List.ext_getElem c fun j g t=> ?_;have a:=h.kid g;have b:=k.kid t;have g1:=qbu u.kids (i+1 - u.size) j g;have H:=qbu v.kids (i+1 - v.size) j t;rw [er,H] at g1;have l1:=h.le;have O:=k.le;have I:i+sizes (u.kids.take (j+1)) - u.size=i+sizes (v.kids.take (j+1)) - v.size:=by
    have Z:0<sizes (u.kids.take (j+1)):=by rw [List.take_succ_eq_append_getElem g,x9];have:=u.kids[j].size_pos;simp [sizes];omega
    have V:0<sizes (v.kids.take (j+1)):=by rw [List.take_succ_eq_append_getElem t,x9];have:=v.kids[j].size_pos;simp [sizes];omega
    have S:sizes (u.kids.take (j+1))≤sizes u.kids:=by have:=congrArg sizes (List.take_append_drop (j+1) u.kids);rw [x9] at this;omega
    simp only [Option.some.injEq] at g1;have U:=h.le;have J:=k.le;have E:=u.size_eq;have Y:=v.size_eq;omega
   rw [←I] at b;have o:u.kids[j].size≤n:=by
    have E:=u.size_eq;have:u.kids[j].size≤sizes u.kids:=by
     conv=>rhs;rw [←List.take_append_drop j u.kids,List.drop_eq_getElem_cons g,x9,sizes]
     omega
    omega
   exact jK.uniq n o a b
  cases u;cases v;simp only [T.d,T.kids] at z y;rw [z,y]
end
theorem quJ {l:List Nd} {root:Nat→Bool} (h:whole l root=true):∃t:T,l=t.flat 0∧t.size≤400:=by
 unfold whole at h;simp only [Bool.and_eq_true,decide_eq_true_eq] at h;obtain ⟨t,a⟩:=qlP h.1.1.2;refine ⟨t,a, ?_⟩;have:=h.1.1.1.2;rw [a,T.flat_len] at this;exact this
def vT (l:List Nd):List Int:=l.flatMap (·.kids)
def vq (a b k:Int):Nat:=if a≤k∧k<b then 1 else 0
theorem qsN {a b c k:Int} (h:a≤b) (o:b≤c):vq a b k+vq b c k=vq a c k:=by
 unfold vq;by_cases g:a≤k∧k<b
 ·rw [if_pos g,if_neg (by omega),if_pos (by omega)]
 ·by_cases j:b≤k∧k<c
  ·rw [if_neg g,if_pos j,if_pos (by omega)]
  ·rw [if_neg g,if_neg j,if_neg (by omega)]
mutual
theorem qeU:∀(t:T) (b:Nat) (k:Int),(vT (t.flat b)).count k=vq b (b+t.size - 1) k
 | .mk d ks,b,k=>by
  have h:=cnt_flats ks b k;have e:vT (T.flat b (.mk d ks))=vT (flats b ks)++qL b ks:=by simp [vT,T.flat]
  rw [e,List.count_append,h];unfold vq;have:((b:Int)+((T.mk d ks).size:Nat) - 1)=(b:Int)+(sizes ks:Nat):=by simp only [T.size];omega
  rw [this]
theorem cnt_flats:∀(a:List T) (b:Nat) (k:Int),(vT (flats b a)).count k+(qL b a).count k=vq b (b+sizes a) k
 |[],b,k=>by
  have e:vq (b:Int) (b+(sizes ([]:List T):Nat)) k=0:=by
   unfold vq;rw [if_neg (by simp only [sizes];omega)]
  rw [e];simp [flats,qL,vT]
 |t::a,b,k=>by
  have j:=qeU t b k;have h:=cnt_flats a (b+t.size) k;have e:vT (flats b (t::a))=vT (t.flat b)++vT (flats (b+t.size) a):=by simp [vT,flats]
  have z:=t.size_pos;rw [e,List.count_append,j];simp only [qL,List.count_cons];have y:(vT (flats (b+t.size) a)).count k+(qL (b+t.size) a).count k=vq (b+t.size) (b+t.size+sizes a) k:=by
   have:=h;push_cast at this⊢;exact this
  have o:(if ((b:Int)+(t.size:Nat) - 1==k)=true then 1 else 0)=vq (b+t.size - 1) (b+t.size) k:=by
   unfold vq;by_cases c:(b:Int)+(t.size:Nat) - 1=k
   ·simp only [c,beq_self_eq_true,if_true];rw [if_pos];omega
   ·have:((b:Int)+(t.size:Nat) - 1==k)=false:=by simpa using c
    simp only [this,Bool.false_eq_true,if_false];rw [if_neg];omega
  rw [o];have g:vq b (b+sizes (t::a)) k=vq b (b+t.size - 1) k+vq (b+t.size - 1) (b+t.size) k+vq (b+t.size) (b+t.size+sizes a) k:=by
   rw [qsN (by omega) (by omega),qsN (by omega) (by omega)];simp only [sizes];congr 1;push_cast;omega
  rw [g];omega
end
def xd:Nat→List Nd→List Int→List Int
 |_,[],out=>out
 |i,x::xs,out=>xd (i+1) xs (x.kids.foldl (fun o k=>o.set k.toNat (i:Int)) out)
def wG (l:List Nd):List Int:=xd 0 l ((List.replicate l.length 0).set (l.length - 1) (-1))
theorem qfR (i:Int):∀(ks:List Int) (o:List Int),(ks.foldl (fun o k=>o.set k.toNat i) o).length=o.length
 |[],_=>rfl
 |k::ks,o=>by rw [List.foldl_cons,qfR i ks];simp
theorem qfQ (i:Int):∀(ks:List Int) (o:List Int) (k:Int),¬k∈ks→(∀k∈ks,0≤k)→0≤k→(ks.foldl (fun o k=>o.set k.toNat i) o)[k.toNat]? =o[k.toNat]?
 |[],_,_,_,_,_=>rfl
 |a::ks,o,k,h,c,g=>by
  rw [List.foldl_cons,qfQ i ks _ k (fun e=>h (by simp [e])) (fun x t=>c x (by simp [t])) g];have y:=c a (by simp);have j:a≠k:=fun e=>h (by simp [e]);rw [List.getElem?_set_ne (by omega)]
theorem qkJ (i:Int):∀(ks:List Int) (o:List Int) (k:Int),k∈ks→(∀k∈ks,0≤k)→k.toNat<o.length→(ks.foldl (fun o k=>o.set k.toNat i) o)[k.toNat]? =some i
 |[],_,_,h,_,_=>by cases h
 |t::ks,o,k,h,c,j=>by
  rw [List.foldl_cons];by_cases a:k∈ks
  ·exact qkJ i ks _ k a (fun x g=>c x (by simp [g])) (by simpa using j)
  ·have:k=t:=by
    rcases List.mem_cons.1 h with h|h
    ·exact h
    ·exact absurd h a
   subst this;rw [qfQ i ks _ k a (fun x g=>c x (by simp [g])) (c k (by simp))];simp [j]
theorem qdo:∀(l:List Nd) (i:Nat) (o:List Int),(xd i l o).length=o.length
 |[],_,_=>rfl
 |x::l,i,o=>by rw [xd,qdo l];exact qfR _ _ _
theorem qdn:∀(l:List Nd) (i:Nat) (o:List Int) (k:Int),(∀x∈l,¬k∈x.kids)→(∀x∈l,∀k∈x.kids,0≤k)→0≤k→(xd i l o)[k.toNat]? =o[k.toNat]?
 |[],_,_,_,_,_,_=>rfl
 |x::l,i,o,k,h,g,c=>by
  rw [xd,qdn l (i+1) _ k (fun y a=>h y (by simp [a])) (fun y a=>g y (by simp [a])) c];exact qfQ _ _ _ _ (h x (by simp)) (g x (by simp)) c
theorem qgz:∀(l:List Nd) (i:Nat) (o:List Int),(∀x∈l,∀k∈x.kids,0≤k∧k<o.length)→(∀k,(vT l).count k≤1)→∀(j:Nat) (x:Nd),l[j]? =some x→∀k∈x.kids,(xd i l o)[k.toNat]? =some ((i+j:Nat):Int)
 |[],_,_,_,_,_,_,h,_,_=>by simp at h
 |y::l,i,o,E,J,j,x,h,k,a=>by
  have c:∀k,y.kids.count k+(vT l).count k≤1:=fun k=>by
   have:=J k;have e:vT (y::l)=y.kids++vT l:=by simp [vT]
   rwa [e,List.count_append] at this
  have t:∀z∈l,∀k∈z.kids,0≤k:=fun z g k a=>(E z (by simp [g]) k a).1;rw [xd];cases j with
  |zero=>
   simp only [List.getElem?_cons_zero,Option.some.injEq] at h;subst h;have H:=E y (by simp) k a;have O:0<y.kids.count k:=List.count_pos_iff.2 a;rw [qdn l (i+1) _ k (fun z g I=>by
    have S:0<(vT l).count k:=List.count_pos_iff.2 (List.mem_flatMap.2 ⟨z,g,I⟩);have:=c k;omega) t H.1]
   exact qkJ _ _ _ _ a (fun k a=>(E y (by simp) k a).1) (by omega)
  |succ j=>
   have:=qgz l (i+1) (y.kids.foldl (fun o k=>o.set k.toNat (i:Int)) o) (fun z g k a=>by rw [qfR];exact E z (by simp [g]) k a) (fun k=>by have:=c k;omega) j x (by simpa using h) k a;rw [this];congr 2;omega
end Go.L02
namespace Go.L02
open Go Go.Eng Go.RowKit
open Go.Proofs hiding encI
open Go.L01 (Bs Own.same Tok qM qS qe qh)
set_option maxRecDepth 100000
set_option maxHeartbeats 2000000
@[simp] theorem qJD:qf Tryz.prog 84=true:=by kernel_rfl
@[simp] theorem qJC:qf Tryz.prog 85=true:=by kernel_rfl
@[simp] theorem qJE:qf Tryz.prog 31=true:=by kernel_rfl
@[simp] theorem qJF:qf Tryz.prog 30=true:=by kernel_rfl
theorem Ji {l:List Nd} (h:jI l=true):∃t:T,l=t.flat 0∧t.size≤400:=quJ h
theorem xn {w:World} {B:Nat} {a b:Array Value} {T:TypeId} (h:Blk w B a T) (e:a.toList=b.toList):Blk w B b T:=(Array.toList_inj.1 e)▸h
def wQ (b:Bool):Int:=if b then 0 else 21
def jm (l:List Nd) (i:Int):Int:=if jI l then (if 0≤i∧i≤(l.length:Int) - 1 then 0 else 1) else 21
section
variable {w:World} {lv:Value} {xs:List NV}
theorem ql1 (I:L01.G w) (O:vY w) (g:Rd w lv xs) (a:z8 (xs.map (·.nd))) (i:Int):Calls Tryz.prog 84 #[lv, .int .i64 i] w fun e w'=>e= .returned (.int .i64 (jm (xs.map (·.nd)) i))∧qb w w':=by
 refine qAu fun ρ r0 r1=> ?_;have H:=g.len;simp -implicitDefEqProofs [qnv,r0];refine (qgE I O g (a.ds rfl) (a.kl rfl)).mono ?_;rintro _ w2 ⟨rfl,c⟩;unfold jm;cases J:jI (xs.map (·.nd)) with
 |false=>
  simp -implicitDefEqProofs;exact c
 |true=>
  obtain ⟨t,z,o⟩:=Ji J;have y:xs.length=t.size:=by rw [←T.flat_len t 0,←z,List.length_map]
  have E:IntKind.i64.wrap ((xs.length:Int) - 1)=(xs.length:Int) - 1:=qp (by omega);simp -implicitDefEqProofs [qnt,r0,r1,g.cells.is,H,E];refine (qar w2 i 0 _).mono ?_;rintro _ w3 ⟨rfl,j⟩;obtain rfl:=j;by_cases h:0≤i
  ·by_cases k:i≤(xs.length:Int) - 1
   ·simp -implicitDefEqProofs [h,k,qnu];exact c
   ·simp -implicitDefEqProofs [h,k];exact c
  ·simp -implicitDefEqProofs [h];exact c
theorem qgC (V:Rd w lv xs) (S:xs.length≤1000000):∀(n:Nat) (u:T) (i:Nat) (W:World),qb w W→u.size≤n→jK (xs.map (·.nd)) i u→Calls Tryz.prog 85 #[lv, .int .i64 (i:Int)] W fun e w'=>e= .returned (.int .i64 (u.size:Int))∧qb W w'
 |0,u,_,_,_,hn,_=>by have:=u.size_pos;omega
 |n+1,u,i,W,H,hn,o=>by
  have E:i<xs.length:=by have:=o.lt;rwa [List.length_map] at this
  have hl:=V.len;have U:=V.ext H;have t:=o.node;rw [List.getElem?_map,List.getElem?_eq_getElem E] at t;simp only [Option.map_some,Option.some.injEq] at t;have a:=U.kids xs[i] (List.getElem_mem _);have aa:xs[i].nd.kids=qL (i+1 - u.size) u.kids:=by rw [t]
  rw [aa] at a;have y:qk xs[i].kv=u.kids.length:=by have:=a.len;simpa [xb] using this.symm
  have c5:W.cell? (qD lv (i*6+5))=some xs[i].kv:=by rw [U.cell E (by omega)];rfl
  have hle:=o.le;generalize xs[i].kv=kv at a y c5;have hsz:=u.size_eq;refine qAs fun ρ r0 r1=> ?_;have O:(i:Int)<(xs.length:Int):=by omega
  simp -implicitDefEqProofs [qns,r0,r1,V.cells.is,hl,O,E,c5,a.is,y];have hul:u.kids.length≤sizes u.kids:=by have:=roots_sizes u.kids 0;rwa [xb] at this
  obtain ⟨I,hI⟩:∃I:Nat→qa→World→Prop,∀j g w',I j g w'↔(g 0=lv∧g 12=kv∧g 13= .int .i64 (u.kids.length:Int)∧g 5= .int .i64 ((1+sizes (u.kids.take j):Nat):Int)∧qb W w'):=⟨_,fun _ _ _=>Iff.rfl⟩;refine jj 14 u.kids.length I (by simp) ((hI _ _ _).2 ⟨by simp [r0],by simp,by simp,by simp [sizes],qz _⟩) ?_;clear r0 r1;rintro j g w' hj Z ad;obtain ⟨r0,J,z,r5,Y⟩:=(hI _ _ _).1 ad;have ab:IntKind.i64.wrap ((j:Int)+1)=(j:Int)+1:=qp (by omega);by_cases c:j<u.kids.length
  ·have k:(j:Int)<(u.kids.length:Int):=by omega
   have h:=(a.ext Y).cell j (by simpa [xb] using c);have hka:=o.kid c;have hg:=qbu u.kids (i+1 - u.size) j c;have ac:j<(qL (i+1 - u.size) u.kids).length:=by simpa [xb] using c
   rw [List.getElem?_eq_getElem ac,Option.some.injEq] at hg;have e1:sizes (u.kids.take (j+1))=sizes (u.kids.take j)+u.kids[j].size:=by rw [List.take_succ_eq_append_getElem c,x9];simp [sizes]
   have hpos:=u.kids[j].size_pos;have e2:(((i+1 - u.size+sizes (u.kids.take (j+1)):Nat):Int) - 1)=((i+sizes (u.kids.take (j+1)) - u.size:Nat):Int):=by omega
   rw [List.getElem_map,hg,e2] at h;have hs1:sizes (u.kids.take (j+1))≤sizes u.kids:=by have:=congrArg sizes (List.take_append_drop (j+1) u.kids);rw [x9] at this;omega
   simp -implicitDefEqProofs [qhc,Z,z,k,c,qnq,J,a.is,y,h,encI,r0,r5];refine (qgC V S n u.kids[j] _ w' (H.trans' Y) (by omega) hka).mono ?_;rintro _ w3 ⟨rfl,hE3⟩;have hw5:IntKind.i64.wrap (1+(sizes (u.kids.take j):Int)+(u.kids[j].size:Int))=((1+sizes (u.kids.take (j+1)):Nat):Int):=by rw [qp (by omega)];omega
   simp -implicitDefEqProofs [qnr,Z,ab,c,hw5];exact (hI _ _ _).2 ⟨by simp [r0],by simp [J],by simp [z],by simp,Y.trans' hE3⟩
  ·have k:¬(j:Int)<(u.kids.length:Int):=by omega
   have e:u.kids.take j=u.kids:=List.take_of_length_le (by omega);rw [e] at r5;simp -implicitDefEqProofs [qhc,Z,z,k,c,qnp,r5];exact ⟨by omega,Y⟩
theorem qyY (S:L01.G w) (Y:vY w) (I:Rd w lv xs) (k:z8 (xs.map (·.nd))) (i:Int):Calls Tryz.prog 31 #[lv, .int .i64 i] w fun e w'=>
  (∃n:Nat,e= .returned (.tuple #[.int .i64 (n:Int), .int .i64 (jm (xs.map (·.nd)) i)])∧(jm (xs.map (·.nd)) i≠0→n=0)∧(jm (xs.map (·.nd)) i=0→∀u,jK (xs.map (·.nd)) i.toNat u→n=u.size))∧qb w w':=by
 generalize j:(fun (e:Ending) (w':World)=>(∃n:Nat,e= .returned (.tuple #[.int .i64 (n:Int), .int .i64 (jm (xs.map (·.nd)) i)])∧(jm (xs.map (·.nd)) i≠0→n=0)∧(jm (xs.map (·.nd)) i=0→∀u,jK (xs.map (·.nd)) i.toNat u→n=u.size))∧qb w w')=R;refine qBk fun ρ r0 r1=> ?_;simp -implicitDefEqProofs [qoW,r0,r1];refine (ql1 S Y I k i).mono ?_;rintro _ w2 ⟨rfl,E⟩;by_cases c:jm (xs.map (·.nd)) i=0
 ·have a:=c;unfold jm at a;split at a
  ·rename_i V;split at a
   ·rename_i U;obtain ⟨t,H,J⟩:=Ji V;have O:xs.length=t.size:=by rw [←T.flat_len t 0,←H,List.length_map]
    rw [List.length_map] at U;obtain ⟨u,o⟩:=qud t (i:=i.toNat) (by omega);rw [←H] at o;have z:((i.toNat:Nat):Int)=i:=by omega
    have g:=qgC I (by omega) u.size u i.toNat w2 E (Nat.le_refl _) o;rw [z] at g;simp -implicitDefEqProofs [c,qoU,r0,r1];refine g.mono ?_;rintro _ w3 ⟨rfl,y⟩;simp -implicitDefEqProofs;rw [←j];refine ⟨⟨u.size,by rw [c],fun h=>absurd c h,fun _ v Z=> ?_⟩,E.trans' y⟩;rw [jK.uniq u.size (Nat.le_refl _) o Z]
   ·cases a
  ·cases a
 ·simp -implicitDefEqProofs [c];rw [←j];exact ⟨⟨0,rfl,fun _=>rfl,fun h=>absurd h c⟩,E⟩
theorem qaj:jA Tryz.prog 3 1=true:=by kernel_rfl
theorem qmq:qdE Tryz.prog 40=some (3, .int .i64 0,8):=by kernel_rfl
theorem qyZ (hG:L01.G w) (hM:vY w) (hR:Rd w lv xs) (ao:z8 (xs.map (·.nd))):Calls Tryz.prog 30 #[lv] w fun e w'=>∃v,e= .returned (.tuple #[v, .int .i64 (wQ (jI (xs.map (·.nd))))])∧Cells w' v 1 ((if jI (xs.map (·.nd)) then wG (xs.map (·.nd)) else []).map encI)∧qb w w':=by
 have hl:=hR.len;have ag:=hR.cells.is;generalize au:(fun (e:Ending) (w':World)=>∃v,e= .returned (.tuple #[v, .int .i64 (wQ (jI (xs.map (·.nd))))])∧Cells w' v 1 ((if jI (xs.map (·.nd)) then wG (xs.map (·.nd)) else []).map encI)∧qb w w')=R;refine qBo fun ρ r0=> ?_;simp -implicitDefEqProofs [qpi,r0];refine (qgE hG hM hR (ao.ds rfl) (ao.kl rfl)).mono ?_;rintro _ w2 ⟨rfl,hE⟩;cases hc:jI (xs.map (·.nd)) with
 |false=>
  simp -implicitDefEqProofs;rw [←au,hc];exact ⟨.slice none 0 0,rfl,⟨rfl,rfl,fun j hj=>by simp at hj⟩,hE⟩
 |true=>
  obtain ⟨t,ht,h400⟩:=Ji hc;have hlen:xs.length=t.size:=by rw [←T.flat_len t 0,←ht,List.length_map]
  have hpos:=t.size_pos;have hpk:vA (xs.map (·.nd))=true:=by rw [ht];exact qdl t
  generalize hout:wG (xs.map (·.nd))=ah at au;simp -implicitDefEqProofs [qoX,r0,ag,hl];refine qiU (n:=xs.length) qmq (by simp;rfl) (by simp;rfl) (by omega) (by omega) (fun i z hi hz=> ?_) fun B w3 hB hE3 hb3=> ?_
  ·have h1:(match (Tryz.prog.info? 3).bind fun i=>i.zero with|some z=>z.cells.size==1|none=>false)=true:=by kernel_rfl
   rw [hi] at h1;simp only [Option.bind_some,hz] at h1;simpa using h1
  have hw:IntKind.i64.wrap ((xs.length:Int) - 1)=((xs.length - 1:Nat):Int):=by rw [qp (by omega)];omega
  have aE:((xs.length - 1:Nat):Int)<(xs.length:Int):=by omega
  have av:xs.length - 1<xs.length:=by omega
  have E:qo (.slice (some ⟨B,0,none⟩) xs.length xs.length)=true:=by simp [qo]
  have O:qk (.slice (some ⟨B,0,none⟩) xs.length xs.length)=xs.length:=rfl;have H:∀k,qD (.slice (some ⟨B,0,none⟩) xs.length xs.length) k=⟨B,k,none⟩:=fun k=>by simp [qD]
  generalize hov:(Value.slice (some ⟨B,0,none⟩) xs.length xs.length)=ov at E O H;simp -implicitDefEqProofs [hov,r0,ag,hl,hw,E,O,aE,av,H];refine qK (B:=B) (i:=xs.length - 1) (by simp) hb3 (by simp;omega) (by simp [Value.cells]) (by simp) qaj fun w4 aw ay=> ?_;have aj:Blk w4 B (((List.replicate xs.length (0:Int)).set (xs.length - 1) (-1)).map encI).toArray 3:=by
   have e:((List.replicate xs.length (0:Int)).set (xs.length - 1) (-1)).map encI=(List.replicate xs.length (.int .i64 0)).set (xs.length - 1) (.int .i64 (-1)):=by rw [List.map_set,List.map_replicate];rfl
   rw [e];exact xn ay (by simp)
  have aF:qb w2 w4:=aw.ext hE3 hB;simp -implicitDefEqProofs [r0,ag,hl];obtain ⟨I,hI⟩:∃I:Nat→qa→World→Prop,∀j c w',I j c w'↔(c 5=ov∧c 23=lv∧c 24= .int .i64 (xs.length:Int)∧qb w2 w'∧∃os:List Int,os.length=xs.length∧Blk w' B (os.map encI).toArray 3∧xd j ((xs.drop j).map (·.nd)) os=ah):=⟨_,fun _ _ _=>Iff.rfl⟩;refine jj 25 xs.length I (by simp) ((hI _ _ _).2 ⟨by simp,by simp,by simp,aF,_,by simp,aj,by rw [←hout];unfold wG;rw [List.length_map];rfl⟩) ?_;clear aj ay aw hb3 aF r0;rintro j c w' hj rj hIw;obtain ⟨r5,S,y,al,os,U,V,a⟩:=(hI _ _ _).1 hIw;have hwj:IntKind.i64.wrap ((j:Int)+1)=(j:Int)+1:=qp (by omega);have aq:=(hR.ext hE).ext al;by_cases aa:j<xs.length
  ·have af:(j:Int)<(xs.length:Int):=by omega
   have ak:=aq.row aa;have g:=aq.kids xs[j] (List.getElem_mem _);have ac:=(hR.ext hE).kids xs[j] (List.getElem_mem _);have ae:=qbJ hpk xs[j].nd (List.mem_map.2 ⟨xs[j],List.getElem_mem _,rfl⟩);rw [List.length_map] at ae;have az:=ao.2 xs[j].nd (List.mem_map.2 ⟨xs[j],List.getElem_mem _,rfl⟩);rw [List.drop_eq_getElem_cons aa,List.map_cons] at a;generalize xs[j]=x at ak g ac ae az a;have h:xd (j+1) ((xs.drop (j+1)).map (·.nd)) (x.nd.kids.foldl (fun o k=>o.set k.toNat (j:Int)) os)=ah:=a;have ai:=vl g.is;have hko:=vU g.is;have aC:qk x.kv=x.nd.kids.length:=by simpa using g.len.symm
   simp -implicitDefEqProofs [qhx,rj,y,af,aa,qoZ,S,ag,hl,ak];refine qR ww fun Y w5 hY hE5 hb5 _=> ?_;simp -implicitDefEqProofs;refine jl (B:=Y) (by simp) hb5 (by simp [Value.cells,qi,ai]) (by simp [Value.cells,qi,ai,hko]) (by simpa [Value.cells,qi,ai] using wE) fun w6 hO6 aA=> ?_;simp -implicitDefEqProofs [Value.cells,qi,ai] at aA;have hE6:qb w' w6:=hO6.ext hE5 hY;have c5:w6.cell? ⟨Y,5,none⟩=some x.kv:=by rw [aA.cell];rfl
   simp -implicitDefEqProofs [c5,g.is,aC];obtain ⟨J,hJ⟩:∃J:Nat→qa→World→Prop,∀q c w',J q c w'↔(c 5=ov∧c 23=lv∧c 24= .int .i64 (xs.length:Int)∧c 25= .int .i64 (j:Int)∧c 6= .int .i64 (j:Int)∧c 31=x.kv∧c 32= .int .i64 (x.nd.kids.length:Int)∧qb w2 w'∧∃os:List Int,os.length=xs.length∧Blk w' B (os.map encI).toArray 3∧xd (j+1) ((xs.drop (j+1)).map (·.nd)) ((x.nd.kids.drop q).foldl (fun o k=>o.set k.toNat (j:Int)) os)=ah):=⟨_,fun _ _ _=>Iff.rfl⟩;refine jj 33 x.nd.kids.length J (by simp) ((hJ _ _ _).2 ⟨by simp [r5],by simp [S],by simp [y],by simp [rj],by simp,by simp,by simp,al.trans' hE6,os,U,V.ext hE6,h⟩) ?_;clear a h V r5 S y rj U aq;rintro q ρ3 w7 hq rq hJw;obtain ⟨r5,S,y,r25,r6,r31,ar,an,os,U,V,a⟩:=(hJ _ _ _).1 hJw;have hwq:IntKind.i64.wrap ((q:Int)+1)=(q:Int)+1:=qp (by omega);by_cases ad:q<x.nd.kids.length
   ·have Z:(q:Int)<(x.nd.kids.length:Int):=by omega
    have ab:w7.cell? (qD x.kv q)=some (.int .i64 x.nd.kids[q]):=by
     rw [(ac.ext an).cell q (by simpa using ad)];simp [encI]
    have am:=ae x.nd.kids[q] (List.getElem_mem _);rw [List.drop_eq_getElem_cons ad,List.foldl_cons] at a;generalize x.nd.kids[q]=k at ab am a;have hkn:k.toNat<xs.length:=by omega
    simp -implicitDefEqProofs [qhy,rq,ar,Z,ad,qo1,r31,g.is,aC,ab,r5,E,O,am.1,am.2,H,r6];refine qK (B:=B) (i:=k.toNat) (by simp) V (by simp;omega) (by simp [Value.cells]) (by simp) qaj fun w8 hO8 hb8=> ?_;have ax:Blk w8 B ((os.set k.toNat (j:Int)).map encI).toArray 3:=by
     rw [List.map_set];simpa [encI] using hb8
    simp -implicitDefEqProofs [qo2,rq,hwq,ad];exact (hJ _ _ _).2 ⟨by simp [r5],by simp [S],by simp [y],by simp [r25],by simp [r6],by simp [r31],by simp [ar],hO8.ext an (by have:=hE3.size;omega),_,by simpa using U,ax,a⟩
   ·have Z:¬(q:Int)<(x.nd.kids.length:Int):=by omega
    have ap:x.nd.kids.drop q=[]:=List.drop_eq_nil_iff.2 (by omega);rw [ap] at a;simp -implicitDefEqProofs [qhy,rq,ar,Z,ad,qo0,r25,hwj,aa];exact (hI _ _ _).2 ⟨by simp [r5],by simp [S],by simp [y],an,os,U,V,a⟩
  ·have af:¬(j:Int)<(xs.length:Int):=by omega
   have ap:xs.drop j=[]:=List.drop_eq_nil_iff.2 (by omega);rw [ap] at a;have h:os=ah:=a;subst h;simp -implicitDefEqProofs [qhx,rj,y,af,aa,qoY,r5];rw [←au,hc];refine ⟨ov,rfl, ?_,hE.trans' al⟩;simp only [if_true];refine ⟨E,by simp [O,U],fun q hq=> ?_⟩;rw [H,V.cell];simp at hq⊢;simp [hq]
end
end Go.L02
namespace Go.L02
open Go.Eng
open Go.L01 (Bs Tok jV js jz qh ql right)
def kX (sep:Bs):List Bs→Bs
 |[]=>[]
 |[x]=>x
 |x::y::ys=>x++(sep++kX sep (y::ys))
def yW (ss:List Bs) (i:Nat):Bs:=ss.getD i []
def qbY (ks:List T) (i:Nat):Nat:=match ks[i]? with|some t=>t.d.kind|none=>0
def opd (k:Nat) (s:Bs):Bs:=if k=6 then [40]++(s++[41]) else s
def qFZ (d:D):Bs:=if d.vr≠[] then d.vr++([36]++d.name) else if d.typ≠[] then d.name++([123]++(d.typ++[125])) else d.name
def xtD (d:D) (ks:List T) (ss:List Bs):Bs:=
 if d.kind=1 then Lib.itoa d.n
 else if d.kind=2 then (if d.n=1 then [116,114,117,101] else [102,97,108,115,101])
 else if d.kind=3 then [110,105,108]
 else if d.kind=4 then d.name
 else if d.kind=5 then qFZ d++([40]++(kX [44,32] ss++[41]))
 else if d.kind=6 then (if ks.length=1 then [110,111,116,32]++opd (qbY ks 0) (yW ss 0) else opd (qbY ks 0) (yW ss 0)++([32]++(d.name++([32]++opd (qbY ks 1) (yW ss 1)))))
 else if d.kind=7 then opd (qbY ks 0) (yW ss 0)++([91]++(yW ss 1++[93]))
 else if d.kind=8 then opd (qbY ks 0) (yW ss 0)++([46]++d.name)
 else if d.kind=9 then [117,112,40]++(yW ss 0++[41])
 else [100,111,119,110,40]++(yW ss 0++[41])
mutual
def xt:T→Bs| .mk d ks=>xtD d ks (xts ks)
def xts:List T→List Bs|[]=>[] |t::ts=>xt t::xts ts
end
def ot (t:T):Bs:=opd t.d.kind (xt t)
def qwb (l:List Bs):List Bs:=l.dropLast++(match l.getLast? with|some s=>[s++[59]] |none=>[])
def qbk:List (List Bs)→List Bs
 |[]=>[]
 |[l]=>l
 |l::m::ls=>qwb l++qbk (m::ls)
def qeC (l:List Bs):List Bs:=l.map ([32,32]++ ·)
def xk (ks:List T) (i:Nat):Bs:=match ks[i]? with|some t=>xt t|none=>[]
def ok (ks:List T) (i:Nat):Bs:=match ks[i]? with|some t=>ot t|none=>[]
def qzV (d:D) (ks:List T):Bs:=
 if d.kind=21 then [118,97,114,32]++(d.name++([58,32]++(d.typ++([32,58,61,32]++xk ks 0))))
 else if d.kind=22 then d.name++([32,58,61,32]++xk ks 0)
 else if d.kind=23 then ok ks 0++([91]++(xk ks 1++([93,32,58,61,32]++xk ks 2)))
 else if d.kind=24 then ok ks 0++([46]++(d.name++([32,58,61,32]++xk ks 1)))
 else if d.kind=25 then xk ks 0
 else if d.kind=37 then [112,117,116,32]++xk ks 0
 else if d.kind=30 then [121,105,101,108,100,32]++xk ks 0
 else if d.kind=31 then [115,105,103,110,97,108,32]++d.name
 else if d.kind=34 then [98,114,101,97,107]
 else if ks.length=0 then [114,101,116,117,114,110] else [114,101,116,117,114,110,32]++xk ks 0
def quL (s:Bs):Bs:=if s=[] then [111,116,104,101,114,115] else s
mutual
def stL:T→List Bs
 | .mk d ks=>
  if d.kind=26 then condL [105,102] ks++[[101,110,100]]
  else if d.kind=27 then ([119,104,105,108,101,32]++(xk ks 0++[32,100,111]))::(blkL 1 ks++[[101,110,100]])
  else if d.kind=28 then ([102,111,114,32]++(d.name++([58,32]++(d.typ++([32,105,110,32]++(xk ks 0++[32,100,111]))))))::(blkL 1 ks++[[101,110,100]])
  else if d.kind=32 then [98,101,103,105,110]::(blkL 0 ks++([101,120,99,101,112,116]::(whensT ks++[[101,110,100]])))
  else if d.kind=35 then ([116,97,103,99,97,115,101,32]++xk ks 0)::(armsT ks++[[101,110,100]])
  else [qzV d ks]
def qbd:List T→List (List Bs)|[]=>[] |t::ts=>stL t::qbd ts
def blkL:Nat→List T→List Bs
 |_,[]=>[]
 |0, .mk _ qs::_=>qeC (qbk (qbd qs))
 |i+1,_::ks=>blkL i ks
def condL:Bs→List T→List Bs
 |word,[c, .mk _ qs]=>(word++([32]++(xt c++[32,116,104,101,110])))::qeC (qbk (qbd qs))
 |word,[c, .mk _ qs, .mk _ rs]=>(word++([32]++(xt c++[32,116,104,101,110])))::(qeC (qbk (qbd qs))++elseL (qeC (qbk (qbd rs))) rs)
 |_,_=>[]
def elseL:List Bs→List T→List Bs
 |ls,[.mk d ks]=>if d.kind=26 then condL [101,108,115,101,105,102] ks else [101,108,115,101]::ls
 |ls,_=>[101,108,115,101]::ls
def whensT:List T→List Bs|[]=>[] |_::ts=>whensL ts
def armsT:List T→List Bs|[]=>[] |_::ts=>armsL ts
def whensL:List T→List Bs
 |[]=>[]
 | .mk d ks::ts=>([119,104,101,110,32]++(quL d.name++[58]))::(blkL 0 ks++whensL ts)
def armsL:List T→List Bs
 |[]=>[]
 | .mk d ks::ts=>([116,97,103,32]++(d.name++([40]++(d.vr++([58,32]++(d.typ++[41,58]))))))::(blkL 0 ks++armsL ts)
end
end Go.L02
