/- Lemmas for a claim about layer 2 (tree). No conditions but those they state. -/
import Derived.Test.YtbcmiempigoooaaGreatDoorGap
import Derived.Shelf.Strings.Cut
import Derived.Test.YtbcmiempigoooaaGreatDoorProg
import Derived.KernelRfl
import Derived.Lib.ItoaNum
set_option linter.all false
namespace Go.Proofs
open Go.Shelf
def Tryz.lays145_ren:Go.Shelf.Ren:=⟨fun|145=>76|220=>161|219=>230|217=>282|225=>283|224=>284|267=>285|266=>330|314=>331|n=>n,fun|9=>9|4=>4|59=>107|3=>3|5=>5|46=>266|146=>300|51=>285|n=>n,fun|1=>0|n=>n⟩
theorem Tryz.lays145:Go.Proofs.Lays.n145 Tryz.prog Tryz.lays145_ren:={
 mixed:=by kernel_rfl
 f145:=Tryz.func76.trans (congrArg some (by kernel_rfl))
 f217:=Tryz.func282.trans (congrArg some (by kernel_rfl))
 f219:=Tryz.func230.trans (congrArg some (by kernel_rfl))
 f220:=Tryz.func161.trans (congrArg some (by kernel_rfl))
 f224:=Tryz.func284.trans (congrArg some (by kernel_rfl))
 f225:=Tryz.func283.trans (congrArg some (by kernel_rfl))
 f266:=Tryz.func330.trans (congrArg some (by kernel_rfl))
 f267:=Tryz.func285.trans (congrArg some (by kernel_rfl))
 f314:=Tryz.func331.trans (congrArg some (by kernel_rfl))
 t3:=Tryz.underlying3
 a3:=Tryz.isAgg3
 z3:=Tryz.sizeOf3
 v3:=Tryz.zeroValue3
 t4:=Tryz.underlying4
 a4:=Tryz.isAgg4
 z4:=Tryz.sizeOf4
 v4:=Tryz.zeroValue4
 t5:=Tryz.underlying5
 a5:=Tryz.isAgg5
 z5:=Tryz.sizeOf5
 v5:=Tryz.zeroValue5
 t9:=Tryz.underlying9
 a9:=Tryz.isAgg9
 z9:=Tryz.sizeOf9
 v9:=Tryz.zeroValue9
 t46:=Tryz.underlying266
 a46:=Tryz.isAgg266
 z46:=Tryz.sizeOf266
 v46:=Tryz.zeroValue266
 t51:=Tryz.underlying285
 a51:=Tryz.isAgg285
 z51:=Tryz.sizeOf285
 v51:=Tryz.zeroValue285
 t59:=Tryz.underlying107
 a59:=Tryz.isAgg107
 z59:=Tryz.sizeOf107
 v59:=Tryz.zeroValue107
 t146:=Tryz.underlying300
 a146:=Tryz.isAgg300
 z146:=Tryz.sizeOf300
 v146:=Tryz.zeroValue300
 g1:=by kernel_rfl}
theorem Tryz.cut (s sep:ByteArray) (m:Int) (w:World) (c:s.size<4294967281) (a:w.cell? ⟨0,0,none⟩=some (.int .i64 m)):
  Calls Tryz.prog 76 #[.string s, .string sep] w fun e w'=>e= .returned (.tuple #[.string ⟨(Lib.cut s.data.toList sep.data.toList).1.toArray⟩, .string ⟨(Lib.cut s.data.toList sep.data.toList).2.1.toArray⟩, .bool (Lib.cut s.data.toList sep.data.toList).2.2])∧∃n,w'=w.drewN n:=Any.strings_Cut Tryz.lays145 s sep m w c a
end Go.Proofs
namespace Go.L02
open Go Go.Eng Go.RowKit
open Go.Proofs hiding encI
open Go.L01 (Bd Bs Own.same Q4 SlK Tok fV jB jC jD jX jm jx qB qK qQ qh qi qu vo vp)
set_option maxRecDepth 100000
set_option maxHeartbeats 2000000
theorem qrq (c:UInt8):∀s:Bs,Lib.index s [c]=match s.findIdx? (fun b=>decide (b=c)) with|none=> -1|some k=>(k:Int)
 |[]=>by simp [Lib.index]
 |b::l=>by
  rw [Lib.index,List.findIdx?_cons];by_cases h:b=c
  ·subst h;simp [List.isPrefixOf]
  ·have a:¬c=b:=fun e=>h e.symm;rw [qrq c l];simp only [List.isPrefixOf,h,a,beq_iff_eq,Bool.and_true,if_false,decide_false,Bool.false_eq_true];cases l.findIdx? (fun b=>decide (b=c)) with
   |none=>rfl
   |some k=>
    simp only [Option.map_some];rw [if_neg (by omega)]
    push_cast
    rfl
theorem qDs (s:Bs):Lib.cut s [95]=match kT s with|none=>(s,[],false)|some k=>(s.take k,s.drop (k+1),true):=by
 unfold Lib.cut kT;rw [qrq];cases s.findIdx? (fun c=>decide (c=95)) with
 |none=>rfl
 |some k=>simp
def zW (w:World):Prop:=∃m,w.cell? ⟨0,0,none⟩=some (.int .i64 m)
theorem zW.ext {w w':World} (h:zW w) (a:qb w w'):zW w':=by
 obtain ⟨m,h⟩:=h;exact ⟨m,a.cell h⟩
theorem qld {w:World} (o:L01.G w) (E:zW w) (s:Bs) (I:s.length<4294967281):Calls Tryz.prog 24 #[.string (qc s)] w fun e w'=>e= .returned (.bool (zC s))∧qb w w':=by
 refine qz3 fun ρ r0=> ?_;simp -implicitDefEqProofs [qoD,r0];refine (qwW s w).mono ?_;rintro _ w1 ⟨rfl,j⟩;cases h:vN.contains s with
 |true=>
  have e:zC s=true:=by unfold zC;rw [h];rfl
  simp -implicitDefEqProofs [e];exact j
 |false=>
  have e:zC s=(match kT s with|none=>qh s|some k=>qh (s.take k)&&qh (s.drop (k+1))):=by unfold zC;rw [h];rfl
  simp -implicitDefEqProofs [qot,r0];obtain ⟨m,H⟩:=E.ext j;refine (Tryz.cut (qc s) (qc [95]) m w1 I H).mono ?_;rintro _ w2 ⟨rfl,n,rfl⟩;have a:qb w (w1.drewN n):=j.trans' ⟨rfl,rfl,rfl,Nat.le_refl _,fun _ _=>rfl⟩;have z:Lib.cut (qc s).data.toList (qc [95]).data.toList=_:=qDs s;rw [z];cases y:kT s with
  |none=>
   rw [y] at e;simp -implicitDefEqProofs;refine (L01.Qo (o.ext a) s).mono ?_;rintro _ w3 ⟨rfl,c⟩;have g:zC s=qh s:=e;cases hn:qh s with
   |true=>
    rw [hn] at g;simp -implicitDefEqProofs [g];exact a.trans' c
   |false=>
    rw [hn] at g;simp -implicitDefEqProofs [g];exact a.trans' c
  |some k=>
   rw [y] at e;simp -implicitDefEqProofs;refine (L01.Qo (o.ext a) (s.take k)).mono ?_;rintro _ w3 ⟨rfl,c⟩;have g:zC s=(qh (s.take k)&&qh (s.drop (k+1))):=e;cases hn:qh (s.take k) with
   |true=>
    rw [hn] at g;simp -implicitDefEqProofs;refine (L01.Qo ((o.ext a).ext c) (s.drop (k+1))).mono ?_;rintro _ J ⟨rfl,t⟩;simp -implicitDefEqProofs [g];exact (a.trans' c).trans' t
   |false=>
    rw [hn] at g;simp -implicitDefEqProofs [g];exact a.trans' c
noncomputable def qhC:IR:=zq [za 6 (zQ false),za 6 (.ite (zI .geq (zv 0) (zv 1)) (zI .leq (zv 0) (zv 2)) (zQ false))] <| .ret
def qB3:List Nat:=[0,1,2,6]
theorem qB2:C3 127 15 qB3 qhC [.tmp 6]:=c3 [] Tryz.func127
noncomputable def qpd:IR:=zq [zm 9 1,zm 10 0,zE 11 (.call {callee:= .value (zt 9),args:= #[zt 10],argTypes:= #[9]}) 4,zm 4 11] <| .ret
noncomputable def qpe:IR:=zq [za 4 (zQ false),zm 5 1,zE 6 (.binOp .eql 34 (zt 5) (.const .nilFunc) 34) 4] <| .seq (.cond (zv 6) (zq [za 4 (zS .eql (zv 0) (.const (zs #[])))] <| .ret) .skip) (qpd)
def qAD:List Nat:=zV 12 [2,3,7,8]
theorem qAC:C2 225 12 qAD qpe [.tmp 4]:=c2 [] Tryz.func225
noncomputable def qpb:IR:=zq [za 15 (zo 2 (zv 1)),zc 16 22 #[zt 15] #[9] 4,zm 17 16,zg 17 true 19 (zo 1 (zv 1)),zh 17 true 20 24 #[zt 19] #[9] 4,za 2 (.ite (.ite (zv 17) (zv 20) (zQ false)) (zS .eql (zo 3 (zv 1)) (.const (zs #[]))) (zQ false))] <| .ret
noncomputable def qpc:IR:=zq [zE 1 (.box 44 (zt 0)) 0,za 2 (zQ false),za 5 (zS .eql (zo 2 (zv 1)) (.const (zs #[])))] <| .seq (.cond (zv 5) (zq [za 7 (zo 1 (zv 1)),zc 8 77 #[zt 7] #[9] 4,zm 9 8,zg 9 true 11 (zo 3 (zv 1)),zh 9 true 12 280 #[zt 11] #[9] 4,za 2 (.ite (zv 9) (zv 12) (zQ false))] <| .ret) .skip) (qpb)
def qAB:List Nat:=zV 21 [3,4,6,10,13,14,18]
theorem qAA:C1 226 27 qAB qpc [.tmp 2]:=c1 [] Tryz.func226
noncomputable def qgC:IR:=zq [za 2 (zQ false),za 5 (zS .eql (zv 0) (.const (zs #[]))),zg 5 false 6 (zv 0),zh 5 false 7 22 #[zt 6] #[9] 4,za 2 (.ite (zv 5) (zQ true) (zv 7))] <| .ret
def qzL:List Nat:=zV 8 [1,3,4]
theorem qzK:C1 280 9 qzL qgC [.tmp 2]:=c1 [] Tryz.func280
noncomputable def qpm:IR:=zq [zE 1 (.box 3 (zt 0)) 0,za 2 (.const .nilFunc),zE 3 (.makeFunc (.func 278) #[] #[zt 1]) 238,zm 2 3] <| .ret
def qAN:List Nat:=zV 4 []
theorem qAM:C1 220 4 qAN qpm [.tmp 2]:=c1 [] Tryz.func220
noncomputable def qn7:IR:=zq [za 3 (zQ false),zm 4 0,za 5 (zl (zv 1)),zc 6 127 #[zt 4,zO 0,zt 5] #[3,3,3] 4,zm 3 6] <| .ret
def qzR:List Nat:=zV 7 [2]
theorem qzQ:C2 278 7 qzR qn7 [.tmp 3]:=c2 [] Tryz.func278
noncomputable def qpj:IR:=zq [zE 1 (.box 5 (zt 0)) 0,za 2 (.const .nilFunc),zE 3 (.makeFunc (.func 279) #[] #[zt 1]) 98,zm 2 3] <| .ret
def qAH:List Nat:=zV 4 []
theorem qAG:C1 223 4 qAH qpj [.tmp 2]:=c1 [] Tryz.func223
noncomputable def qn6:IR:=zq [zE 2 (.box 44 (zt 0)) 0,za 3 (zQ false),za 3 (zB .eql (zo 0 (zv 2)) (zl (zv 1)))] <| .ret
def qzP:List Nat:=zV 4 []
theorem qzO:C2 279 8 qzP qn6 [.tmp 3]:=c2 [] Tryz.func279
noncomputable def qpl:IR:=zq [za 2 (zQ false),zE 3 (.buildSlice 51 11 #[(0,(zY #[110,111,116])),(1,(zY #[43])),(2,(zY #[45])),(3,(zY #[42])),(4,(zY #[47])),(5,(zY #[109,111,100])),(6,(zY #[60])),(7,(zY #[60,61])),(8,(zY #[61])),(9,(zY #[97,110,100])),(10,(zY #[111,114]))]) 51,zm 4 0,zc 5 160 #[zt 3,zt 4] #[51,9] 4,zm 2 5] <| .ret
def qAL:List Nat:=zV 6 [1]
theorem qAK:C1 221 6 qAL qpl [.tmp 2]:=c1 [] Tryz.func221
noncomputable def qpk:IR:=zq [zE 1 (.box 44 (zt 0)) 0,za 2 (zQ false),za 3 (zo 0 (zv 1)),za 7 (.op1 (.conv .i64) (zv 3)),zc 8 127 #[zt 7,zO 21,zO 31] #[3,3,3] 4,za 2 (.ite (.ite (.ite (.ite (zv 8) (zQ true) (zB .eql (zv 3) (.const (zu 32)))) (zQ true) (zB .eql (zv 3) (.const (zu 34)))) (zQ true) (zB .eql (zv 3) (.const (zu 35)))) (zQ true) (zB .eql (zv 3) (.const (zu 37))))] <| .ret
def qAJ:List Nat:=zV 9 [4,5,6]
theorem qAI:C1 222 25 qAJ qpk [.tmp 2]:=c1 [] Tryz.func222
noncomputable def qm5:IR:=zq [zE 1 (.box 44 (zt 0)) 0,za 2 (zQ false),za 5 (.op1 (.conv .i64) (zo 0 (zv 1))),zc 6 127 #[zt 5,zO 1,zO 10] #[3,3,3] 4,zm 2 6] <| .ret
def qy8:List Nat:=zV 7 [3,4]
theorem qy7:C1 65 7 qy8 qm5 [.tmp 2]:=c1 [] Tryz.func65
noncomputable def qmK:IR:=zq [zE 1 (.box 44 (zt 0)) 0,za 2 (zQ false),za 2 (zB .eql (zo 0 (zv 1)) (.const (zu 20)))] <| .ret
def qyQ:List Nat:=zV 3 []
theorem qyP:C1 80 6 qyQ qmK [.tmp 2]:=c1 [] Tryz.func80
noncomputable def qps:IR:=zq [zE 2 (.box 241 (zt 0)) 0,za 4 (.const (.pointer none)),zm 5 1,za 7 (zL (zv 1)),za 9 (zL (zv 1)),za 10 (zf 4 (zv 2)),zw 239 (zt 10) (zt 5),za 11 (zf 6 (zv 2)),zw 3 (zt 11) (zt 7),za 12 (zf 7 (zv 2)),zw 3 (zt 12) (zt 9),zm 4 2] <| .ret
def qAT:List Nat:=zV 13 [3,6,8]
theorem qAS:C2 218 13 qAT qps [.tmp 4]:=c2 [] Tryz.func218
noncomputable def qpr:IR:=zq [za 2 (zQ false),za 2 (zQ true)] <| .ret
def qAR:List Nat:=[0,2]
theorem qAQ:C1 219 3 qAR qpr [.tmp 2]:=c1 [] Tryz.func219
noncomputable def qao:Code:=((Tryz.f147.body).getD .skip)
noncomputable def qhz:IR:=zq [zm 122 11,za 126 (zM 6 (zx 6 (zv 0) (zv 10))),zE 127 (.call {callee:= .value (zt 122),args:= #[zt 126],argTypes:= #[44]}) 4,za 128 (zn (zv 127))] <| .cond (zv 128) (zq [za 6 (zQ false)] <| .ret) .skip
noncomputable def qdZ:IR:= .reg [za 99 (zI .add (zv 99) (zK 1))]
noncomputable def qhw:IR:= .seq (.block 1 (zq [zm 101 99,za 103 (zl (zx 1 (zv 97) (zv 99))),zm 9 101,zm 10 103,za 11 (zo 5 (zN (zv 7))),za 114 (zI .lss (zv 9) (zL (zo 4 (zN (zv 7)))))] <| .seq (.cond (zv 114) (.reg [za 11 (zl (zx 1 (zo 4 (zN (zv 7))) (zv 9)))]) .skip) (qhz))) (qdZ)
noncomputable def qdW:IR:=zq [za 100 (zI .lss (zv 99) (zv 98))] <| .seq (.cond (zv 100) .skip (.exit 0)) (qhw)
noncomputable def qhv:IR:= .reg [za 152 (zI .add (zv 152) (zK 1))]
noncomputable def qqy:IR:= .seq (.block 4 (zq [zm 154 152,za 156 (zl (zx 1 (zv 150) (zv 152))),zm 12 154,zm 13 156,za 14 (zo 1 (zx 6 (zv 0) (zv 13))),zm 162 14,zc 163 77 #[zt 162] #[9] 4,za 176 (.ite (zn (zv 163)) (.ite (zS .neq (zv 14) (.const (zs #[]))) (zQ true) (zI .lss (zv 12) (zI .sub (zL (zo 5 (zv 4))) (zK 2)))) (zQ false))] <| .cond (zv 176) (zq [za 6 (zQ false)] <| .ret) .skip)) (qhv)
noncomputable def qhs:IR:=zq [za 153 (zI .lss (zv 152) (zv 151))] <| .seq (.cond (zv 153) .skip (.exit 3)) (qqy)
noncomputable def qhu:IR:=zq [za 6 (zQ true)] <| .ret
noncomputable def qan:IR:=zq [za 131 (zo 0 (zv 4))] <| .seq (.block 2 (zq [za 132 (zB .eql (zv 131) (.const (zu 5)))] <| .cond (zv 132) (zq [za 134 (zM 6 (zv 4)),zc 135 226 #[zt 134] #[44] 4,zm 6 135] <| .ret) (zq [za 136 (zB .eql (zv 131) (.const (zu 6)))] <| .cond (zv 136) (zq [za 6 (.op2 (.bbin .eql) (zS .eql (zo 1 (zv 4)) (.const (zs #[110,111,116]))) (zI .eql (zL (zo 5 (zv 4))) (zK 1)))] <| .ret) (zq [za 146 (zB .eql (zv 131) (.const (zu 32)))] <| .cond (zv 146) (zq [za 150 (.op2 (.slLo 1) (zo 5 (zv 4)) (zK 1)),za 151 (zL (zv 150)),za 152 (zK 0)] <| .block 3 (.loop qhs)) .skip)))) (qhu)
noncomputable def qht:IR:=zq [za 97 (zo 5 (zv 4)),za 98 (zL (zv 97)),za 99 (zK 0)] <| .seq (.block 0 (.loop qdW)) (qan)
noncomputable def qdY:IR:= .seq (.cond (zv 95) (zq [za 6 (zQ false)] <| .ret) .skip) (qht)
noncomputable def qhy:IR:= .seq (.drw [za 50 (zo 1 (zv 4)),za 54 (zo 0 (zN (zv 7))),zc 55 225 #[zt 50,zt 54] #[9,34] 4,za 57 (zn (zv 55)),zg 57 false 59 (zo 2 (zv 4)),zg 57 false 63 (zo 1 (zN (zv 7))),zh 57 false 64 225 #[zt 59,zt 63] #[9,34] 4,za 67 (.ite (zv 57) (zQ true) (zn (zv 64))),zg 67 false 69 (zo 3 (zv 4)),zg 67 false 73 (zo 2 (zN (zv 7))),zh 67 false 74 225 #[zt 69,zt 73] #[9,34] 4,za 81 (.ite (.ite (zv 67) (zQ true) (zn (zv 74))) (zQ true) (zn (zv 8))),zg 81 false 84 (zL (zo 5 (zv 4))),zg 81 false 88 (zo 6 (zN (zv 7))),zg 81 false 92 (zo 7 (zN (zv 7))),zh 81 false 93 127 #[zt 84,zt 88,zt 92] #[3,3,3] 4,za 95 (.ite (zv 81) (zQ true) (zn (zv 93)))]) (qdY)
noncomputable def qhx:IR:=zq [za 8 (zI .eql (zo 4 (zv 4)) (zK 0)),za 40 (zo 3 (zN (zv 7))),zE 41 (.binOp .neq 238 (zt 40) (.const .nilFunc) 238) 4] <| .seq (.cond (zv 41) (.raw (qL qao 6)) .skip) (qhy)
noncomputable def qqz:IR:= .seq (.raw (qL qao 3)) (qhx)
noncomputable def qdX:IR:= .seq (.cond (zv 27) (zq [za 6 (zQ false)] <| .ret) .skip) (qqz)
noncomputable def qqA:IR:=zq [zE 4 (.box 44 (zt 1)) 0,za 6 (zQ false)] <| .seq (.raw (qL qao 1)) (qdX)
def xO:List Nat:=[0,1,2,4,6,7,8,9,10,11,12,13,14,15,16,17,18,19,20,21,22,23,24,25,26,27,28,29,30,31,32,33,40,41,42,43,44,45,46,47,48,50,54,55,57,59,63,64,67,69,73,74,81,84,88,92,93,95,97,98,99,100,101,103,114,122,126,127,128,131,132,134,135,136,146,150,151,152,153,154,156,162,163,176]
theorem qBK:C3 147 178 xO qqA [.tmp 6]:=c3 [6,3,1] Tryz.func147
noncomputable def qhr:OT:=zy 15 (zf 0 (zv 4))<|zy 16 (zl (zv 15))<|zy 17 (.op1 (.conv .i64) (zv 16))<|zy 18 (zI .geq (zv 17) (zK 38))<|zy 19 (zv 18)<| .take (some (19,false)) 20 (zv 2)<| .take (some (19,false)) 21 (zf 0 (zv 4))<| .take (some (19,false)) 22 (zl (zv 21))<| .take (some (19,false)) 23 (zN (zv 20))<| .step (.eff (some (19,false)) (some 24) (.indexAddr 175 (zt 23) (zt 22)) 0) false<| .step (zg 19 false 25 (zl (zv 24))) false<| .step (.eff (some (19,false)) (some 26) (.binOp .eql 174 (zt 25) (.const (.pointer none)) 174) 4) false<| .step (za 27 (.ite (zv 19) (zQ true) (zv 26))) false<| .done
theorem qBJ:vD Tryz.prog 178 xO 9 (qL qao 1)=some qhr:=by kernel_rfl
noncomputable def qqx:OT:=zy 28 (zv 2)<|zy 29 (zf 0 (zv 4))<|zy 30 (zl (zv 29))<|zy 31 (zN (zv 28))<| .step (zE 32 (.indexAddr 175 (zt 31) (zt 30)) 0) false<| .step (za 33 (zl (zv 32))) false<| .step (zm 7 33) false<| .done
theorem qBI:vD Tryz.prog 178 xO 4 (qL qao 3)=some qqx:=by kernel_rfl
noncomputable def qqw:OT:=zy 42 (zv 7)<|zy 43 (zN (zv 42))<|zy 44 (zf 3 (zv 43))<|zy 45 (zl (zv 44))<|zy 46 (zf 4 (zv 4))<|zy 47 (zl (zv 46))<| .step (zE 48 (.call {callee:= .value (zt 45),args:= #[zt 47],argTypes:= #[3]}) 4) false<| .step (zm 8 48) false<| .done
theorem qBH:vD Tryz.prog 178 xO 6 (qL qao 6)=some qqw:=by kernel_rfl
noncomputable def qmi:IR:= .reg [za 34 (.op4 (.slMax 1) (zv 3) (zK 0) (zv 6) (zv 6)),zm 35 4,zE 36 (.buildSlice 40 1 #[(0,(zt 35))]) 40,zp 37 #[zt 34,zt 36] #[40,40] 40,zm 3 37]
noncomputable def qdt:IR:= .seq (.cond (zv 30) (zq [za 2 (zQ false)] <| .ret) .skip) (qmi)
noncomputable def qmh:IR:= .reg [za 9 (zI .add (zv 9) (zK 1))]
noncomputable def qmg:IR:= .seq (.block 1 (zq [zm 11 9,za 13 (zM 6 (zx 6 (zv 7) (zv 9))),zA 5 44,zm 4 11,zw 44 (zt 5) (zt 13),za 6 (zI .sub (zL (zv 3)) (zL (zo 5 (zv 5))))] <| .seq (.drw [za 22 (zI .lss (zv 6) (zK 0)),zg 22 false 25 (.op2 (.slLo 1) (zv 3) (zv 6)),zg 22 false 27 (zo 5 (zv 5)),zh 22 false 28 50 #[zt 25,zt 27] #[40,40] 4,za 30 (.ite (zv 22) (zQ true) (zn (zv 28)))]) (qdt))) (qmh)
noncomputable def qgl:IR:=zq [za 10 (zI .lss (zv 9) (zv 8))] <| .seq (.cond (zv 10) .skip (.exit 0)) (qmg)
noncomputable def qmf:IR:=zq [za 2 (zI .eql (zL (zv 3)) (zK 1))] <| .ret
noncomputable def qmj:IR:=zq [za 2 (zQ false),za 3 (.const (.slice none 0 0)),zm 7 0,za 8 (zL (zv 7)),za 9 (zK 0)] <| .seq (.block 0 (.loop qgl)) (qmf)
def qyD:List Nat:=zV 38 [1,12,14,15,16,17,18,19,20,21,23,24,26,29,31,32,33]
theorem qyC:C1 98 42 qyD qmj [.tmp 2]:=c1 [] Tryz.func98
noncomputable def qqB:IR:=zq [zE 3 (.box 44 (zt 0)) 0,za 4 (zQ false),za 5 (zl (zv 1)),za 6 (zM 6 (zv 3)),zc 7 147 #[zt 5,zt 6,zt 2] #[29,44,178] 4,za 4 (zn (zv 7))] <| .ret
def qBM:List Nat:=zV 8 []
theorem qBL:C3 146 9 qBM qqB [.tmp 4]:=c3 [] Tryz.func146
noncomputable def qqC:IR:=zq [za 4 (zQ false),zm 5 0,zm 6 1,zc 7 224 #[zt 5,zt 6] #[29,98] 3,za 4 (zI .geq (zv 7) (zK 0))] <| .ret
def qBO:List Nat:=zV 8 [2,3]
theorem qBN:C2 145 9 qBO qqC [.tmp 4]:=c2 [] Tryz.func145
noncomputable def qph:IR:= .reg [za 8 (zI .add (zv 8) (zK 1))]
noncomputable def qpg:IR:= .seq (.block 1 (zq [zm 5 8,zm 11 1,za 15 (zM 6 (zx 6 (zv 0) (zv 5))),zE 16 (.call {callee:= .value (zt 11),args:= #[zt 15],argTypes:= #[44]}) 4] <| .cond (zv 16) (zq [zm 4 5] <| .ret) .skip)) (qph)
noncomputable def qg2:IR:=zq [za 9 (zI .lss (zv 8) (zv 7))] <| .seq (.cond (zv 9) .skip (.exit 0)) (qpg)
noncomputable def qpf:IR:=zq [za 4 (.const (.int .i64 (-1)))] <| .ret
noncomputable def qpi:IR:=zq [za 4 (zK 0),za 7 (zL (zv 0)),za 8 (zK 0)] <| .seq (.block 0 (.loop qg2)) (qpf)
def qAF:List Nat:=zV 17 [2,3,6,10,12,13,14]
theorem qAE:C2 224 19 qAF qpi [.tmp 4]:=c2 [] Tryz.func224
noncomputable def qm6:IR:=zq [zc 26 144 #[] #[] 175,zA 5 175,zw 175 (zt 5) (zt 26),za 27 (zl (zv 2)),zE 28 (.makeFunc (.func 146) #[] #[zt 2,zt 5]) 98,zc 29 145 #[zt 27,zt 28] #[29,98] 4,za 4 (zn (zv 29))] <| .ret
noncomputable def qm7:IR:=zq [zE 2 (.box 29 (zt 0)) 0,za 4 (zQ false),za 7 (zL (zl (zv 2))),zc 8 127 #[zt 7,zO 1,zO 400] #[3,3,3] 4,za 10 (zn (zv 8)),zg 10 false 11 (zl (zv 2)),zh 10 false 12 98 #[zt 11] #[29] 4,za 15 (.ite (zv 10) (zQ true) (zn (zv 12))),zg 15 false 16 (zv 1),zg 15 false 22 (zM 6 (zx 6 (zl (zv 2)) (zI .sub (zL (zl (zv 2))) (zK 1)))), .eff (some (15,false)) (some 23) (.call {callee:= .value (zt 16),args:= #[zt 22],argTypes:= #[44]}) 4,za 25 (.ite (zv 15) (zQ true) (zn (zv 23)))] <| .seq (.cond (zv 25) (zq [za 4 (zQ false)] <| .ret) .skip) (qm6)
def qza:List Nat:=zV 30 [3,6,9,13,14,17,18,19,20,21,24]
theorem qy9:C2 64 31 qza qm7 [.tmp 4]:=c2 [] Tryz.func64
noncomputable def qn9:IR:=zq [za 2 (zK 0)] <| .ret
noncomputable def qol:IR:=zq [za 2 (zK 0),zm 3 0,zc 4 64 #[zt 3,(.func 80)] #[29,98] 4,za 5 (zn (zv 4))] <| .seq (.cond (zv 5) (zq [za 2 (zK 21)] <| .ret) .skip) (qn9)
def qzT:List Nat:=zV 6 [1]
theorem qzS:C1 26 6 qzT qol [.tmp 2]:=c1 [] Tryz.func26
noncomputable def qmA:IR:=zq [za 4 (zK 0)] <| .ret
noncomputable def qmz:IR:=zq [zm 11 1,za 14 (zI .sub (zL (zv 0)) (zK 1)),zc 15 127 #[zt 11,zO 0,zt 14] #[3,3,3] 4,za 16 (zn (zv 15))] <| .seq (.cond (zv 16) (zq [za 4 (zK 1)] <| .ret) .skip) (qmA)
noncomputable def qmB:IR:=zq [za 4 (zK 0),zm 6 0,zc 7 26 #[zt 6] #[29] 24,zm 5 7,za 9 (zI .neq (zv 5) (zK 0))] <| .seq (.cond (zv 9) (zq [zm 4 5] <| .ret) .skip) (qmz)
def qyM:List Nat:=zV 17 [2,3,8,10,12,13]
theorem qyL:C2 84 17 qyM qmB [.tmp 4]:=c2 [] Tryz.func84
noncomputable def qmx:IR:= .reg [za 14 (zI .add (zv 14) (zK 1))]
noncomputable def qmw:IR:= .seq (.block 1 (.reg [za 7 (zl (zx 1 (zv 12) (zv 14))),zm 18 5,zm 19 0,zm 20 7,zc 21 85 #[zt 19,zt 20] #[29,3] 3,za 5 (zI .add (zv 18) (zv 21))])) (qmx)
noncomputable def qgo:IR:=zq [za 15 (zI .lss (zv 14) (zv 13))] <| .seq (.cond (zv 15) .skip (.exit 0)) (qmw)
noncomputable def qmv:IR:=zq [zm 4 5] <| .ret
noncomputable def qmy:IR:=zq [za 4 (zK 0),za 5 (zK 1),za 12 (zo 5 (zx 6 (zv 0) (zv 1))),za 13 (zL (zv 12)),za 14 (zK 0)] <| .seq (.block 0 (.loop qgo)) (qmv)
def qyK:List Nat:=zV 22 [2,3,6,8,9,10,11,16,17]
theorem qyJ:C2 85 25 qyK qmy [.tmp 4]:=c2 [] Tryz.func85
noncomputable def qmc:Code:=((Tryz.f99.body).getD .skip)
noncomputable def qmb:IR:= .reg [za 14 (zI .add (zv 14) (zK 1))]
noncomputable def qma:IR:= .seq (.block 1 (zq [zm 16 14,za 18 (zl (zx 1 (zv 12) (zv 14))),zm 5 16,zm 6 18] <| .raw (qL qmc 5))) (qmb)
noncomputable def qgk:IR:=zq [za 15 (zI .lss (zv 14) (zv 13))] <| .seq (.cond (zv 15) .skip (.exit 0)) (qma)
noncomputable def ql9:IR:=zq [za 27 (zM 6 (zv 2)),zw 44 (zt 4) (zt 27)] <| .ret
noncomputable def qme:IR:=zq [zE 2 (.box 44 (zt 0)) 0,zA 4 44,za 8 (zo 5 (zv 2)),zc 9 192 #[zt 8] #[40] 40,za 10 (zf 5 (zv 2)),zw 40 (zt 10) (zt 9),za 12 (zo 5 (zv 2)),za 13 (zL (zv 12)),za 14 (zK 0)] <| .seq (.block 0 (.loop qgk)) (ql9)
def qmd:List Nat:=zV 28 [3,7,11,17,26]
theorem qyB:C2 99 28 qmd qme [.cellN 4 6]:=c2 [5] Tryz.func99
noncomputable def ql8:OT:=zy 19 (zf 5 (zv 2))<|zy 20 (zl (zv 19))<|zy 21 (zv 5)<|zy 22 (zv 1)<|zy 23 (zv 6)<| .step (zE 24 (.call {callee:= .value (zt 22),args:= #[zt 23],argTypes:= #[3]}) 3) true<| .step (za 25 (zx 1 (zv 20) (zv 21))) false<| .step (zw 3 (zt 25) (zt 24)) false<| .done
theorem qyA:vD Tryz.prog 28 qmd 6 (qL qmc 5)=some ql8:=by kernel_rfl
noncomputable def qre:IR:=zq [za 3 (zK 0),za 3 (zI .sub (zv 0) (zl (zv 1)))] <| .ret
def qCg:List Nat:=zV 4 [2]
theorem qCf:C2 105 7 qCg qre [.tmp 3]:=c2 [] Tryz.func105
noncomputable def qnp:IR:= .reg [za 29 (zI .add (zv 29) (zK 1))]
noncomputable def qno:IR:= .seq (.block 1 (.reg [za 32 (zM 6 (zx 6 (zv 27) (zv 29))),zA 10 44,zw 44 (zt 10) (zt 32),zm 33 8,za 34 (zM 6 (zv 10)),zE 35 (.makeFunc (.func 105) #[] #[zt 7]) 140,zc 36 99 #[zt 34,zt 35] #[44,140] 44,zE 37 (.buildSlice 29 1 #[(0,(zt 36))]) 29,zp 38 #[zt 33,zt 37] #[29,29] 29,zm 8 38])) (qnp)
noncomputable def qgx:IR:=zq [za 30 (zI .lss (zv 29) (zv 28))] <| .seq (.cond (zv 30) .skip (.exit 0)) (qno)
noncomputable def qnn:IR:=zq [zm 4 8,za 5 (zK 0)] <| .ret
noncomputable def qnm:IR:=zq [za 18 (zI .add (zv 1) (zK 1)),zm 19 0,zm 20 1,zc 21 85 #[zt 19,zt 20] #[29,3] 3,za 22 (zI .sub (zv 18) (zv 21)),zA 7 3,zw 3 (zt 7) (zt 22),za 8 (.const (.slice none 0 0)),za 27 (.op3 (.slLoHi 6) (zv 0) (zl (zv 7)) (zI .add (zv 1) (zK 1))),za 28 (zL (zv 27)),za 29 (zK 0)] <| .seq (.block 0 (.loop qgx)) (qnn)
noncomputable def qnq:IR:=zq [za 4 (.const (.slice none 0 0)),za 5 (zK 0),zm 11 0,zm 12 1,zc 13 84 #[zt 11,zt 12] #[29,3] 24,zm 6 13,za 15 (zI .neq (zv 6) (zK 0))] <| .seq (.cond (zv 15) (zq [zm 16 6,za 4 (.const (.slice none 0 0)),zm 5 16] <| .ret) .skip) (qnm)
def qzj:List Nat:=zV 39 [2,3,9,14,17,23,24,25,26,31]
theorem qzi:C2 43 41 qzj qnq [.tmp 4, .tmp 5]:=c2 [] Tryz.func43
noncomputable def qrn:IR:=zq [za 2 (zK 0),zm 2 0] <| .ret
def qCq:List Nat:=[0,2]
theorem qCp:C1 100 4 qCq qrn [.tmp 2]:=c1 [] Tryz.func100
noncomputable def qrm:IR:=zq [za 3 (zK 0),za 3 (zI .add (zv 0) (zl (zv 1)))] <| .ret
def qCo:List Nat:=zV 4 [2]
theorem qCn:C2 101 7 qCo qrm [.tmp 3]:=c2 [] Tryz.func101
noncomputable def qrl:IR:=zq [za 5 (zI .add (zI .sub (zv 0) (zl (zv 2))) (zL (zl (zv 3))))] <| .ret
noncomputable def qhJ:IR:=zq [za 5 (zK 0),za 8 (zI .lss (zv 0) (zl (zv 1)))] <| .seq (.cond (zv 8) (zq [zm 5 0] <| .ret) .skip) (qrl)
def qCm:List Nat:=zV 9 [4,6,7]
theorem qCl:C4 102 16 qCm qhJ [.tmp 5]:=c4 [] Tryz.func102
noncomputable def qnG:IR:= .reg [za 38 (zI .add (zv 38) (zK 1))]
noncomputable def qnF:IR:= .seq (.block 1 (.reg [za 41 (zM 6 (zx 6 (zv 36) (zv 38))),zA 13 44,zw 44 (zt 13) (zt 41),zm 42 11,za 43 (zM 6 (zv 13)),zc 44 99 #[zt 43,(.func 100)] #[44,140] 44,zE 45 (.buildSlice 29 1 #[(0,(zt 44))]) 29,zp 46 #[zt 42,zt 45] #[29,29] 29,zm 11 46])) (qnG)
noncomputable def qgA:IR:=zq [za 39 (zI .lss (zv 38) (zv 37))] <| .seq (.cond (zv 39) .skip (.exit 0)) (qnF)
noncomputable def qnz:IR:= .reg [za 50 (zI .add (zv 50) (zK 1))]
noncomputable def qny:IR:= .seq (.block 3 (.reg [za 53 (zM 6 (zx 6 (zv 48) (zv 50))),zA 15 44,zw 44 (zt 15) (zt 53),zm 54 11,za 55 (zM 6 (zv 15)),zE 56 (.makeFunc (.func 101) #[] #[zt 10]) 140,zc 57 99 #[zt 55,zt 56] #[44,140] 44,zE 58 (.buildSlice 29 1 #[(0,(zt 57))]) 29,zp 59 #[zt 54,zt 58] #[29,29] 29,zm 11 59])) (qnz)
noncomputable def qgz:IR:=zq [za 51 (zI .lss (zv 50) (zv 49))] <| .seq (.cond (zv 51) .skip (.exit 2)) (qny)
noncomputable def qnx:IR:= .reg [za 66 (zI .add (zv 66) (zK 1))]
noncomputable def qnw:IR:= .seq (.block 5 (.reg [za 69 (zM 6 (zx 6 (zv 64) (zv 66))),zA 17 44,zw 44 (zt 17) (zt 69),zm 70 11,za 71 (zM 6 (zv 17)),zE 72 (.makeFunc (.func 102) #[] #[zt 10,zt 9,zt 5]) 140,zc 73 99 #[zt 71,zt 72] #[44,140] 44,zE 74 (.buildSlice 29 1 #[(0,(zt 73))]) 29,zp 75 #[zt 70,zt 74] #[29,29] 29,zm 11 75])) (qnx)
noncomputable def qgy:IR:=zq [za 67 (zI .lss (zv 66) (zv 65))] <| .seq (.cond (zv 67) .skip (.exit 4)) (qnw)
noncomputable def qnv:IR:=zq [zm 6 11,za 7 (zK 0)] <| .ret
noncomputable def qnE:IR:=zq [zm 77 11,zc 78 26 #[zt 77] #[29] 24,za 79 (zI .neq (zv 78) (zK 0))] <| .seq (.cond (zv 79) (zq [za 6 (.const (.slice none 0 0)),za 7 (zK 21)] <| .ret) .skip) (qnv)
noncomputable def qnD:IR:=zq [za 64 (.op2 (.slLo 6) (zv 0) (zI .add (zv 1) (zK 1))),za 65 (zL (zv 64)),za 66 (zK 0)] <| .seq (.block 4 (.loop qgy)) (qnE)
noncomputable def qnC:IR:=zq [za 48 (zl (zv 5)),za 49 (zL (zv 48)),za 50 (zK 0)] <| .seq (.block 2 (.loop qgz)) (qnD)
noncomputable def qnB:IR:=zq [zm 27 0,zm 28 1,zc 29 85 #[zt 27,zt 28] #[29,3] 3,zA 9 3,zw 3 (zt 9) (zt 29),za 33 (zI .sub (zI .add (zv 1) (zK 1)) (zl (zv 9))),zA 10 3,zw 3 (zt 10) (zt 33),za 11 (.const (.slice none 0 0)),za 36 (.op3 (.slLoHi 6) (zv 0) (zK 0) (zl (zv 10))),za 37 (zL (zv 36)),za 38 (zK 0)] <| .seq (.block 0 (.loop qgA)) (qnC)
noncomputable def qnA:IR:=zq [za 24 (zl (zv 5)),zc 25 98 #[zt 24] #[29] 4,za 26 (zn (zv 25))] <| .seq (.cond (zv 26) (zq [za 6 (.const (.slice none 0 0)),za 7 (zK 21)] <| .ret) .skip) (qnB)
noncomputable def qnH:IR:=zq [zE 5 (.box 29 (zt 2)) 0,za 6 (.const (.slice none 0 0)),za 7 (zK 0),zm 18 0,zm 19 1,zc 20 84 #[zt 18,zt 19] #[29,3] 24,zm 8 20,za 22 (zI .neq (zv 8) (zK 0))] <| .seq (.cond (zv 22) (zq [zm 23 8,za 6 (.const (.slice none 0 0)),zm 7 23] <| .ret) .skip) (qnA)
def qzn:List Nat:=zV 80 [3,4,12,14,16,21,30,31,32,34,35,40,47,52,60,61,62,63,68,76]
theorem qzm:C3 41 81 qzn qnH [.tmp 6, .tmp 7]:=c3 [] Tryz.func41
@[simp] theorem qDJ:qg Tryz.prog 127=true:=by kernel_rfl
@[simp] theorem qGN:qg Tryz.prog 22=true:=by kernel_rfl
@[simp] theorem qGI:qg Tryz.prog 24=true:=by kernel_rfl
@[simp] theorem qGH:qg Tryz.prog 280=true:=by kernel_rfl
@[simp] theorem qGM:qg Tryz.prog 220=true:=by kernel_rfl
@[simp] theorem qGL:qg Tryz.prog 223=true:=by kernel_rfl
@[simp] theorem qis:qg Tryz.prog 225=true:=by kernel_rfl
@[simp] theorem qGJ:qg Tryz.prog 226=true:=by kernel_rfl
@[simp] theorem qDI:qg Tryz.prog 218=true:=by kernel_rfl
@[simp] theorem qGP:qg Tryz.prog 145=true:=by kernel_rfl
@[simp] theorem qGO:qg Tryz.prog 147=true:=by kernel_rfl
@[simp] theorem qGG:qg Tryz.prog 98=true:=by kernel_rfl
@[simp] theorem qGK:qg Tryz.prog 224=true:=by kernel_rfl
@[simp] theorem qGQ:qg Tryz.prog 144=true:=by kernel_rfl
theorem qab (w:World) (n a b:Int):Calls Tryz.prog 127 #[.int .i64 n, .int .i64 a, .int .i64 b] w fun e w'=>e= .returned (.bool (decide (a≤n)&&decide (n≤b)))∧w'=w:=by
 refine qB2 fun ρ r0 r1 r2=> ?_;by_cases h:a≤n
 ·simp -implicitDefEqProofs [qhC,r0,r1,r2,h]
 ·simp -implicitDefEqProofs [qhC,r0,r1,r2,h]
theorem k8 {n:Nat} (h:n<256):IntKind.i64.wrap (n:Int)=(n:Int):=qr (by omega)
def jf (x:NV):Value:= .agg (qe x).toArray
theorem zP {x:NV} (h:qn x.kv=true):(jf x).cells=(qe x).toArray:=by
 simp [jf,qe,Value.cells,jR h]
section
variable {w:World} {x:NV}
theorem qw0 (h:qn x.kv=true) (g:x.nd.d.kind<256):Calls Tryz.prog 65 #[jf x] w fun e w'=>e= .returned (.bool (qj x.nd.d.kind))∧qb w w':=by
 refine qy7 fun ρ r0=> ?_;simp -implicitDefEqProofs [qm5];refine vz fun X w1 j c a _=> ?_;rw [show qd ρ (.tmp 0)=jf x by simp [r0],zP h] at a;have c0:w1.cell? ⟨X,0,none⟩=some (.int .u8 (x.nd.d.kind:Int)):=by rw [a.cell];rfl
 simp -implicitDefEqProofs [c0,k8 g];refine (qab w1 _ 1 10).mono ?_;rintro _ _ ⟨rfl,rfl⟩;simp -implicitDefEqProofs;refine ⟨?_,c⟩;simp only [qj];congr 1
 ·exact decide_eq_decide.2 (by omega)
 ·exact decide_eq_decide.2 (by omega)
theorem qw1 (g:qn x.kv=true):Calls Tryz.prog 80 #[jf x] w fun e w'=>e= .returned (.bool (qp 20 x.nd.d.kind))∧qb w w':=by
 refine qyP fun ρ r0=> ?_;simp -implicitDefEqProofs [qmK];refine vz fun X w1 h c a _=> ?_;rw [show qd ρ (.tmp 0)=jf x by simp [r0],zP g] at a;have c0:w1.cell? ⟨X,0,none⟩=some (.int .u8 (x.nd.d.kind:Int)):=by rw [a.cell];rfl
 simp -implicitDefEqProofs [c0];refine ⟨?_,c⟩;simp only [qp];exact decide_eq_decide.2 (by omega)
theorem qwX (E:qn x.kv=true) (g:x.nd.d.kind<256):Calls Tryz.prog 222 #[jf x] w fun e w'=>e= .returned (.bool (kR x.nd.d.kind))∧qb w w':=by
 refine qAI fun ρ r0=> ?_;simp -implicitDefEqProofs [qpk];refine vz fun X w1 H c a _=> ?_;rw [show qd ρ (.tmp 0)=jf x by simp [r0],zP E] at a;have c0:w1.cell? ⟨X,0,none⟩=some (.int .u8 (x.nd.d.kind:Int)):=by rw [a.cell];rfl
 simp -implicitDefEqProofs [c0,k8 g];refine (qab w1 _ 21 31).mono ?_;rintro _ _ ⟨rfl,rfl⟩;generalize x.nd.d.kind=k at g⊢;by_cases y:(21:Int)≤(k:Int)<;>by_cases z:(k:Int)≤31<;>by_cases j:(k:Int)=32<;>by_cases h:(k:Int)=34<;>by_cases o:(k:Int)=35<;>by_cases t:(k:Int)=37<;>
  first
  |(exfalso;omega)
  |(simp -implicitDefEqProofs [y,z,j,h,o,t]
    refine ⟨?_,c⟩;unfold kR
    first
    |(simp;omega)
    |(rw [Bool.eq_iff_iff];simp;omega))
theorem qwY {P:Nat} {k:Nat} (h:qn x.kv=true) (g:Blk w P #[.int .u8 (k:Int)] 5):Calls Tryz.prog 279 #[jf x, .pointer (some ⟨P,0,none⟩)] w fun e w'=>e= .returned (.bool (qp k x.nd.d.kind))∧qb w w':=by
 refine qzO fun ρ r0 r1=> ?_;simp -implicitDefEqProofs [qn6];refine vz fun X w1 j c a _=> ?_;rw [show qd ρ (.tmp 0)=jf x by simp [r0],zP h] at a;have c0:w1.cell? ⟨X,0,none⟩=some (.int .u8 (x.nd.d.kind:Int)):=by rw [a.cell];rfl
 have c1:w1.cell? ⟨P,0,none⟩=some (.int .u8 (k:Int)):=by rw [(g.ext c).cell];rfl
 simp -implicitDefEqProofs [c0,c1,r1];refine ⟨?_,c⟩;simp only [qp];exact decide_eq_decide.2 (by omega)
theorem qwK {P:Nat} {m n:Int} (a:Blk w P #[.int .i64 m] 3):Calls Tryz.prog 278 #[.int .i64 n, .pointer (some ⟨P,0,none⟩)] w fun e w'=>e= .returned (.bool (jl m n))∧qb w w':=by
 refine qzQ fun ρ r0 r1=> ?_;have c1:w.cell? ⟨P,0,none⟩=some (.int .i64 m):=by rw [a.cell];rfl
 simp -implicitDefEqProofs [qn7,r0,r1,c1];refine (qab w n 0 m).mono ?_;rintro _ _ ⟨rfl,rfl⟩;simp -implicitDefEqProofs;exact ⟨rfl,qA _⟩
theorem qwS (s:Bs):Calls Tryz.prog 221 #[.string (qc s)] w fun e w'=>e= .returned (.bool (wx.contains s))∧qb w w':=by
 refine qAK fun ρ r0=> ?_;simp -implicitDefEqProofs [qpl];refine jz wY (by decide) rfl (by simp [Value.cells]) fun Z w1 g c a _=> ?_;simp -implicitDefEqProofs [Value.cells,r0] at a⊢;refine (L01.qfi s (qjB (l:=wx) (by simpa [wx,qi,qc] using a) (by decide))).mono ?_;rintro _ _ ⟨rfl,rfl⟩;simp -implicitDefEqProofs;exact c
theorem qxb (v:Value):Calls Tryz.prog 219 #[v] w fun e w'=>e= .returned (.bool true)∧qb w w':=by
 refine qAQ fun ρ r0=> ?_;simp -implicitDefEqProofs [qpr];exact qA _
theorem qwU (g:L01.G w) (s:Bs) (j:s.length<4294967281):Calls Tryz.prog 280 #[.string (qc s)] w fun e w'=>e= .returned (.bool (decide (s=[])||jg s))∧qb w w':=by
 refine qzK fun ρ r0=> ?_;have c:(⟨#[]⟩:ByteArray)=qc []:=rfl;by_cases h:s=[]
 ·subst h;simp -implicitDefEqProofs [qgC,r0,c];exact qA _
 ·simp -implicitDefEqProofs [qgC,r0,c,jp,h];refine (qcZ g s (by omega)).mono ?_;rintro _ w1 ⟨rfl,a⟩;simp -implicitDefEqProofs;exact a
theorem qw9 (J:L01.G w) (E:zW w) (O:qn x.kv=true) (I:x.nd.d.name.length<4294967281) (V:x.nd.d.vr.length<4294967281) (z:x.nd.d.typ.length<4294967281):Calls Tryz.prog 226 #[jf x] w fun e w'=>e= .returned (.bool (qaz x.nd.d))∧qb w w':=by
 refine qAA fun ρ r0=> ?_;have t:(⟨#[]⟩:ByteArray)=qc []:=rfl;simp -implicitDefEqProofs [qpc];refine vz fun X w1 U g k _=> ?_;rw [show qd ρ (.tmp 0)=jf x by simp [r0],zP O] at k;have o:∀W,qb w1 W→W.cell? ⟨X,1,none⟩=some (.string (qc x.nd.d.name))∧W.cell? ⟨X,2,none⟩=some (.string (qc x.nd.d.vr))∧W.cell? ⟨X,3,none⟩=some (.string (qc x.nd.d.typ)):=fun W H=>by
  have:=(k.ext H);refine ⟨by rw [this.cell];rfl,by rw [this.cell];rfl,by rw [this.cell];rfl⟩
 have c:=o w1 (qA _);have j:=J.ext g;unfold qaz;by_cases y:x.nd.d.vr=[]
 ·simp -implicitDefEqProofs [c,t,jp,y];refine (L01.Qo j _).mono ?_;rintro _ w2 ⟨rfl,a⟩;have c2:=o w2 a;cases hn:qh x.nd.d.name with
  |false=>
   simp -implicitDefEqProofs;exact g.trans' a
  |true=>
   simp -implicitDefEqProofs [c2];refine (qwU (j.ext a) _ z).mono ?_;rintro _ w3 ⟨rfl,h⟩;simp -implicitDefEqProofs;exact (g.trans' a).trans' h
 ·simp -implicitDefEqProofs [c,t,jp,y,qpb];refine (qcZ j _ (by omega)).mono ?_;rintro _ w2 ⟨rfl,a⟩;have c2:=o w2 a;cases hn:jg x.nd.d.vr with
  |false=>
   simp -implicitDefEqProofs;exact g.trans' a
  |true=>
   simp -implicitDefEqProofs [c2];refine (qld (j.ext a) ((E.ext g).ext a) _ I).mono ?_;rintro _ w3 ⟨rfl,h⟩;have c3:=o w3 (a.trans' h);cases S:zC x.nd.d.name with
   |false=>
    simp -implicitDefEqProofs;exact (g.trans' a).trans' h
   |true=>
    simp -implicitDefEqProofs [c3,t,jp];exact (g.trans' a).trans' h
end
def qG (F:FuncId) (caps:Array Value):Value:= .func (.func F) #[] caps
def zH (_:World) (v:Value) (f:Bs→Bool):Prop:=(v=qG 77 #[]∧f=qh)∨(v=qG 22 #[]∧f=jg)∨(v=qG 221 #[]∧f=wx.contains)∨(v=qG 219 #[]∧f=xe)
def vB (w:World) (v:Value) (f:Nat→Bool):Prop:=(v=qG 65 #[]∧f=qj)∨(v=qG 80 #[]∧f=qp 20)∨(v=qG 222 #[]∧f=kR)∨∃(P k:Nat),v=qG 279 #[.pointer (some ⟨P,0,none⟩)]∧Blk w P #[.int .u8 (k:Int)] 5∧f=qp k
def xR (w:World) (v:Value) (f:Int→Bool):Prop:=∃(P:Nat) (m:Int),v=qG 278 #[.pointer (some ⟨P,0,none⟩)]∧Blk w P #[.int .i64 m] 3∧f=jl m
section
variable {w w':World} {v:Value} {p:Nat→TypeId→Prop}
theorem zH.at' {f:Bs→Bool} (h:zH w v f):zH w' v f:=h
theorem vB.at' {f:Nat→Bool} (h:vB w v f) (c:qz p w w') (g:∀k,p k 5):vB w' v f:=by
 rcases h with h|h|h|⟨P,k,a,j,o⟩
 ·exact .inl h
 ·exact .inr (.inl h)
 ·exact .inr (.inr (.inl h))
 ·exact .inr (.inr (.inr ⟨P,k,a,j.at' c (g P),o⟩))
theorem xR.at' {f:Int→Bool} (h:xR w v f) (c:qz p w w') (g:∀k,p k 3):xR w' v f:=by
 obtain ⟨P,m,a,o,j⟩:=h;exact ⟨P,m,a,o.at' c (g P),j⟩
theorem zH.fn {f:Bs→Bool} (h:zH w v f) (a:L01.G w):∃F caps,v=qG F caps∧qg Tryz.prog F=true∧∀s:Bs,s.length<4294967281→Calls Tryz.prog F (#[.string (qc s)]++caps) w fun e w'=>e= .returned (.bool (f s))∧qb w w':=by
 rcases h with ⟨rfl,rfl⟩|⟨rfl,rfl⟩|⟨rfl,rfl⟩|⟨rfl,rfl⟩
 ·exact ⟨77, #[],rfl,by kernel_rfl,fun s _=>by simpa using L01.Qo a s⟩
 ·exact ⟨22, #[],rfl,by kernel_rfl,fun s c=>by simpa using qcZ a s (by omega)⟩
 ·exact ⟨221, #[],rfl,by kernel_rfl,fun s c=>by simpa using qwS s⟩
 ·exact ⟨219, #[],rfl,by kernel_rfl,fun s c=>qxb (w:=w) (.string (qc s))⟩
theorem vB.fn {f:Nat→Bool} (h:vB w v f):∃F caps,v=qG F caps∧qg Tryz.prog F=true∧∀W,qb w W→∀x:NV,qn x.kv=true→x.nd.d.kind<256→Calls Tryz.prog F (#[jf x]++caps) W fun e w'=>e= .returned (.bool (f x.nd.d.kind))∧qb W w':=by
 rcases h with ⟨rfl,rfl⟩|⟨rfl,rfl⟩|⟨rfl,rfl⟩|⟨P,k,rfl,g,rfl⟩
 ·exact ⟨65, #[],rfl,by kernel_rfl,fun W _ x a c=>by simpa using qw0 a c⟩
 ·exact ⟨80, #[],rfl,by kernel_rfl,fun W _ x a _=>by simpa using qw1 a⟩
 ·exact ⟨222, #[],rfl,by kernel_rfl,fun W _ x a c=>by simpa using qwX a c⟩
 ·exact ⟨279, #[.pointer (some ⟨P,0,none⟩)],rfl,by kernel_rfl,fun W j x a _=>by simpa using qwY a (g.ext j)⟩
theorem xR.fn {f:Int→Bool} (h:xR w v f):∃F caps,v=qG F caps∧qg Tryz.prog F=true∧∀W,qb w W→∀n:Int,Calls Tryz.prog F (#[.int .i64 n]++caps) W fun e w'=>e= .returned (.bool (f n))∧qb W w':=by
 obtain ⟨P,m,rfl,a,rfl⟩:=h;exact ⟨278, #[.pointer (some ⟨P,0,none⟩)],rfl,by kernel_rfl,fun W c n=>by simpa using qwK (a.ext c)⟩
theorem qlT:vB w (qG 65 #[]) qj:= .inl ⟨rfl,rfl⟩
theorem qgg:vB w (qG 80 #[]) (qp 20):= .inr (.inl ⟨rfl,rfl⟩)
theorem qyk:vB w (qG 222 #[]) kR:= .inr (.inr (.inl ⟨rfl,rfl⟩))
theorem qjO:zH w (qG 77 #[]) qh:= .inl ⟨rfl,rfl⟩
theorem qjN:zH w (qG 22 #[]) jg:= .inr (.inl ⟨rfl,rfl⟩)
theorem quz:zH w (qG 221 #[]) wx.contains:= .inr (.inr (.inl ⟨rfl,rfl⟩))
theorem quA:zH w (qG 219 #[]) xe:= .inr (.inr (.inr ⟨rfl,rfl⟩))
theorem vB.is {f:Nat→Bool} (h:vB w v f):∃F caps,v=qG F caps:=by obtain ⟨F,caps,h,_⟩:=h.fn;exact ⟨F,caps,h⟩
theorem xR.is {f:Int→Bool} (h:xR w v f):∃F caps,v=qG F caps:=by obtain ⟨F,caps,h,_⟩:=h.fn;exact ⟨F,caps,h⟩
theorem zH.is {f:Bs→Bool} (h:zH w v f):∃F caps,v=qG F caps:=by
 rcases h with ⟨rfl,_⟩|⟨rfl,_⟩|⟨rfl,_⟩|⟨rfl,_⟩<;>exact ⟨_,_,rfl⟩
theorem qwZ (k:Nat):Calls Tryz.prog 223 #[.int .u8 (k:Int)] w fun e w'=>∃v,e= .returned v∧vB w' v (qp k)∧qb w w':=by
 refine qAG fun ρ r0=> ?_;simp -implicitDefEqProofs [qpj];refine vz fun X w1 g c a _=> ?_;simp -implicitDefEqProofs [r0,Value.cells] at a⊢;exact ⟨.inr (.inr (.inr ⟨X,k,rfl,a,rfl⟩)),c⟩
theorem qwL (m:Int):Calls Tryz.prog 220 #[.int .i64 m] w fun e w'=>∃v,e= .returned v∧xR w' v (jl m)∧qb w w':=by
 refine qAM fun ρ r0=> ?_;simp -implicitDefEqProofs [qpm];refine vz fun X w1 g c a _=> ?_;simp -implicitDefEqProofs [r0,Value.cells] at a⊢;exact ⟨⟨X,m,rfl,a,rfl⟩,c⟩
end
def vT {α:Type} (R:Value→α→Prop) (v:Value):Option α→Prop
 |none=>v= .nilFunc
 |some f=>R v f
theorem vT.imp {α:Type} {R R':Value→α→Prop} {v:Value} (h:∀f,R v f→R' v f):∀{o:Option α},vT R v o→vT R' v o
 |none,a=>a
 |some _,a=>h _ a
noncomputable def qbK:Code:=((Tryz.f144.body).getD .skip)
noncomputable def qqD:IR:= .ret
noncomputable def qqE:IR:=zq [zA 0 175,za 1 (.const (.func (.func 218) #[] #[])),zE 4 (.build 241 #[(0,(.func 77)),(2,(.func 22))]) 241,zA 2 241,zw 241 (zt 2) (zt 4),za 3 (.const (.func (.func 219) #[] #[]))] <| .seq (.raw (qL qbK 4)) (qqD)
def qd0:List Nat:=zV 113 []
theorem qBP:C0 144 113 qd0 qqE [.cellN 0 38]:=c0 [4] Tryz.func144
def xg (w:World) (v:Value) (l:List (Nat→Bool)):Prop:=(v= .slice none 0 0∧l=[])∨∃B cs,v= .slice (some ⟨B,0,none⟩) l.length l.length∧Blk w B (List.toArray cs) 98∧vt (vB w) cs l
theorem xg.nil {w:World}:xg w (.slice none 0 0) []:= .inl ⟨rfl,rfl⟩
theorem xg.cons {w:World} {v:Value} {l:List (Nat→Bool)} (h:xg w v l) (a:l≠[]):∃B cs,v= .slice (some ⟨B,0,none⟩) l.length l.length∧Blk w B (List.toArray cs) 98∧vt (vB w) cs l:=by
 rcases h with ⟨_,h⟩|h
 ·exact absurd h a
 ·exact h
def zJ:Nat→TypeId→Prop:=fun _ T=>T≠175
theorem xg.at' {w w':World} {v:Value} {l:List (Nat→Bool)} (h:xg w v l) (a:qz zJ w w'):xg w' v l:=by
 rcases h with h|⟨B,cs,c,g,j⟩
 ·exact .inl h
 ·exact .inr ⟨B,cs,c,g.at' a (by simp [zJ]),j.imp fun _ _ h=>h.at' a fun _=>by simp [zJ]⟩
theorem xg.isl {w:World} {v:Value} {l:List (Nat→Bool)} (h:xg w v l) (a:l.length<4611686018427387904:=by decide):qn v=true:=by
 rcases h with ⟨rfl,_⟩|⟨B,cs,rfl,c,g⟩
 ·rfl
 ·simp [qn];try omega
structure RowC (w:World) (nm vr ty nu fi mo:Value) (r:Row):Prop where
 name:vT (zH w) nm r.name
 vr:vT (zH w) vr r.vr
 typ:vT (zH w) ty r.typ
 n:vT (xR w) nu r.n
 first:xg w fi r.first
 more:vT (vB w) mo r.more
theorem RowC.at' {w w':World} {nm vr ty nu fi mo:Value} {r:Row} (h:RowC w nm vr ty nu fi mo r) (a:qz zJ w w'):RowC w' nm vr ty nu fi mo r:=
 ⟨h.name.imp fun _ h=>h,h.vr.imp fun _ h=>h,h.typ.imp fun _ h=>h,h.n.imp fun _ h=>h.at' a fun _=>by simp [zJ],h.first.at' a,h.more.imp fun _ h=>h.at' a fun _=>by simp [zJ]⟩
def qds:Value→Bool| .nilFunc=>true| .func .. =>true|_=>false
theorem wc {v:Value} (h:qds v=true):v.cells= #[v]∧v.oneCell=true:=by cases v<;>first|(cases h;done)|exact ⟨rfl,rfl⟩
theorem vT.fnS {w:World} {v:Value}:∀{o:Option (Bs→Bool)},vT (zH w) v o→qds v=true
 |none,h=>by cases h;rfl
 |some _,h=>by obtain ⟨F,caps,rfl⟩:=zH.is (w:=w) h;rfl
theorem vT.fnN {w:World} {v:Value}:∀{o:Option (Int→Bool)},vT (xR w) v o→qds v=true
 |none,h=>by cases h;rfl
 |some _,h=>by obtain ⟨F,caps,rfl⟩:=xR.is h;rfl
theorem vT.fnK {w:World} {v:Value}:∀{o:Option (Nat→Bool)},vT (vB w) v o→qds v=true
 |none,h=>by cases h;rfl
 |some _,h=>by obtain ⟨F,caps,rfl⟩:=vB.is h;rfl
theorem xg.one {w:World} {v:Value} {l:List (Nat→Bool)} (h:xg w v l):v.cells= #[v]∧v.oneCell=true:=by
 rcases h with ⟨rfl,_⟩|⟨B,cs,rfl,_⟩<;>exact ⟨rfl,rfl⟩
def vw (nm vr ty nu fi mo:Value) (r:Row):Array Value:= #[nm,vr,ty,nu,fi,mo, .int .i64 (r.least:Int), .int .i64 (r.most:Int)]
theorem RowC.cells {w:World} {nm vr ty nu fi mo:Value} {r:Row} (h:RowC w nm vr ty nu fi mo r):(Value.agg (vw nm vr ty nu fi mo r)).cells=vw nm vr ty nu fi mo r:=by
 have a:=(wc h.name.fnS).1;have o:=(wc h.vr.fnS).1;have g:=(wc h.typ.fnS).1;have c:=(wc h.n.fnN).1;have j:=h.first.one.1;have k:=(wc h.more.fnK).1;simp [Value.cells,vw,a,o,g,c,j,k]
def qaD (w:World) (v:Value) (r:Row):Prop:=∃nm vr ty nu fi mo,v= .agg (vw nm vr ty nu fi mo r)∧RowC w nm vr ty nu fi mo r
def kD (w:World) (v:Value) (r:Row):Prop:=∃X nm vr ty nu fi mo,v= .pointer (some ⟨X,0,none⟩)∧Blk w X (vw nm vr ty nu fi mo r) 241∧RowC w nm vr ty nu fi mo r
theorem qaD.at' {w w':World} {v:Value} {r:Row} (h:qaD w v r) (c:qz zJ w w'):qaD w' v r:=by
 obtain ⟨nm,vr,ty,nu,fi,mo,a,g⟩:=h;exact ⟨nm,vr,ty,nu,fi,mo,a,g.at' c⟩
theorem kD.at' {w w':World} {v:Value} {r:Row} (h:kD w v r) (a:qz zJ w w'):kD w' v r:=by
 obtain ⟨X,nm,vr,ty,nu,fi,mo,c,j,g⟩:=h;exact ⟨X,nm,vr,ty,nu,fi,mo,c,j.at' a (by simp [zJ]),g.at' a⟩
theorem kD.ptr {w:World} {v:Value} {r:Row} (h:kD w v r):∃X,v= .pointer (some ⟨X,0,none⟩)∧kD w (.pointer (some ⟨X,0,none⟩)) r:=by
 obtain ⟨X,nm,vr,ty,nu,fi,mo,rfl,c,a⟩:=h;exact ⟨X,rfl,X,nm,vr,ty,nu,fi,mo,rfl,c,a⟩
def Qf (w:World) (v:Value):Option Row→Prop
 |none=>v= .pointer none
 |some r=>kD w v r
theorem Qf.at' {w w':World} {v:Value} (a:qz zJ w w'):∀{r:Option Row},Qf w v r→Qf w' v r
 |none,h=>h
 |some _,h=>kD.at' h a
def wP (w:World) (cs:List Value):Prop:=cs.length=38∧∀k,k<38→Qf w (cs.getD k undef) (vY k)
theorem wP.at' {w w':World} {cs:List Value} (h:wP w cs) (a:qz zJ w w'):wP w' cs:=⟨h.1,fun k c=>Qf.at' a (h.2 k c)⟩
theorem quq:xo Tryz.prog 239=some (98,1):=by kernel_rfl
theorem qt3:jG Tryz.prog 239 1=true:=by kernel_rfl
theorem qw4 {w:World} {nm vr ty nu fi mo kv:Value} {r:Row} {l:List (Nat→Bool)} (h:RowC w nm vr ty nu fi mo r) (g:xg w kv l) (hb:l.length<4611686018427387904:=by decide):
  Calls Tryz.prog 218 #[.agg (vw nm vr ty nu fi mo r),kv] w fun e w'=>∃v,e= .returned v∧kD w' v (qf r l)∧qb w w':=by
 have t:qk kv=l.length:=by
  rcases g with ⟨rfl,rfl⟩|⟨B,cs,rfl,_⟩<;>rfl
 have o:=g.isl hb;refine qAS fun ρ r0 r1=> ?_;simp -implicitDefEqProofs [qps];refine vz fun X w1 Y U j _=> ?_;rw [show qd ρ (.tmp 0)=_ from r0,h.cells] at j;simp -implicitDefEqProofs [r0,r1,o,t];refine qP (B:=X) (i:=4) (by simp) j (by simp [vw]) (by simpa [r1] using g.one.1) (by simpa [r1] using g.one.2) qt3 fun w2 Z H=> ?_;have k:Blk w2 X #[nm,vr,ty,nu,kv,mo, .int .i64 (r.least:Int), .int .i64 (r.most:Int)] 241:=by simpa [vw,r1] using H
 simp -implicitDefEqProofs;refine qP (B:=X) (i:=6) (by simp) k (by simp) (by simp [Value.cells]) (by simp) vX fun w3 V J=> ?_;have c:Blk w3 X #[nm,vr,ty,nu,kv,mo, .int .i64 (l.length:Int), .int .i64 (r.most:Int)] 241:=by simpa using J
 simp -implicitDefEqProofs;refine qP (B:=X) (i:=7) (by simp) c (by simp) (by simp [Value.cells]) (by simp) vX fun O I S=> ?_;have z:Blk O X (vw nm vr ty nu kv mo (qf r l)) 241:=by simpa [vw,qf] using S
 have E:qb w O:=I.ext (V.ext (Z.ext U Y) Y) Y;simp -implicitDefEqProofs;have y:qz zJ w O:=qz.ext E;have a:=h.at' y;exact ⟨⟨X,nm,vr,ty,nu,kv,mo,rfl,z,⟨a.name,a.vr,a.typ,a.n,g.at' y,a.more⟩⟩,E⟩
inductive SC where
 |nm|ty|op|an
def SC.f:SC→Bs→Bool| .nm=>qh| .ty=>jg| .op=>wx.contains| .an=>xe
inductive KC where
 |ex|bl|st|is (k:Nat)
def KC.f:KC→Nat→Bool| .ex=>qj| .bl=>qp 20| .st=>kR| .is k=>qp k
structure RC where
 name:Option SC:=none
 vr:Option SC:=none
 typ:Option SC:=none
 n:Option Int:=none
 first:List KC:=[]
 more:Option KC:=none
 least:Nat:=0
 most:Nat:=0
def RC.r (c:RC):Row:=⟨c.name.map SC.f,c.vr.map SC.f,c.typ.map SC.f,c.n.map jl,c.first.map KC.f,c.more.map KC.f,c.least,c.most⟩
def qhN (c:RC) (l:List KC):RC:={c with first:=l,least:=l.length,most:=l.length}
theorem qCK (c:RC) (l:List KC):(qhN c l).r=qf c.r (l.map KC.f):=by simp [qhN,RC.r,qf]
def tyC:RC:={name:=some .nm,typ:=some .ty}
inductive AC where
 |fx|an|num (m:Int)|knd (k:KC)|kids (l:List KC)|rowA (r:RC)|rowP (r:RC)|arr (l:List (Option RC))
def qiH (w:World) (cs:List Value) (l:List (Option RC)):Prop:=cs.length=38∧l.length=38∧∀k,k<38→Qf w (cs.getD k undef) ((l.getD k none).map RC.r)
def AC.holds (w:World) (v:Value):AC→Prop
 | .fx=>v=qG 218 #[]
 | .an=>v=qG 219 #[]
 | .num m=>xR w v (jl m)
 | .knd k=>vB w v k.f
 | .kids l=>xg w v (l.map KC.f)∧l.length<9
 | .rowA r=>qaD w v r.r
 | .rowP r=>kD w v r.r
 | .arr l=>∃cs:List Value,v= .agg cs.toArray∧qiH w cs l
theorem AC.at' {w w':World} {v:Value} (c:qz zJ w w'):∀{a:AC},a.holds w v→a.holds w' v
 | .fx,h=>h
 | .an,h=>h
 | .num _,h=>xR.at' h c fun _=>by simp [zJ]
 | .knd _,h=>vB.at' h c fun _=>by simp [zJ]
 | .kids _,h=>⟨xg.at' h.1 c,h.2⟩
 | .rowA _,h=>qaD.at' h c
 | .rowP _,h=>kD.at' h c
 | .arr _,⟨cs,j,g⟩=>⟨cs,j,g.1,g.2.1,fun k o=>Qf.at' c (g.2.2 k o)⟩
def wT (fs:List AC) (ds:List Nat) (t:Nat):Option AC:=bif ds.contains (t - 5)&&Nat.ble 5 t then fs[t - 5]? else none
def kOp (fs:List AC) (ds:List Nat):Operand→Option KC
 | .func 65=>some .ex
 | .func 80=>some .bl
 | .func 222=>some .st
 | .tmp t=>match wT fs ds t with|some (.knd k)=>some k|_=>none
 |_=>none
def sOp (fs:List AC) (ds:List Nat):Operand→Option SC
 | .func 77=>some .nm
 | .func 22=>some .ty
 | .func 221=>some .op
 | .tmp t=>match wT fs ds t with|some .an=>some .an|_=>none
 |_=>none
def nOp (fs:List AC) (ds:List Nat):Operand→Option Int
 | .tmp t=>match wT fs ds t with|some (.num m)=>some m|_=>none
 |_=>none
def lOp (fs:List AC) (ds:List Nat):Operand→Option (List KC)
 | .const (.slice none 0 0)=>some []
 | .tmp t=>match wT fs ds t with|some (.kids l)=>some l|_=>none
 |_=>none
def iOp:Operand→Option Nat
 | .const (.int .i64 (.ofNat n))=>some n
 |_=>none
def pOp (fs:List AC) (ds:List Nat):Operand→Option RC
 | .tmp t=>match wT fs ds t with|some (.rowP r)=>some r|_=>none
 |_=>none
def aOp (fs:List AC) (ds:List Nat):Operand→Option RC
 | .tmp t=>match wT fs ds t with|some (.rowA r)=>some r|_=>none
 |_=>none
def qjP (fs:List AC) (ds:List Nat) (c:RC) (o:Operand):Nat→Option RC
 |0=>(sOp fs ds o).map fun s=>{c with name:=some s}
 |1=>(sOp fs ds o).map fun s=>{c with vr:=some s}
 |2=>(sOp fs ds o).map fun s=>{c with typ:=some s}
 |3=>(nOp fs ds o).map fun s=>{c with n:=some s}
 |4=>(lOp fs ds o).map fun s=>{c with first:=s}
 |5=>(kOp fs ds o).map fun s=>{c with more:=some s}
 |6=>(iOp o).map fun s=>{c with least:=s}
 |7=>(iOp o).map fun s=>{c with most:=s}
 |_=>none
def qfv (fs:List AC) (ds:List Nat):List (Nat×Operand)→RC→Option RC
 |[],c=>some c
 |p::ps,c=>(qjP fs ds c p.2 p.1).bind (qfv fs ds ps)
def qey (fs:List AC) (ds:List Nat):List (Nat×Operand)→List (Option RC)→Option (List (Option RC))
 |[],l=>some l
 |p::ps,l=>bif Nat.blt p.1 38 then (pOp fs ds p.2).bind fun r=>qey fs ds ps (l.set p.1 (some r)) else none
def qdl (fs:List AC) (ds:List Nat):Nat→List (Nat×Operand)→Option (List KC)
 |_,[]=>some []
 |i,p::ps=>bif Nat.beq p.1 i then (kOp fs ds p.2).bind fun k=>(qdl fs ds (i+1) ps).map (k:: ·) else none
def qeU (fs:List AC) (ds:List Nat):St→Option AC
 | .asg none _ (.var 1)=>some .fx
 | .asg none _ (.var 3)=>some .an
 | .asg none _ (.op1 (.loadN 8) (.var 2))=>some (.rowA tyC)
 | .eff none (some _) (.call ⟨.value (.func 220),⟨[.const (.int .i64 n)]⟩,_⟩) _=>some (.num n)
 | .eff none (some _) (.call ⟨.value (.func 223),⟨[.const (.int .u8 (.ofNat k))]⟩,_⟩) _=>some (.knd (.is k))
 | .eff none (some _) (.build 241 ps) _=>(qfv fs ds ps.toList {}).map .rowA
 | .eff none (some _) (.call ⟨.value (.tmp f),⟨[a,o]⟩,_⟩) _=>match wT fs ds f with
  |some .fx=>(aOp fs ds a).bind fun r=>(lOp fs ds o).map fun l=> .rowP (qhN r l)
  |_=>none
 | .eff none (some _) (.box 241 a) _=>(aOp fs ds a).map .rowP
 | .eff none (some _) (.buildSlice 239 n ps) _=>(qdl fs ds 0 ps.toList).bind fun l=>bif Nat.beq n l.length&&Nat.blt n 9 then some (.kids l) else none
 | .eff none (some _) (.build 175 ps) _=>(qey fs ds ps.toList (List.replicate 38 none)).map .arr
 |_=>none
def qr8:St→Option Nat
 | .asg _ d _=>some d
 | .eff _ d _ _=>d
def yh:List (Option St)→List (List Nat)→List AC→Option (List AC)
 |some s::ss,d::ds,fs=>match qr8 s with
  |some t=>bif Nat.beq t (fs.length+5) then (qeU fs d s).bind fun F=>yh ss ds (fs++[F]) else none
  |none=>none
 |[],_,fs=>some fs
 |_,_,_=>none
theorem qrS:∀(ss:List (Option St)) (ds:List (List Nat)) (fs r:List AC),yh ss ds fs=some r→(∃q,r=fs++q)∧r.length=fs.length+ss.length∧
  ∀i s d,ss[i]? =some (some s)→ds[i]? =some d→∃p q F,r=p++F::q∧p.length=fs.length+i∧qeU p d s=some F∧qr8 s=some (p.length+5)
 |[],_,fs,r,h=>by
  simp only [yh,Option.some.injEq] at h;subst h;exact ⟨⟨[],by simp⟩,by simp,fun i s d h=>by simp at h⟩
 |none::_,ds,fs,r,h=>by cases ds<;>simp [yh] at h
 |some s::_,[],fs,r,h=>by simp [yh] at h
 |some s::ss,d::ds,fs,r,h=>by
  unfold yh at h;split at h
  ·rename_i t k;cases a:Nat.beq t (fs.length+5) with
   |false=>rw [a] at h;cases h
   |true=>
    rw [a] at h;obtain ⟨F,O,h⟩:=Option.bind_eq_some_iff.1 h;obtain ⟨⟨q,c⟩,H,z⟩:=qrS ss ds _ r h;have:=Nat.eq_of_beq_eq_true a;subst this;refine ⟨⟨F::q,by simp [c]⟩,by simp at H⊢;omega,fun i o I j g=> ?_⟩;cases i with
    |zero=>
     cases j;cases g;exact ⟨fs,q,F,by simp [c],rfl,O,k⟩
    |succ i=>
     obtain ⟨p,q',F',E,J,y⟩:=z i o I j g;exact ⟨p,q',F',E,by simp at J;omega,y⟩
  ·cases h
noncomputable def yw:List (Option St):=(qaR Tryz.prog 113 qd0 (qL qbK 4)).getD []
noncomputable def qav:List (List Nat):=qij (qL qbK 4)
noncomputable def y6:List AC:=(yh (yw.take 108) qav []).getD []
theorem qCP:yh (yw.take 108) qav []=some y6:=by
 have h:(yh (yw.take 108) qav []).isSome=true:=by kernel_rfl
 obtain ⟨r,a⟩:=Option.isSome_iff_exists.1 h;unfold y6;rw [a];rfl
theorem qrQ:y6.length=108:=by kernel_rfl
def qEk:Option AC→List (Option RC)|some (.arr l)=>l|_=>[]
noncomputable def qeV:List (Option RC):=qEk y6[107]?
theorem qCQ:y6[107]? =some (.arr qeV):=by kernel_rfl
theorem qtL:(List.range 38).map (fun k=>(qeV.getD k none).map RC.r)=(List.range 38).map vY:=by kernel_rfl
theorem qtM {k:Nat} (a:k<38):(qeV.getD k none).map RC.r=vY k:=by
 have h:=congrArg (fun l=>l[k]?) qtL;simpa [a] using h
structure J144 (w0:World) (A T:Nat) (L:Nat→Bool) (ρ:qa) (w:World):Prop where
 ext:qb w0 w
 r0:ρ 0= .pointer (some ⟨A,0,none⟩)
 r1:ρ 1=qG 218 #[]
 r2:ρ 2= .pointer (some ⟨T,0,none⟩)
 r3:ρ 3=qG 219 #[]
 A0:w0.heap.size≤A
 bA:L 108=false→Blk w A (Array.replicate 38 (.pointer none)) 175
 fin:L 108=true→∃cs:List Value,Blk w A cs.toArray 175∧wP w cs
 ty:kD w (.pointer (some ⟨T,0,none⟩)) tyC.r
 facts:∀(k:Nat) (F:AC),y6[k]? =some F→L k=true→F.holds w (ρ (k+5))
def yC (i:Nat) (L:Nat→Bool):Nat→Bool:=fun k=>if k=i then true else L k
theorem J144.put {w0:World} {A T:Nat} {L:Nat→Bool} {ρ:qa} {w w':World} {v:Value} (h:J144 w0 A T L ρ w) (i:Nat) (F:AC) (t:y6[i]? =some F) (j:qb w w') (E:F.holds w' v):J144 w0 A T (yC i L) (qt ρ (i+5) v) w':=by
 have H:i<108:=by
  have:=(List.getElem?_eq_some_iff.1 t).1
  rwa [qrQ] at this
 have ne:∀k,k<5→qt ρ (i+5) v k=ρ k:=fun k g=>by simp [qt];omega
 have a:yC i L 108=L 108:=by unfold yC;rw [if_neg (by omega)]
 have o:qz zJ w w':=qz.ext j;refine ⟨h.ext.trans' j,by rw [ne 0 (by omega)];exact h.r0,by rw [ne 1 (by omega)];exact h.r1,by rw [ne 2 (by omega)];exact h.r2,by rw [ne 3 (by omega)];exact h.r3,h.A0,fun e=>(h.bA (a▸e)).ext j,fun e=> ?_,h.ty.at' o,fun k F' c hL=> ?_⟩
 ·obtain ⟨cs,y,z⟩:=h.fin (a▸e);exact ⟨cs,y.ext j,z.at' o⟩
 ·by_cases g:k=i
  ·subst g;rw [t] at c;cases c;simpa [qt] using E
  ·have e:qt ρ (i+5) v (k+5)=ρ (k+5):=by simp [qt,g]
   rw [e];exact AC.at' o (h.facts k F' c (by simpa [yC,g] using hL))
section
variable {w0:World} {A T:Nat} {L:Nat→Bool} {ρ:qa} {w:World} {Q:Ks} {K:qa→World→Prop} {p:List AC} {ds:List Nat}
def wN (p:List AC) (ds:List Nat) (ρ:qa) (w:World):Prop:=∀t a,wT p ds t=some a→a.holds w (ρ t)
theorem qlU (a:wN p ds ρ w) {o:Operand} {k:KC} (h:kOp p ds o=some k):vB w (qd ρ o) k.f:=by
 unfold kOp at h;split at h<;>first|(cases h;done)|(cases h;first|exact qlT|exact qgg|exact qyk)|skip
 rename_i t;split at h
 ·rename_i g c;cases h;exact a t _ c
 ·cases h
theorem qfj (a:wN p ds ρ w) {o:Operand} {k:SC} (h:sOp p ds o=some k):zH w (qd ρ o) k.f:=by
 unfold sOp at h;split at h<;>first|(cases h;done)|(cases h;first|exact qjO|exact qjN|exact quz)|skip
 rename_i t;split at h
 ·rename_i c;cases h;have e:ρ t=qG 219 #[]:=a t _ c;show zH w (ρ t) xe;rw [e];exact quA
 ·cases h
theorem qxU (a:wN p ds ρ w) {o:Operand} {m:Int} (h:nOp p ds o=some m):xR w (qd ρ o) (jl m):=by
 unfold nOp at h;split at h
 ·rename_i t;split at h
  ·rename_i c;cases h;exact a t _ c
  ·cases h
 ·cases h
theorem qlJ (a:wN p ds ρ w) {o:Operand} {l:List KC} (h:lOp p ds o=some l):xg w (qd ρ o) (l.map KC.f)∧l.length<9:=by
 unfold lOp at h;split at h
 ·cases h;exact ⟨.nil,by decide⟩
 ·rename_i t;split at h
  ·rename_i c;cases h;exact a t _ c
  ·cases h
 ·cases h
theorem qxi (a:wN p ds ρ w) {o:Operand} {r:RC} (h:pOp p ds o=some r):kD w (qd ρ o) r.r:=by
 unfold pOp at h;split at h
 ·rename_i t;split at h
  ·rename_i c;cases h;exact a t _ c
  ·cases h
 ·cases h
theorem qsY (a:wN p ds ρ w) {o:Operand} {r:RC} (h:aOp p ds o=some r):qaD w (qd ρ o) r.r:=by
 unfold aOp at h;split at h
 ·rename_i t;split at h
  ·rename_i c;cases h;exact a t _ c
  ·cases h
 ·cases h
theorem qrt {o:Operand} {n:Nat} (h:iOp o=some n):qd ρ o= .int .i64 (n:Int):=by
 unfold iOp at h;split at h
 ·cases h;rfl
 ·cases h
theorem qrO {pl:Nat→Option (Nat×Nat)} {cs:List Value} {i:Nat} {v:Value} {rest:List (Nat×Value)} (a:pl i=some (i,1)) (c:v.cells= #[v]) (g:i<cs.length):
  Instr.fill pl cs.toArray ((i,v)::rest)=Instr.fill pl (cs.set i v).toArray rest:=by
 rw [Instr.fill,a];simp [c,show¬cs.length<i+1 by omega]
theorem qkj (O:wN p ds ρ w) {pl:Nat→Option (Nat×Nat)} (hp:∀i,i<8→pl i=some (i,1)):∀(ps:List (Nat×Operand)) (c r:RC),qfv p ds ps c=some r→∀{nm vr ty nu fi mo:Value},RowC w nm vr ty nu fi mo c.r→
  ∃z E J y I H,Instr.fill pl (vw nm vr ty nu fi mo c.r) (ps.map fun q=>(q.1,qd ρ q.2))=some (vw z E J y I H r.r)∧RowC w z E J y I H r.r
 |[],c,r,h,nm,vr,ty,nu,fi,mo,j=>by
  cases h;exact ⟨nm,vr,ty,nu,fi,mo,rfl,j⟩
 |q::ps,c,r,h,nm,vr,ty,nu,fi,mo,j=>by
  obtain ⟨c1,t,h2⟩:=Option.bind_eq_some_iff.1 h;obtain ⟨i,o⟩:=q;have go:∀{V Z ty1 Y U S:Value},i<8→(qd ρ o).cells= #[qd ρ o]→RowC w V Z ty1 Y U S c1.r→(vw nm vr ty nu fi mo c.r).toList.set i (qd ρ o)=(vw V Z ty1 Y U S c1.r).toList→
    ∃z E J y I H,Instr.fill pl (vw nm vr ty nu fi mo c.r) (((i,o)::ps).map fun q=>(q.1,qd ρ q.2))=some (vw z E J y I H r.r)∧RowC w z E J y I H r.r:=fun hi hv aa he=>by
   obtain ⟨a,b,d,e,f,g,h3,h4⟩:=qkj O hp ps c1 r h2 aa;refine ⟨a,b,d,e,f,g, ?_,h4⟩;rw [←h3,List.map_cons];rw [show vw nm vr ty nu fi mo c.r=(vw nm vr ty nu fi mo c.r).toList.toArray from rfl,qrO (hp i hi) hv (by simpa [vw] using hi),he]
  have one:∀{m:Nat},(Value.int .i64 (m:Int)).cells= #[.int .i64 (m:Int)]:=by simp [Value.cells]
  dsimp only at t;unfold qjP at t;split at t
  ·obtain ⟨s,k,rfl⟩:=Option.map_eq_some_iff.1 t;have h:=qfj O k;exact go (by decide) (wc (vT.fnS (w:=w) (o:=some s.f) h)).1 ⟨h,j.vr,j.typ,j.n,j.first,j.more⟩ rfl
  ·obtain ⟨s,k,rfl⟩:=Option.map_eq_some_iff.1 t;have h:=qfj O k;exact go (by decide) (wc (vT.fnS (w:=w) (o:=some s.f) h)).1 ⟨j.name,h,j.typ,j.n,j.first,j.more⟩ rfl
  ·obtain ⟨s,k,rfl⟩:=Option.map_eq_some_iff.1 t;have h:=qfj O k;exact go (by decide) (wc (vT.fnS (w:=w) (o:=some s.f) h)).1 ⟨j.name,j.vr,h,j.n,j.first,j.more⟩ rfl
  ·obtain ⟨s,k,rfl⟩:=Option.map_eq_some_iff.1 t;have h:=qxU O k;exact go (by decide) (wc (vT.fnN (w:=w) (o:=some (jl s)) h)).1 ⟨j.name,j.vr,j.typ,h,j.first,j.more⟩ rfl
  ·obtain ⟨s,k,rfl⟩:=Option.map_eq_some_iff.1 t;have h:=(qlJ O k).1;exact go (by decide) h.one.1 ⟨j.name,j.vr,j.typ,j.n,h,j.more⟩ rfl
  ·obtain ⟨s,k,rfl⟩:=Option.map_eq_some_iff.1 t;have h:=qlU O k;exact go (by decide) (wc (vT.fnK (w:=w) (o:=some s.f) h)).1 ⟨j.name,j.vr,j.typ,j.n,j.first,h⟩ rfl
  ·obtain ⟨s,k,rfl⟩:=Option.map_eq_some_iff.1 t;have e:=qrt (ρ:=ρ) k;exact go (by decide) (e▸one) ⟨j.name,j.vr,j.typ,j.n,j.first,j.more⟩ (by rw [e];rfl)
  ·obtain ⟨s,k,rfl⟩:=Option.map_eq_some_iff.1 t;have e:=qrt (ρ:=ρ) k;exact go (by decide) (e▸one) ⟨j.name,j.vr,j.typ,j.n,j.first,j.more⟩ (by rw [e];rfl)
  ·cases t
theorem qsR (z:wN p ds ρ w) {pl:Nat→Option (Nat×Nat)} (E:∀i,i<38→pl i=some (i,1)):∀(ps:List (Nat×Operand)) (l r:List (Option RC)),qey p ds ps l=some r→∀{cs:List Value},qiH w cs l→
  ∃cs',Instr.fill pl cs.toArray (ps.map fun q=>(q.1,qd ρ q.2))=some cs'.toArray∧qiH w cs' r
 |[],l,r,h,cs,a=>by
  cases h;exact ⟨cs,rfl,a⟩
 |q::ps,l,r,h,cs,a=>by
  obtain ⟨i,o⟩:=q;unfold qey at h;cases t:Nat.blt i 38 with
  |false=>rw [show Nat.blt (i,o).1 38=false from t] at h;cases h
  |true=>
   rw [show Nat.blt (i,o).1 38=true from t] at h;have j:i<38:=Nat.le_of_ble_eq_true t;obtain ⟨c,O,S⟩:=Option.bind_eq_some_iff.1 h;have y:=qxi z O;obtain ⟨cs',I,H⟩:=qsR z E ps _ r S (cs:=cs.set i (qd ρ o)) ⟨by simp [a.1],by simp [a.2.1],fun k J=>by
    simp only [List.getD_eq_getElem?_getD,List.getElem?_set];by_cases e:i=k
    ·subst e;have g:Qf w (qd ρ (i,o).2) (some c.r):=y;simpa [a.1,a.2.1,j] using g
    ·simpa [e] using a.2.2 k J⟩
   refine ⟨cs', ?_,H⟩;rw [←I,List.map_cons,qrO (E i j) ?_ (by rw [a.1];exact j)];obtain ⟨X,_,_,_,_,_,_,e,_⟩:=y;rw [show qd ρ (i,o).2=_ from e];rfl
theorem qlS (g:wN p ds ρ w):∀(ps:List (Nat×Operand)) (i:Nat) (l:List KC),qdl p ds i ps=some l→ps.map (·.1)=List.range' i l.length∧(∀q∈ps,(qd ρ q.2).cells= #[qd ρ q.2])∧vt (vB w) (ps.map fun q=>qd ρ q.2) (l.map KC.f)
 |[],i,l,h=>by
  cases h;exact ⟨rfl,by simp,trivial⟩
 |q::ps,i,l,h=>by
  unfold qdl at h;cases a:Nat.beq q.1 i with
  |false=>rw [a] at h;cases h
  |true=>
   rw [a] at h;obtain ⟨k,I,J⟩:=Option.bind_eq_some_iff.1 h;obtain ⟨y,z,rfl⟩:=Option.map_eq_some_iff.1 J;obtain ⟨t,E,H⟩:=qlS g ps _ y z;have j:=qlU g I;have e:=Nat.eq_of_beq_eq_true a;refine ⟨by simp [t,e,List.range'_succ],fun x c=> ?_,j,H⟩;rcases List.mem_cons.1 c with rfl|c
   ·exact (wc (vT.fnK (w:=w) (o:=some k.f) j)).1
   ·exact E x c
theorem qiJ:vL Tryz.prog 175=some (Array.replicate 38 (.pointer none)):=by kernel_rfl
theorem qCJ {ps:List (Nat×Operand)} (h:∀q∈ps,(qd ρ q.2).cells= #[qd ρ q.2]):(ps.flatMap fun q=>(qd ρ q.2).cells.toList)=ps.map fun q=>qd ρ q.2:=by
 induction ps with
 |nil=>rfl
 |cons q ps a=>
  rw [List.flatMap_cons,List.map_cons,h q (by simp),a fun x c=>h x (by simp [c])];rfl
def qcW:Nat→Option (Nat×Nat):=fun i=>(#[(0,1),(1,1),(2,1),(3,1),(4,1),(5,1),(6,1),(7,1)]:Array (Nat×Nat))[i]?
theorem qDV (l:List (Nat×Value)):Tryz.prog.built 241 l=Instr.fill qcW #[.nilFunc, .nilFunc, .nilFunc, .nilFunc, .slice none 0 0, .nilFunc, .int .i64 0, .int .i64 0] l:=by kernel_rfl
theorem qDW (l:List (Nat×Value)):Tryz.prog.built 175 l=Instr.fill (fun i=>some (i*1,1)) (Array.replicate 38 (.pointer none)) l:=by kernel_rfl
theorem qug (i:Nat) (s:St) (hs:(yw.take 108)[i]? =some (some s)) (hd:qav[i]? =some ds) (hL:∀d∈ds,L d=true) (I:J144 w0 A T L ρ w):s.wp Tryz.prog Q (J144 w0 A T (yC i L)) ρ w:=by
 obtain ⟨p,q,F,h1,h2,c,j⟩:=(qrS _ _ _ _ qCP).2.2 i s ds hs hd;simp only [List.length_nil,Nat.zero_add] at h2;rw [h2] at j;have hF:y6[i]? =some F:=by rw [h1,←h2];simp
 have H:wN p ds ρ w:=fun t a O=>by
  unfold wT at O;cases g:ds.contains (t - 5)&&Nat.ble 5 t with
  |false=>rw [g] at O;cases O
  |true=>
   rw [g] at O;simp only [Bool.and_eq_true,List.contains_iff_mem] at g;have:=Nat.le_of_ble_eq_true g.2;have h:=I.facts (t - 5) a (by
    have Y:=(List.getElem?_eq_some_iff.1 O).1;rw [h1,List.getElem?_append_left Y];exact O) (hL _ g.1)
   rwa [Nat.sub_add_cancel this] at h
 have put:=fun {w':World} {v:Value}=>I.put (w':=w') (v:=v) i F hF;unfold qeU at c;split at c
 ·cases c;cases j;simp -implicitDefEqProofs [St.wp,I.r1];exact put (qA _) rfl
 ·cases c;cases j;simp -implicitDefEqProofs [St.wp,I.r3];exact put (qA _) rfl
 ·cases c;cases j;obtain ⟨X,nm,vr,ty,nu,fi,mo,e,y,g⟩:=I.ty;cases e;have z:=xr y;simp [vw] at z;simp -implicitDefEqProofs [St.wp,I.r2,z];exact put (qA _) ⟨nm,vr,ty,nu,fi,mo,rfl,g⟩
 ·cases c;cases j;simp -implicitDefEqProofs [St.wp];refine (qwL _).mono ?_;rintro _ w1 ⟨v,rfl,J,o⟩;exact put o J
 ·cases c;cases j;simp -implicitDefEqProofs [St.wp];refine (qwZ _).mono ?_;rintro _ w1 ⟨v,rfl,J,o⟩;exact put o J
 ·obtain ⟨r,E,rfl⟩:=Option.map_eq_some_iff.1 c;cases j;obtain ⟨nm,vr,ty,nu,fi,mo,e,g⟩:=qkj H (pl:=qcW) (fun i hi=>by unfold qcW;match i,hi with|0,_=>rfl|1,_=>rfl|2,_=>rfl|3,_=>rfl|4,_=>rfl|5,_=>rfl|6,_=>rfl|7,_=>rfl|n+8,h=>exact absurd h (by omega)) _ {} r E (nm:= .nilFunc) (vr:= .nilFunc) (ty:= .nilFunc) (nu:= .nilFunc) (fi:= .slice none 0 0) (mo:= .nilFunc) ⟨rfl,rfl,rfl,rfl, .nil,rfl⟩;simp -implicitDefEqProofs only [St.wp,gd,if_true];rw [qr4,qDV,Array.toList_map];have e':Instr.fill qcW #[.nilFunc, .nilFunc, .nilFunc, .nilFunc, .slice none 0 0, .nilFunc, .int .i64 0, .int .i64 0] _=_:=e;rw [e'];exact put (qA _) ⟨nm,vr,ty,nu,fi,mo,rfl,g⟩
 ·split at c
  ·rename_i hf;obtain ⟨r,E,c⟩:=Option.bind_eq_some_iff.1 c;obtain ⟨l,hl,rfl⟩:=Option.map_eq_some_iff.1 c;cases j;obtain ⟨nm,vr,ty,nu,fi,mo,Z,g⟩:=qsY H E;obtain ⟨V,hlen⟩:=qlJ H hl;simp -implicitDefEqProofs only [St.wp,gd,if_true];refine x9 qDI (fs:= #[]) (caps:= #[]) (H _ .fx hf) ?_;have U:=qw4 g V (by rw [List.length_map];omega);rw [←Z] at U;refine Calls.mono (show Calls Tryz.prog 218 (#[]++Array.map (qd ρ) ⟨[_,_]⟩++ #[]) w _ from by simpa using U) ?_;rintro _ w1 ⟨v,rfl,J,o⟩;exact put o (by rw [←qCK] at J;exact J)
  ·cases c
 ·obtain ⟨r,E,rfl⟩:=Option.map_eq_some_iff.1 c;cases j;obtain ⟨nm,vr,ty,nu,fi,mo,Z,g⟩:=qsY H E;simp -implicitDefEqProofs only [St.wp,gd,if_true];refine vz fun X w1 hX o y _=> ?_;rw [Z,g.cells] at y;exact put o ⟨X,nm,vr,ty,nu,fi,mo,rfl,y,g.at' (qz.ext o)⟩
 ·rename_i n ps _;obtain ⟨l,hl,c⟩:=Option.bind_eq_some_iff.1 c;cases y:Nat.beq n l.length&&Nat.blt n 9 with
  |false=>rw [y] at c;cases c
  |true=>
   rw [y] at c;cases c;cases j;simp only [Bool.and_eq_true] at y;have hn:=Nat.eq_of_beq_eq_true y.1;have U:n<9:=Nat.le_of_ble_eq_true y.2;subst hn;obtain ⟨k1,k2,k3⟩:=qlS H (ρ:=ρ) _ _ l hl;simp -implicitDefEqProofs only [St.wp,gd,if_true];refine jz quq (by simp;omega) (by rw [k1,List.range_eq_range']) (fun q hq=>by rw [k2 q hq];rfl) fun B w1 hB o S _=> ?_;rw [qCJ k2] at S;refine put o ⟨.inr ⟨B,_,by simp,S,k3.imp fun _ _ h=>h.at' (qz.ext (p:=zJ) o) fun _=>by simp [zJ]⟩,U⟩
 ·obtain ⟨r,E,rfl⟩:=Option.map_eq_some_iff.1 c;cases j;obtain ⟨cs,e,g⟩:=qsR H (ρ:=ρ) (pl:=fun i=>some (i*1,1)) (fun i _=>by rw [Nat.mul_one]) _ _ r E (cs:=List.replicate 38 (.pointer none)) ⟨List.length_replicate,List.length_replicate,fun k V=>by rw [List.getD_eq_getElem?_getD,List.getD_eq_getElem?_getD,List.getElem?_replicate,List.getElem?_replicate,if_pos V,if_pos V];rfl⟩;simp -implicitDefEqProofs only [St.wp,gd,if_true];rw [qr4,qDW,Array.toList_map];have e':Instr.fill (fun i=>some (i*1,1)) (Array.replicate 38 (.pointer none)) _=_:=e;rw [e'];exact put (qA _) ⟨cs,rfl,g⟩
 ·cases c
theorem qDj:(qav.getD 108 []).contains 107=true:=by kernel_rfl
theorem quf (hd:qav[108]? =some ds) (hL:∀d∈ds,L d=true) (g:J144 w0 A T L ρ w) (Y:L 108=false):(.eff none none (.store 175 (.tmp 0) (.tmp 112)) 0:St).wp Tryz.prog Q (J144 w0 A T (yC 108 L)) ρ w:=by
 have H:L 107=true:=by
  have h:=qDj;rw [List.getD_eq_getElem?_getD,hd] at h;exact hL _ (List.contains_iff_mem.1 h)
 obtain ⟨cs,I,S,_,J⟩:=g.facts 107 _ qCQ H;have j:wP w cs:=⟨S,fun k z=>qtM z▸J k z⟩;have o:∀c∈cs,c.cells= #[c]∧c.oneCell=true:=fun c E=>by
  obtain ⟨k,z,rfl⟩:=List.mem_iff_getElem.1 E;have y:=j.2 k (by rw [←j.1];exact z);rw [List.getD_eq_getElem?_getD,List.getElem?_eq_getElem z] at y;simp only [Option.getD_some] at y;generalize cs[k]=c at y;cases U:vY k with
  |none=>rw [U] at y;cases y;exact ⟨rfl,rfl⟩
  |some r=>
   rw [U] at y;obtain ⟨X,_,_,_,_,_,_,rfl,_⟩:=y;exact ⟨rfl,rfl⟩
 have t:=qsW fun c E=>(o c E).1;have a:qd ρ (.tmp 112)= .agg cs.toArray:=I;simp -implicitDefEqProofs [St.wp];refine jn (B:=A) (by simpa using g.r0) (g.bA Y) (by rw [a,t];simp [j.1]) ?_ (by kernel_rfl) fun W V Z=> ?_
 ·rw [a,t];simpa using fun c E=>(o c E).2
 rw [a,t] at Z;have hE:qb w0 W:=V.ext g.ext g.A0;have O:qz zJ w W:=(qz.only V (g.bA Y)).mono fun _ _ h=> .inr h;simp -implicitDefEqProofs;refine ⟨hE,g.r0,g.r1,g.r2,g.r3,g.A0,fun e=>by simp [yC] at e,fun _=>⟨cs,Z,j.at' O⟩,g.ty.at' O,fun k F hF hL=> ?_⟩;have z:k<108:=by
  have:=(List.getElem?_eq_some_iff.1 hF).1
  rwa [qrQ] at this
 exact AC.at' O (g.facts k F hF (by simpa [yC,show k≠108 by omega] using hL))
end
theorem qs4:vL Tryz.prog 241=some #[.nilFunc, .nilFunc, .nilFunc, .nilFunc, .slice none 0 0, .nilFunc, .int .i64 0, .int .i64 0]:=by kernel_rfl
theorem qt2:jG Tryz.prog 241 8=true:=by kernel_rfl
theorem qD6:Tryz.prog.built 241 [(0, .func (.func 77) #[] #[]),(2, .func (.func 22) #[] #[])]=some #[qG 77 #[], .nilFunc,qG 22 #[], .nilFunc, .slice none 0 0, .nilFunc, .int .i64 0, .int .i64 0]:=by kernel_rfl
theorem qjo:yw.length=109:=by kernel_rfl
theorem qt9:yw[108]? =some (some (.eff none none (.store 175 (.tmp 0) (.tmp 112)) 0)):=by kernel_rfl
theorem qt8:qaR Tryz.prog 113 qd0 (qL qbK 4)=some yw:=by
 have h:(qaR Tryz.prog 113 qd0 (qL qbK 4)).isSome=true:=by kernel_rfl
 obtain ⟨r,a⟩:=Option.isSome_iff_exists.1 h;unfold yw;rw [a];rfl
theorem qwN {w:World}:Calls Tryz.prog 144 #[] w fun e w'=>∃cs:List Value,e= .returned (.agg cs.toArray)∧wP w' cs∧qb w w':=by
 refine qBP fun ρ=> ?_;simp -implicitDefEqProofs [qqE];refine qT qiJ fun A w1 U j y _=> ?_;simp -implicitDefEqProofs [qD6];refine qT qs4 fun T w2 hT t H _=> ?_;simp -implicitDefEqProofs;refine jn (B:=T) (by simp) H (by simp [Value.cells,qG]) (by simp [Value.cells,qG];exact ⟨rfl,rfl,rfl,rfl⟩) (by simpa [Value.cells,qG] using qt2) fun w3 o c=> ?_;simp -implicitDefEqProofs [Value.cells,qG] at c;have I:qb w w3:=o.ext (j.trans' t) (by have:=j.size;omega);have E:=o.blk (y.ext t) (by have:=y.lt;omega);simp -implicitDefEqProofs;refine qv5 qt8 rfl (by kernel_rfl) (by kernel_rfl) (J144 w A T) ?_ ?_ ?_
 ·intro w' J _;exact ⟨I.trans' J,by simp,by simp [qG],by simp,by simp [qG],U,fun _=>E.ext J,fun e=>(by cases e),⟨T,qG 77 #[], .nilFunc,qG 22 #[], .nilFunc, .slice none 0 0, .nilFunc,rfl,(c.ext J),⟨qjO (w:=w),rfl,qjN (w:=w),rfl, .nil,rfl⟩⟩,fun k F _ hL=>by cases hL⟩
 ·intro L i s ds z O S hL ρ w a;rcases Nat.lt_or_ge i 108 with h|h
  ·exact qug i s (by rw [List.getElem?_take_of_lt h];exact z) O hL a
  ·have V:=(List.getElem?_eq_some_iff.1 z).1;rw [qjo] at V;obtain rfl:i=108:=by omega
   rw [qt9] at z;cases z;exact quf O hL a S
 ·intro L ρ Z hL a;obtain ⟨cs,Y,g⟩:=a.fin (hL 108 (by rw [qjo];decide));simp -implicitDefEqProofs [qqD];refine qK (by simpa using a.r0) Y (by simp [g.1]) ?_;exact ⟨cs,by simp,g,a.ext⟩
end Go.L02
namespace Go.Eng
open Go.RowKit
section
variable {P:Program} {Q:Ks} {d:Option Nat} {ty:TypeId} {K:qa→World→Prop} {ρ:qa} {w:World}
def wb:Value→Bool| .nilFunc=>true|_=>false
def fnT (P:Program) (t:TypeId):Bool:=match P.underlying t with|some (.func ..)=>true|_=>false
theorem qj8 {t:TypeId} {v:Value} (c:fnT P t=true) (j:v= .nilFunc∨∃F a b,v= .func F a b):(Op.equal t v .nilFunc).run P w= .ok (wb v) w:=by
 unfold fnT at c;split at c
 ·rename_i g;have h:∀d:Nat,(Op.equalIn (d+1) t v .nilFunc).run P w= .ok (wb v) w:=fun d=>by
   rcases j with rfl|⟨F,a,b,rfl⟩<;>simp [Op.equalIn,run_underlying g,wb]
  simp [Op.equal,Op.maxDepth,h 9999]
 ·cases c
theorem qr0 {t j:TypeId} {x:Operand} {v:Value} (g:fnT P t=true) (k:qd ρ x=v) (c:v= .nilFunc∨∃F a b,v= .func F a b) (h:K (qm ρ d (.bool (wb v))) w):qw P Q d (.binOp .eql t x (.const .nilFunc) j) ty K ρ w:=by
 refine ju (v:= .bool (wb v)) (w':=w) ?_ h;have:=qj8 (w:=w) g c;rcases c with rfl|⟨F,a,b,rfl⟩<;>simp [execOp,qD,k,eqGuard,binOp,this]
theorem qrW {t j:TypeId} {x:Operand} {v:Value} (g:fnT P t=true) (k:qd ρ x=v) (c:v= .nilFunc∨∃F a b,v= .func F a b) (h:K (qm ρ d (.bool (!wb v))) w):qw P Q d (.binOp .neq t x (.const .nilFunc) j) ty K ρ w:=by
 refine ju (v:= .bool (!wb v)) (w':=w) ?_ h;have:=qj8 (w:=w) g c;rcases c with rfl|⟨F,a,b,rfl⟩<;>simp [execOp,qD,k,eqGuard,binOp,this]
end
end Go.Eng
namespace Go.L02
open Go Go.Eng Go.RowKit
open Go.Proofs hiding encI
open Go.L01 (Bs Own.same Tok qK qQ qh qi)
set_option maxRecDepth 100000
set_option maxHeartbeats 2000000
structure Rd (w:World) (v:Value) (xs:List NV):Prop where
 cells:Cells w v 6 (qZ xs)
 kids:∀x∈xs,Cells w x.kv 1 (x.nd.kids.map encI)
theorem _root_.Go.Eng.Cells.ext {w w':World} {v:Value} {sz:Nat} {xs:List Value} (h:Cells w v sz xs) (c:qb w w'):Cells w' v sz xs:=⟨h.is,h.len,fun j a=>c.cell (h.cell j a)⟩
theorem Rd.ext {w w':World} {v:Value} {xs:List NV} (h:Rd w v xs) (a:qb w w'):Rd w' v xs:=⟨h.cells.ext a,fun x c=>(h.kids x c).ext a⟩
theorem qlq {xs:List NV} {k j:Nat} (a:k<xs.length) (g:j<6):(qZ xs)[k*6+j]? =(qe xs[k])[j]? :=by
 induction xs generalizing k with
 |nil=>simp at a
 |cons x xs c=>
  have e:qZ (x::xs)=qe x++qZ xs:=rfl;have h:(qe x).length=6:=rfl;rw [e];cases k with
  |zero=>rw [List.getElem?_append_left (by omega)];simp
  |succ k=>
   rw [List.getElem?_append_right (by omega),show (k+1)*6+j - (qe x).length=k*6+j by omega];simpa using c (k:=k) (by simpa using a)
section
variable {w:World} {v:Value} {xs:List NV}
theorem Rd.len (h:Rd w v xs):qk v=xs.length:=by have:=h.cells.len;rw [z6] at this;omega
theorem Rd.cell (h:Rd w v xs) {k j:Nat} (g:k<xs.length) (c:j<6):w.cell? (qJ v (k*6+j))=(qe xs[k])[j]? :=by
 have a:k*6+j<(qZ xs).length:=by rw [z6];omega
 rw [h.cells.cell _ a,←List.getElem?_eq_getElem a,qlq g c]
theorem Rd.row (h:Rd w v xs) {k:Nat} (o:k<xs.length):Eng.jk w (qJ v (k*6)) 0 6=some (qe xs[k]):=by
 have:=Qw (w:=w) (a:=qJ v (k*6)) (l:=qe xs[k]) (i:=0) fun j g=>by
  have c:j<6:=g;rw [qfc,Nat.zero_add,h.cell o c,List.getElem?_eq_getElem g]
 exact this
end
structure DOk (d:D):Prop where
 kind:d.kind<256
 name:d.name.length<4294967281
 vr:d.vr.length<4294967281
 typ:d.typ.length<4294967281
theorem qrD:fnT Tryz.prog 34=true:=by kernel_rfl
theorem qrE:fnT Tryz.prog 238=true:=by kernel_rfl
theorem qs1 (F:FuncId) (c:Array Value):qG F c= .nilFunc∨∃F' a b,qG F c= .func F' a b:= .inr ⟨_,_,_,rfl⟩
theorem qfQ {w:World} (k:L01.G w) {v:Value} {o:Option (Bs→Bool)} (s:Bs) (y:s.length<4294967281) (h:vT (zH w) v o):Calls Tryz.prog 225 #[.string (qc s),v] w fun e w'=>e= .returned (.bool (qV s o))∧qb w w':=by
 have g:(⟨#[]⟩:ByteArray)=qc []:=rfl;refine qAC fun ρ r0 r1=> ?_;simp -implicitDefEqProofs [qpe,r0,r1];cases o with
 |none=>
  cases h;refine qr0 qrD (v:= .nilFunc) (by simp) (.inl rfl) ?_;simp -implicitDefEqProofs [wb,r0,g,jp,qV];exact qA _
 |some f=>
  obtain ⟨F,caps,rfl,a,c⟩:=zH.fn h k;refine qr0 qrD (v:=qG F caps) (by simp) (qs1 _ _) ?_;simp -implicitDefEqProofs [wb,qG,qpd,r0,r1];refine x9 a (t:=9) (fs:= #[]) (caps:=caps) (by simp) ?_;simp -implicitDefEqProofs;refine (c s y).mono ?_;rintro _ w1 ⟨rfl,j⟩;simp -implicitDefEqProofs [qV];exact j
theorem qvn:∀(k:Nat) (r:Row),vY k=some r→r.more=none→r.most≤r.first.length:=by
 intro k r h a;unfold vY yF at h;rcases k with _|_|_|_|_|_|_|_|_|_|_|_|_|_|_|_|_|_|_|_|_|_|_|_|_|_|_|_|_|_|_|_|_|_|_|_|_|_|k<;>
  simp [Option.join] at h<;>subst h<;>first|(simp [qf];done)|(simp at a;done)|(simp;done)
theorem qiW:Tryz.prog.underlying 175=some (.array 38 174):=by kernel_rfl
theorem qiX:Tryz.prog.underlying 174=some (.pointer 241):=by kernel_rfl
theorem qCr:∃inf,Tryz.prog.info? 174=some inf∧inf.size=1:=by
 have:(match Tryz.prog.info? 174 with|some inf=>inf.size==1|none=>false)=true:=by kernel_rfl
 cases h:Tryz.prog.info? 174 with
 |none=>rw [h] at this;cases this
 |some inf=>rw [h] at this;exact ⟨inf,rfl,by simpa using this⟩
theorem qvp {k:Nat} (h:38≤k):vY k=none:=by
 unfold vY;have:yF[k]? =none:=List.getElem?_eq_none (by show yF.length≤k;exact h);rw [this];rfl
theorem yV {v:Value} (h:qn v=true):qk v≤qo v:=by
 rcases zz h with ⟨b,o,n,c,rfl,a⟩|rfl|⟨b,o,s,rfl⟩
 ·exact a
 ·exact Nat.le_refl _
 ·exact Nat.le_refl _
theorem qir {w:World} {v:Value} {xs:List Value} (h:Cells w v 1 xs) (l:Nat) (o:l≤xs.length):Cells w (qR v 1 l (qk v) (qo v)) 1 (xs.drop l):=by
 have g:=h.len;have a:=yV h.is;refine ⟨QL h.is 1 l _ _ (by omega) a (Nat.le_refl _),by rw [Qr _ _ _ _ h.is];simp;omega,fun j k=> ?_⟩;have c:l+j<xs.length:=by simp at k;omega
 rw [qcr 1 l _ _ j h.is (by omega) (by omega),Nat.mul_one,h.cell (l+j) c];simp
theorem qvm:∀(k:Nat) (r:Row),vY k=some r→r.most≤400:=by
 intro k r h;unfold vY yF at h;rcases k with _|_|_|_|_|_|_|_|_|_|_|_|_|_|_|_|_|_|_|_|_|_|_|_|_|_|_|_|_|_|_|_|_|_|_|_|_|_|k<;>
  simp [Option.join] at h<;>subst h<;>first|(simp [qf];done)|(simp;done)
def RB (w:World) (b:Bool) (e:Ending) (w':World):Prop:=e= .returned (.bool b)∧qb w w'
structure RtS (w W:World) (lv:Value) (xs:List NV) (x:NV) (X Rw:Nat) (nm vr ty nu fi mo:Value) (r:Row):Prop where
 ext:qb w W
 rd:Rd W lv xs
 bX:Blk W X (qe x).toArray 44
 bR:Blk W Rw (vw nm vr ty nu fi mo r) 241
 rc:RowC W nm vr ty nu fi mo r
 kv:Cells W x.kv 1 (x.nd.kids.map encI)
 g:L01.G W
 m:zW W
structure RtK (ρ:qa) (lv:Value) (X Rw:Nat):Prop where
 r0:ρ 0=lv
 r4:ρ 4= .pointer (some ⟨X,0,none⟩)
 r7:ρ 7= .pointer (some ⟨Rw,0,none⟩)
structure RtH (xs:List NV) (x:NV) (r:Row):Prop where
 d:DOk x.nd.d
 ds:∀y∈xs,DOk y.nd.d
 len:xs.length≤400
 hin:∀k∈x.nd.kids,0≤k∧k<xs.length
 row:vY x.nd.d.kind=some r
section
variable {w W W':World} {lv:Value} {xs:List NV} {x:NV} {X Rw:Nat} {nm vr ty nu fi mo:Value} {r:Row} {ρ:qa}
theorem RtS.to (h:RtS w W lv xs x X Rw nm vr ty nu fi mo r) (a:qb W W'):RtS w W' lv xs x X Rw nm vr ty nu fi mo r:=
 ⟨h.ext.trans' a,h.rd.ext a,h.bX.ext a,h.bR.ext a,h.rc.at' (qz.ext a),h.kv.ext a,h.g.ext a,h.m.ext a⟩
theorem RtS.cX (h:RtS w W lv xs x X Rw nm vr ty nu fi mo r):W.cell? ⟨X,0,none⟩=some (.int .u8 (x.nd.d.kind:Int))∧W.cell? ⟨X,1,none⟩=some (.string (qc x.nd.d.name))∧W.cell? ⟨X,2,none⟩=some (.string (qc x.nd.d.vr))∧W.cell? ⟨X,3,none⟩=some (.string (qc x.nd.d.typ))∧W.cell? ⟨X,4,none⟩=some (.int .i64 x.nd.d.n)∧W.cell? ⟨X,5,none⟩=some x.kv:=
 ⟨by rw [h.bX.cell];rfl,by rw [h.bX.cell];rfl,by rw [h.bX.cell];rfl,by rw [h.bX.cell];rfl,by rw [h.bX.cell];rfl,by rw [h.bX.cell];rfl⟩
theorem RtS.cR (h:RtS w W lv xs x X Rw nm vr ty nu fi mo r):W.cell? ⟨Rw,0,none⟩=some nm∧W.cell? ⟨Rw,1,none⟩=some vr∧W.cell? ⟨Rw,2,none⟩=some ty∧W.cell? ⟨Rw,3,none⟩=some nu∧W.cell? ⟨Rw,4,none⟩=some fi∧W.cell? ⟨Rw,5,none⟩=some mo∧W.cell? ⟨Rw,6,none⟩=some (.int .i64 (r.least:Int))∧W.cell? ⟨Rw,7,none⟩=some (.int .i64 (r.most:Int)):=
 ⟨by rw [h.bR.cell];rfl,by rw [h.bR.cell];rfl,by rw [h.bR.cell];rfl,by rw [h.bR.cell];rfl,by rw [h.bR.cell];rfl,by rw [h.bR.cell];rfl,by rw [h.bR.cell];rfl,by rw [h.bR.cell];rfl⟩
theorem RtS.row (h:RtS w W lv xs x X Rw nm vr ty nu fi mo r):Eng.jk W ⟨X,0,none⟩ 0 6=some (qe x):=by
 have:=xr h.bX;simpa [qe] using this
theorem RtS.kl (h:RtS w W lv xs x X Rw nm vr ty nu fi mo r):qk x.kv=x.nd.kids.length:=by have:=h.kv.len;simpa using this.symm
theorem qlP {k:Int} (h:0≤k∧k<xs.length):zr (xs.map (·.nd)) k=(xs[k.toNat]'(by omega)).nd.d.name:=by
 unfold zr;rw [List.getElem?_map,List.getElem?_eq_getElem (by omega)];rfl
theorem qlQ {k:Int} (h:0≤k∧k<xs.length):jj (xs.map (·.nd)) k=(xs[k.toNat]'(by omega)).nd.d.kind:=by
 unfold jj;rw [List.getElem?_map,List.getElem?_eq_getElem (by omega)];rfl
theorem qvj (hh:RtH xs x r) (h:RtS w W lv xs x X Rw nm vr ty nu fi mo r) (a:RtK ρ lv X Rw) (h32:x.nd.d.kind=32→1≤x.nd.kids.length) (hkl:x.nd.kids.length≤400):
  qan.wp ⟨Tryz.prog,178,xO,[]⟩ (qC [.tmp 6] (RB w (vh (xs.map (·.nd)) x.nd))) (je [.tmp 6] (RB w (vh (xs.map (·.nd)) x.nd))) ρ W:=by
 obtain ⟨c0,c1,c2,c3,c4,c5⟩:=h.cX;have e0:(⟨#[]⟩:ByteArray)=qc []:=rfl;have en:(⟨#[110,111,116]⟩:ByteArray)=qc [110,111,116]:=rfl;have Z:=h.kl;simp -implicitDefEqProofs [qan,a.r4,c0];by_cases k5:x.nd.d.kind=5
 ·have es:vh (xs.map (·.nd)) x.nd=qaz x.nd.d:=by unfold vh;rw [if_pos k5]
  rw [es];simp -implicitDefEqProofs [k5,a.r4,h.row];refine (qw9 (x:=x) h.g h.m h.kv.is hh.d.name hh.d.vr hh.d.typ).mono ?_;rintro _ w2 ⟨rfl,hE⟩;simp -implicitDefEqProofs [RB];exact h.ext.trans' hE
 ·by_cases k6:x.nd.d.kind=6
  ·have es:vh (xs.map (·.nd)) x.nd=(decide (x.nd.d.name=[110,111,116])==decide (x.nd.kids.length=1)):=by unfold vh;rw [if_neg k5,if_pos k6]
   rw [es];simp -implicitDefEqProofs [k6,a.r4,c1,c5,h.kv.is,Z,en,jp,RB];refine ⟨?_,h.ext⟩;congr 1;rw [Bool.eq_iff_iff];simp;omega
  ·by_cases V:x.nd.d.kind=32
   ·have es:vh (xs.map (·.nd)) x.nd=kV (xs.map (·.nd)) x.nd.kids.length 0 (x.nd.kids.drop 1):=by unfold vh;rw [if_neg k5,if_neg k6,if_pos V]
    have h1:=h32 V;rw [es];have U:=QL h.kv.is 1 1 (qk x.kv) (qo x.kv) (by rw [Z];exact h1) (yV h.kv.is) (Nat.le_refl _);have y:=qir h.kv 1 (by simpa using h1);generalize hb:kV (xs.map (·.nd)) x.nd.kids.length 0 (x.nd.kids.drop 1)=b;have h1':(1:Int)≤(x.nd.kids.length:Int):=by omega
    rw [Z] at U y;simp -implicitDefEqProofs [V,a.r4,c5,h.kv.is,Z,h1',U];generalize hkv:qR x.kv 1 1 x.nd.kids.length (qo x.kv)=kv at U y;obtain ⟨I,hI⟩:∃I:Nat→qa→World→Prop,∀j S w',I j S w'↔(RtK S lv X Rw∧S 150=kv∧S 151= .int .i64 ((x.nd.kids.length - 1:Nat):Int)∧RtS w w' lv xs x X Rw nm vr ty nu fi mo r∧kV (xs.map (·.nd)) x.nd.kids.length j ((x.nd.kids.drop 1).drop j)=b):=⟨_,fun _ _ _=>Iff.rfl⟩;refine js 152 (x.nd.kids.length - 1) I (by simp) ((hI _ _ _).2 ⟨⟨by simp [a.r0],by simp [a.r4],by simp [a.r7]⟩,by simp,by simp,h,hb⟩) ?_;clear a hb h c0 c1 c2 c3 c4 c5 y;rintro j S w' hj rj hIw;obtain ⟨a,O,z,h,hb⟩:=(hI _ _ _).1 hIw;obtain ⟨c0,c1,c2,c3,c4,c5⟩:=h.cX;have y:=qir h.kv 1 (by simpa using h1);rw [Z,hkv] at y;have hkl1:qk kv=x.nd.kids.length - 1:=by have:=y.len;simpa using this.symm
    by_cases E:j<x.nd.kids.length - 1
    ·have hjl:j<(x.nd.kids.drop 1).length:=by simpa using E
     have hj1:j+1<x.nd.kids.length:=by omega
     have t:=y.cell j (by simpa using E);have hget:(List.drop 1 (List.map encI x.nd.kids))[j]'(by simpa using E)=encI (x.nd.kids[j+1]):=by simp
     rw [hget] at t;have hin:=hh.hin x.nd.kids[j+1] (List.getElem_mem _);have hdr:(x.nd.kids.drop 1).drop j=x.nd.kids[j+1]::(x.nd.kids.drop 1).drop (j+1):=by
      rw [List.drop_eq_getElem_cons hjl];simp [List.drop_drop]
     rw [hdr] at hb;have c:((qh (zr (xs.map (·.nd)) x.nd.kids[j+1])|| !(!decide (zr (xs.map (·.nd)) x.nd.kids[j+1]=[])||decide (j+2<x.nd.kids.length)))&&kV (xs.map (·.nd)) x.nd.kids.length (j+1) ((x.nd.kids.drop 1).drop (j+1)))=b:=hb;rw [qlP hin] at c;generalize hk:x.nd.kids[j+1]=k at t hin c;have hkn:k.toNat<xs.length:=by omega
     have hkz:((k.toNat:Nat):Int)=k:=by omega
     have cn:w'.cell? (qJ lv (k.toNat*6+1))=some (.string (qc (xs[k.toNat]).nd.d.name)):=by rw [h.rd.cell hkn (by omega)];rfl
     have J:(j:Int)<((x.nd.kids.length - 1:Nat):Int):=by omega
     simp -implicitDefEqProofs [qhs,rj,z,J,qqy,O,U,hkl1,E,t,encI,a.r0,h.rd.cells.is,h.rd.len,hin.1,hin.2,cn];refine (L01.Qo h.g _).mono ?_;rintro _ w2 ⟨rfl,hE⟩;have h2:=h.to hE;obtain ⟨_,_,_,_,_,c5'⟩:=h2.cX;have Y:∀o:qa,o 0=lv→o 4= .pointer (some ⟨X,0,none⟩)→o 7= .pointer (some ⟨Rw,0,none⟩)→o 150=kv→o 151= .int .i64 ((x.nd.kids.length - 1:Nat):Int)→kV (xs.map (·.nd)) x.nd.kids.length (j+1) ((x.nd.kids.drop 1).drop (j+1))=b→I (j+1) o w2:=
      fun o a0 a4 a7 a150 a151 hb2=>(hI _ _ _).2 ⟨⟨a0,a4,a7⟩,a150,a151,h2,hb2⟩
     have hw:IntKind.i64.wrap ((x.nd.kids.length:Int) - 2)=(x.nd.kids.length:Int) - 2:=qr (by omega);have hwj:IntKind.i64.wrap ((j:Int)+1)=(j:Int)+1:=qr (by omega);generalize (xs[k.toNat]'hkn).nd.d.name=nm at c cn;cases hn:qh nm with
     |true=>
      rw [hn] at c;simp -implicitDefEqProofs [qhv,rj,hwj];exact Y _ (by simp [a.r0]) (by simp [a.r4]) (by simp [a.r7]) (by simp [O]) (by simp [z]) (by simpa using c)
     |false=>
      rw [hn] at c;by_cases aa:nm=[]
      ·subst aa;by_cases hj2:j+2<x.nd.kids.length
       ·have H:(j:Int)<(x.nd.kids.length:Int) - 2:=by omega
        simp -implicitDefEqProofs [e0,a.r4,c5',h.kv.is,Z,hw,H,RB];refine ⟨?_,h2.ext⟩;rw [←c];simp [hj2]
       ·have H:¬(j:Int)<(x.nd.kids.length:Int) - 2:=by omega
        simp -implicitDefEqProofs [e0,a.r4,c5',h.kv.is,Z,hw,H,qhv,rj,hwj];exact Y _ (by simp [a.r0]) (by simp [a.r4]) (by simp [a.r7]) (by simp [O]) (by simp [z]) (by simpa [hj2] using c)
      ·simp -implicitDefEqProofs [e0,jp,aa,RB];refine ⟨?_,h2.ext⟩;rw [←c];simp [aa]
    ·have J:¬(j:Int)<((x.nd.kids.length - 1:Nat):Int):=by omega
     have hd0:(x.nd.kids.drop 1).drop j=[]:=by rw [List.drop_eq_nil_iff];simp;omega
     rw [hd0] at hb;simp -implicitDefEqProofs [qhs,rj,z,J,E,qhu,RB];exact ⟨hb.symm,h.ext⟩
   ·have es:vh (xs.map (·.nd)) x.nd=true:=by unfold vh;rw [if_neg k5,if_neg k6,if_neg V]
    rw [es];have k5':¬(x.nd.d.kind:Int)=5:=by omega
    have k6':¬(x.nd.d.kind:Int)=6:=by omega
    have k32':¬(x.nd.d.kind:Int)=32:=by omega
    simp -implicitDefEqProofs [k5',k6',k32',qhu,RB];exact h.ext
theorem qyh {w:World} {v:Value} {l:List (Nat→Bool)} (h:xg w v l) {i:Nat} (a:i<l.length):qn v=true∧qk v=l.length∧∃u,w.cell? (qJ v i)=some u∧vB w u l[i]:=by
 rcases h with ⟨_,rfl⟩|⟨B,cs,rfl,j,c⟩
 ·simp at a
 ·have g:=c.len;refine ⟨by simp [qn],rfl,cs[i]'(by omega), ?_,c.get i (by omega) a⟩;simp only [qJ,Nat.zero_add];rw [j.cell];simp [g,a]
theorem qyg {w:World} {v:Value} {l:List (Nat→Bool)} (h:xg w v l):qn v=true∧qk v=l.length:=by
 rcases h with ⟨rfl,rfl⟩|⟨B,cs,rfl,a,c⟩
 ·exact ⟨rfl,rfl⟩
 ·exact ⟨by simp [qn],rfl⟩
theorem qvl (hh:RtH xs x r) (h:RtS w W lv xs x X Rw nm vr ty nu fi mo r) (a:RtK ρ lv X Rw) (h1:r.least≤x.nd.kids.length) (h2:x.nd.kids.length≤r.most):
  qht.wp ⟨Tryz.prog,178,xO,[]⟩ (qC [.tmp 6] (RB w (qO (xs.map (·.nd)) r 0 x.nd.kids&&vh (xs.map (·.nd)) x.nd))) (je [.tmp 6] (RB w (qO (xs.map (·.nd)) r 0 x.nd.kids&&vh (xs.map (·.nd)) x.nd))) ρ W:=by
 obtain ⟨c0,c1,c2,c3,c4,c5⟩:=h.cX;have hl:=h.kl;have hmost:r.most≤400:=qvm _ _ hh.row;have h32:x.nd.d.kind=32→1≤x.nd.kids.length:=fun e=>by
  have:=hh.row;rw [e] at this;have hr:r.least=2:=by
   have h3:vY 32=some {first:=[qp 20],more:=some (qp 33),least:=2,most:=400}:=rfl;rw [h3] at this;cases this;rfl
  omega
 generalize hb:(qO (xs.map (·.nd)) r 0 x.nd.kids&&vh (xs.map (·.nd)) x.nd)=b;simp -implicitDefEqProofs [qht,a.r4,c5,h.kv.is,hl];obtain ⟨I,hI⟩:∃I:Nat→qa→World→Prop,∀j U w',I j U w'↔(RtK U lv X Rw∧U 97=x.kv∧U 98= .int .i64 (x.nd.kids.length:Int)∧RtS w w' lv xs x X Rw nm vr ty nu fi mo r∧(qO (xs.map (·.nd)) r j (x.nd.kids.drop j)&&vh (xs.map (·.nd)) x.nd)=b):=⟨_,fun _ _ _=>Iff.rfl⟩;refine js 99 x.nd.kids.length I (by simp) ((hI _ _ _).2 ⟨⟨by simp [a.r0],by simp [a.r4],by simp [a.r7]⟩,by simp,by simp,h,hb⟩) ?_;clear a hb h c0 c1 c2 c3 c4 c5;rintro j U w' hj rj hIw;obtain ⟨a,V,O,h,hb⟩:=(hI _ _ _).1 hIw;obtain ⟨d0,d1,d2,d3,d4,d5,d6,d7⟩:=h.cR;have hwj:IntKind.i64.wrap ((j:Int)+1)=(j:Int)+1:=qr (by omega);by_cases z:j<x.nd.kids.length
 ·have c:=h.kv.cell j (by simpa using z);have hget:(List.map encI x.nd.kids)[j]'(by simpa using z)=encI (x.nd.kids[j]):=by simp
  rw [hget] at c;have hin:=hh.hin x.nd.kids[j] (List.getElem_mem _);rw [List.drop_eq_getElem_cons z] at hb;have y:(((match r.first[j]? with|some f=>f (jj (xs.map (·.nd)) x.nd.kids[j])|none=>(match r.more with|some f=>f (jj (xs.map (·.nd)) x.nd.kids[j])|none=>false))&&qO (xs.map (·.nd)) r (j+1) (x.nd.kids.drop (j+1)))&&vh (xs.map (·.nd)) x.nd)=b:=hb;rw [qlQ hin] at y;generalize hk:x.nd.kids[j]=k at c hin y;have Z:k.toNat<xs.length:=by omega
  have hkz:((k.toNat:Nat):Int)=k:=by omega
  have hrow:=h.rd.row Z;obtain ⟨hfi,hfl⟩:=qyg h.rc.first;have E:(j:Int)<(x.nd.kids.length:Int):=by omega
  have go:∀(g:qa) (u:Value) (f:Nat→Bool),RtK g lv X Rw→g 97=x.kv→g 98= .int .i64 (x.nd.kids.length:Int)→g 99= .int .i64 (j:Int)→g 10= .int .i64 k→g 11=u→vB w' u f→((f (xs[k.toNat]'Z).nd.d.kind&&qO (xs.map (·.nd)) r (j+1) (x.nd.kids.drop (j+1)))&&vh (xs.map (·.nd)) x.nd)=b→
    qhz.wp ⟨Tryz.prog,178,xO,[]⟩ (qdZ.wp ⟨Tryz.prog,178,xO,[]⟩ (fun o aa=>o 99= .int .i64 ((j:Int)+1)∧I (j+1) o aa) (((je [.tmp 6] (RB w b)).blk 0 (qan.wp ⟨Tryz.prog,178,xO,[]⟩ (qC [.tmp 6] (RB w b)) (je [.tmp 6] (RB w b)))))) ((((je [.tmp 6] (RB w b)).blk 0 (qan.wp ⟨Tryz.prog,178,xO,[]⟩ (qC [.tmp 6] (RB w b)) (je [.tmp 6] (RB w b))))).blk 1 (qdZ.wp ⟨Tryz.prog,178,xO,[]⟩ (fun o aa=>o 99= .int .i64 ((j:Int)+1)∧I (j+1) o aa) (((je [.tmp 6] (RB w b)).blk 0 (qan.wp ⟨Tryz.prog,178,xO,[]⟩ (qC [.tmp 6] (RB w b)) (je [.tmp 6] (RB w b))))))) g w':=by
   intro g u f H a97 a98 a99 a10 a11 hu J;obtain ⟨F,caps,rfl,hcb,hc⟩:=hu.fn;simp -implicitDefEqProofs [qhz,a11,qG,H.r0,a10,h.rd.cells.is,h.rd.len,hin.1,hin.2,hrow];refine x9 hcb (t:=122) (fs:= #[]) (caps:=caps) (by simp) ?_;simp -implicitDefEqProofs;refine (hc w' (qA _) xs[k.toNat] (h.rd.kids _ (List.getElem_mem _)).is (hh.ds _ (List.getElem_mem _)).kind).mono ?_;rintro _ w2 ⟨rfl,hE⟩;have h2:=h.to hE;cases hf:f (xs[k.toNat]'Z).nd.d.kind with
   |false=>
    rw [hf] at J;simp -implicitDefEqProofs [RB];exact ⟨by rw [←J];rfl,h2.ext⟩
   |true=>
    rw [hf] at J;simp -implicitDefEqProofs [qdZ,a99,hwj,z];exact (hI _ _ _).2 ⟨⟨by simp [H.r0],by simp [H.r4],by simp [H.r7]⟩,by simp [a97],by simp [a98],h2,by simpa using J⟩
  by_cases Y:j<r.first.length
  ·have S:(j:Int)<(r.first.length:Int):=by omega
   obtain ⟨_,_,u,hu,hku⟩:=qyh h.rc.first Y;have e1:r.first[j]? =some r.first[j]:=List.getElem?_eq_getElem Y;rw [e1] at y;simp -implicitDefEqProofs [qdW,rj,O,V,E,z,qhw,h.kv.is,hl,c,encI,a.r7,d4,d5,hfi,hfl,S,Y,hu];exact go _ u _ ⟨by simp [a.r0],by simp [a.r4],by simp [a.r7]⟩ (by simp [V]) (by simp [O]) (by simp [rj]) (by simp) (by simp) hku y
  ·have S:¬(j:Int)<(r.first.length:Int):=by omega
   have e1:r.first[j]? =none:=List.getElem?_eq_none (by omega);rw [e1] at y;cases hm:r.more with
   |none=>
    have:=qvn _ _ hh.row hm;omega
   |some f=>
    rw [hm] at y;have hmo:=h.rc.more;rw [hm] at hmo;simp -implicitDefEqProofs [qdW,rj,O,V,E,z,qhw,h.kv.is,hl,c,encI,a.r7,d4,d5,hfi,hfl,S,Y];exact go _ mo f ⟨by simp [a.r0],by simp [a.r4],by simp [a.r7]⟩ (by simp [V]) (by simp [O]) (by simp [rj]) (by simp) (by simp) hmo y
 ·have E:¬(j:Int)<(x.nd.kids.length:Int):=by omega
  have hd0:x.nd.kids.drop j=[]:=List.drop_eq_nil_iff.2 (by omega);rw [hd0] at hb;have J:vh (xs.map (·.nd)) x.nd=b:=by simpa [qO] using hb
  simp -implicitDefEqProofs [qdW,rj,O,E,z];rw [←J];exact qvj hh h ⟨by simp [a.r0],by simp [a.r4],by simp [a.r7]⟩ h32 (by omega)
theorem qkg {num:Bool} (H:RtH xs x r) (h:RtS w W lv xs x X Rw nm vr ty nu fi mo r) (j:RtK ρ lv X Rw) (r8:ρ 8= .bool num) {b:Bool}
  (k:(qV x.nd.d.name r.name&&qV x.nd.d.vr r.vr&&qV x.nd.d.typ r.typ&&num&&(decide (r.least≤x.nd.kids.length)&&decide (x.nd.kids.length≤r.most))&&qO (xs.map (·.nd)) r 0 x.nd.kids&&vh (xs.map (·.nd)) x.nd)=b):
  qhy.wp ⟨Tryz.prog,178,xO,[]⟩ (qC [.tmp 6] (RB w b)) (je [.tmp 6] (RB w b)) ρ W:=by
 obtain ⟨c0,c1,c2,c3,c4,c5⟩:=h.cX;obtain ⟨O,Y,S,d3,d4,d5,U,d7⟩:=h.cR;have hl:=h.kl;have fin:∀(o:qa) (W2:World),qb W W2→o 95= .bool true→b=false→qdY.wp ⟨Tryz.prog,178,xO,[]⟩ (qC [.tmp 6] (RB w b)) (je [.tmp 6] (RB w b)) o W2:=by
  intro o W2 t Z V;subst V;simp -implicitDefEqProofs [qdY,Z,RB];exact h.ext.trans' t
 simp -implicitDefEqProofs [-jb,xI,xJ,xH,qhy,j.r4,j.r7,c1,O];refine qbg (.bool (qV x.nd.d.name r.name)) qis (fun w' a=> ?_) ?_
 ·simp;refine (qfQ (h.to a).g _ H.d.name (h.to a).rc.name).mono ?_;rintro _ w2 ⟨rfl,t⟩;exact ⟨rfl,a.trans' t⟩
 cases y:qV x.nd.d.name r.name with
 |false=>
  rw [y] at k;simp -implicitDefEqProofs [-jb,xI,xJ,xH];intro W2 c;exact fin _ W2 c (by simp) (by rw [←k];rfl)
 |true=>
 simp -implicitDefEqProofs [-jb,xI,xJ,xH,j.r4,j.r7,c2,Y];refine qbg (.bool (qV x.nd.d.vr r.vr)) qis (fun w' a=> ?_) ?_
 ·simp;refine (qfQ (h.to a).g _ H.d.vr (h.to a).rc.vr).mono ?_;rintro _ w2 ⟨rfl,t⟩;exact ⟨rfl,a.trans' t⟩
 cases E:qV x.nd.d.vr r.vr with
 |false=>
  rw [y,E] at k;simp -implicitDefEqProofs [-jb,xI,xJ,xH];intro W2 c;exact fin _ W2 c (by simp) (by rw [←k];rfl)
 |true=>
 simp -implicitDefEqProofs [-jb,xI,xJ,xH,j.r4,j.r7,c3,S];refine qbg (.bool (qV x.nd.d.typ r.typ)) qis (fun w' a=> ?_) ?_
 ·simp;refine (qfQ (h.to a).g _ H.d.typ (h.to a).rc.typ).mono ?_;rintro _ w2 ⟨rfl,t⟩;exact ⟨rfl,a.trans' t⟩
 cases I:qV x.nd.d.typ r.typ with
 |false=>
  rw [y,E,I] at k;simp -implicitDefEqProofs [-jb,xI,xJ,xH];intro W2 c;exact fin _ W2 c (by simp) (by rw [←k];rfl)
 |true=>
 cases num with
 |false=>
  rw [y,E,I] at k;simp -implicitDefEqProofs [-jb,xI,xJ,xH,r8];intro W2 c;exact fin _ W2 c (by simp) (by rw [←k];rfl)
 |true=>
 simp -implicitDefEqProofs [-jb,xI,xJ,xH,r8,j.r4,j.r7,c5,h.kv.is,hl,U,d7];refine qbg (.bool (decide (r.least≤x.nd.kids.length)&&decide (x.nd.kids.length≤r.most))) qDJ (fun w' a=> ?_) ?_
 ·simp;refine (qab w' _ _ _).mono ?_;rintro _ _ ⟨rfl,rfl⟩;refine ⟨?_,a⟩;simp
 cases z:(decide (r.least≤x.nd.kids.length)&&decide (x.nd.kids.length≤r.most)) with
 |false=>
  rw [y,E,I,z] at k;simp -implicitDefEqProofs [-jb,xI,xJ,xH];intro W2 c;exact fin _ W2 c (by simp) (by rw [←k];rfl)
 |true=>
  rw [y,E,I,z] at k;simp only [Bool.and_eq_true,decide_eq_true_eq] at z;simp -implicitDefEqProofs [-jb,xI,xJ,xH];intro W2 c;have J:(qO (xs.map (·.nd)) r 0 x.nd.kids&&vh (xs.map (·.nd)) x.nd)=b:=k;simp -implicitDefEqProofs [qdY];rw [←J];exact qvl H (h.to c) ⟨by simp [j.r0],by simp [j.r4],by simp [j.r7]⟩ z.1 z.2
theorem qvk (j:RtH xs x r) (h:RtS w W lv xs x X Rw nm vr ty nu fi mo r) (a:RtK ρ lv X Rw):
  qhx.wp ⟨Tryz.prog,178,xO,[]⟩ (qC [.tmp 6] (RB w (ja (xs.map (·.nd)) x.nd))) (je [.tmp 6] (RB w (ja (xs.map (·.nd)) x.nd))) ρ W:=by
 obtain ⟨c0,c1,c2,c3,c4,c5⟩:=h.cX;obtain ⟨S,Z,U,H,d4,O,V,d7⟩:=h.cR;generalize k:ja (xs.map (·.nd)) x.nd=b;unfold ja at k;rw [j.row] at k;simp -implicitDefEqProofs [qhx,a.r4,a.r7,c4,H];cases hn:r.n with
 |none=>
  have c:=h.rc.n;rw [hn] at c;cases c;refine qrW qrE (v:= .nilFunc) (by simp) (.inl rfl) ?_;simp -implicitDefEqProofs [wb];refine qkg (num:=decide (x.nd.d.n=0)) j h ⟨by simp [a.r0],by simp [a.r4],by simp [a.r7]⟩ (by simp;rw [Bool.eq_iff_iff];simp) ?_;simpa [hn] using k
 |some f=>
  have c:=h.rc.n;rw [hn] at c;obtain ⟨F,caps,rfl,z,E⟩:=xR.fn c;refine qrW qrE (v:=qG F caps) (by simp) (qs1 _ _) ?_;simp -implicitDefEqProofs [wb,qG];refine vF qBH (fun W'=>Blk W' X (qe x).toArray 44∧Blk W' Rw (vw nm vr ty (qG F caps) fi mo r) 241) fun w3 g _=>⟨⟨h.bX.ext g,h.bR.ext g⟩, ?_⟩;have y:=h.to g;have I:∀W',(Blk W' X (qe x).toArray 44∧Blk W' Rw (vw nm vr ty (qG F caps) fi mo r) 241)→W'.cell? ⟨X,4,none⟩=some (.int .i64 x.nd.d.n)∧W'.cell? ⟨Rw,3,none⟩=some (qG F caps):=fun W' j=>⟨by rw [j.1.cell];rfl,by rw [j.2.cell];rfl⟩;have o:Blk w3 X (qe x).toArray 44∧Blk w3 Rw (vw nm vr ty (qG F caps) fi mo r) 241:=⟨y.bX,y.bR⟩;simp+contextual -implicitDefEqProofs [qqw,I,o,a.r4,a.r7];refine x9 z (t:=45) (fs:= #[]) (caps:=caps) (by simp [qG]) ?_;simp -implicitDefEqProofs;refine (E w3 g x.nd.d.n).mono ?_;rintro _ Y ⟨rfl,J⟩;simp -implicitDefEqProofs;refine qkg (num:=f x.nd.d.n) j (y.to J) ⟨by simp [a.r0],by simp [a.r4],by simp [a.r7]⟩ (by simp) ?_;simpa [hn] using k
end
section
variable {w:World} {lv:Value} {xs:List NV} {x:NV} {A:Nat} {cs:List Value} {R:Ending→World→Prop}
theorem qwP (hG:L01.G w) (hM:zW w) (hR:Rd w lv xs) (hx:Cells w x.kv 1 (x.nd.kids.map encI)) (hd:DOk x.nd.d) (hds:∀y∈xs,DOk y.nd.d) (Z:xs.length≤400) (hin:∀k∈x.nd.kids,0≤k∧k<xs.length) (hA:Blk w A cs.toArray 175) (hT:wP w cs):
  Calls Tryz.prog 147 #[lv,jf x, .pointer (some ⟨A,0,none⟩)] w (RB w (ja (xs.map (·.nd)) x.nd)):=by
 generalize H:RB w (ja (xs.map (·.nd)) x.nd)=R;have I:=hd.kind;refine qBK fun ρ r0 r1 r2=> ?_;simp -implicitDefEqProofs [qqA];refine vz fun X w1 hX t J _=> ?_;rw [show qd ρ (.tmp 1)=jf x by simp [r1],zP hx.is] at J;simp -implicitDefEqProofs;refine vF qBJ (fun W=>Blk W X (qe x).toArray 44) fun w2 c _=>⟨J.ext c, ?_⟩;have z:=J.ext c;have V:=hA.ext (t.trans' c);have cX:∀W,Blk W X (qe x).toArray 44→W.cell? ⟨X,0,none⟩=some (.int .u8 (x.nd.d.kind:Int)):=fun W h=>by rw [h.cell];rfl
 by_cases hk:38≤x.nd.d.kind
 ·have E:(38:Int)≤(x.nd.d.kind:Int):=by omega
  simp+contextual -implicitDefEqProofs [qhr,cX,z,k8 I,E,r2,qdX];rw [←H];refine ⟨?_,t.trans' c⟩;simp [ja,qvp hk]
 ·have E:¬(38:Int)≤(x.nd.d.kind:Int):=by omega
  obtain ⟨inf,aa,U⟩:=qCr;simp+contextual -implicitDefEqProofs [qhr,cX,z,k8 I,E,r2];refine qec qiW aa U (B:=A) (o:=0) (k:=x.nd.d.kind) (by simp) (by simp;rfl) (by omega) ?_;have ab:x.nd.d.kind<cs.length:=by rw [hT.1];omega
  have cA:∀W,Blk W A cs.toArray 175→W.cell? ⟨A,x.nd.d.kind,none⟩=some (cs.getD x.nd.d.kind undef):=fun W h=>by
   rw [h.cell,List.getD_eq_getElem?_getD,List.getElem?_eq_getElem ab];simp [ab]
  have g:=hT.2 x.nd.d.kind (by omega);simp -implicitDefEqProofs [cA w2 V];cases hr:vY x.nd.d.kind with
  |none=>
   rw [hr] at g;have e:cs.getD x.nd.d.kind undef= .pointer none:=g;refine qrX qiX (p:=none) (by simp;simpa using e) ?_;simp -implicitDefEqProofs [qdX];rw [←H];refine ⟨?_,t.trans' c⟩;simp [ja,hr]
  |some r=>
   rw [hr] at g;obtain ⟨Rw,nm,vr,ty,nu,fi,mo,e,hbR,hRC⟩:=g;refine qrX qiX (p:=some ⟨Rw,0,none⟩) (by simp;simpa using e) ?_;simp -implicitDefEqProofs [qdX,qqz];refine vF qBI (fun W=>Blk W X (qe x).toArray 44) fun w3 j _=>⟨z.ext j, ?_⟩;have O:=z.ext j;have hA3:=V.ext j;simp+contextual -implicitDefEqProofs [qqx,cX,O,k8 I,E,r2];refine qec qiW aa U (B:=A) (o:=0) (k:=x.nd.d.kind) (by simp) (by simp;rfl) (by omega) ?_;have S:=cA w3 hA3;rw [e] at S;have Y:=hbR.ext (((t.trans' c).trans' j));have a:=(t.trans' c).trans' j;simp -implicitDefEqProofs [S];rw [←H];exact qvk ⟨hd,hds,Z,hin,hr⟩ ⟨a,hR.ext a,O,Y,hRC.at' (qz.ext a),hx.ext a,hG.ext a,hM.ext a⟩ ⟨by simp [r0],by simp,by simp⟩
end
@[simp] theorem qDK:qg Tryz.prog 50=true:=by kernel_rfl
@[simp] theorem qHM:qg Tryz.prog 26=true:=by kernel_rfl
theorem qw5 {w:World} {a b:Value} {xs ys:List Int} (H:Cells w a 1 (xs.map encI)) (O:Cells w b 1 (ys.map encI)) (hbd:xs.length<4611686018427387904):Calls Tryz.prog 50 #[a,b] w fun e w'=>e= .returned (.bool (decide (xs=ys)))∧qb w w':=by
 have h:qk a=xs.length:=by simpa using H.len.symm
 have t:qk b=ys.length:=by simpa using O.len.symm
 refine qzg fun ρ r0 r1=> ?_;simp -implicitDefEqProofs [qnl,r0,r1,H.is,O.is,h,t];by_cases z:xs.length=ys.length
 ·simp -implicitDefEqProofs [z,qnh,r0,H.is,h];obtain ⟨I,S⟩:∃I:Nat→qa→World→Prop,∀j c w',I j c w'↔(c 0=a∧c 1=b∧c 12= .int .i64 (ys.length:Int)∧qb w w'∧xs.take j=ys.take j):=⟨_,fun _ _ _=>Iff.rfl⟩;refine js 13 ys.length I (by simp) ((S _ _ _).2 ⟨by simp [r0],by simp [r1],by simp,qA _,by simp⟩) ?_;rintro j c w' hj V U;obtain ⟨r0,r1,o,y,k⟩:=(S _ _ _).1 U;have Y:IntKind.i64.wrap ((j:Int)+1)=(j:Int)+1:=qr (by omega);by_cases g:j<ys.length
  ·have Z:=(H.ext y).cell j (by simpa [z] using g);have cb:=(O.ext y).cell j (by simpa using g);simp only [List.getElem_map,encI] at Z cb;simp -implicitDefEqProofs [qgv,V,o,g,qnj,r0,r1,H.is,h,O.is,t,z,Z,cb];intro w2 E;by_cases J:xs[j]=ys[j]
   ·simp -implicitDefEqProofs [qgw,qnk,J,V,Y];refine (S _ _ _).2 ⟨by simp [r0],by simp [r1],by simp [o],y.trans' E, ?_⟩;rw [List.take_succ_eq_append_getElem (by omega),List.take_succ_eq_append_getElem (by omega),k,J]
   ·simp -implicitDefEqProofs [qgw,J];exact ⟨fun e=>J (by simp [e]),y.trans' E⟩
  ·simp -implicitDefEqProofs [qgv,V,o,g,qni];refine ⟨?_,y⟩;rw [List.take_of_length_le (by omega),List.take_of_length_le (by omega)] at k;exact k
 ·simp -implicitDefEqProofs [z];exact ⟨fun e=>z (by rw [e]),qA _⟩
theorem qxs {base e:Nat} {w:World} {v:Value} {xs:List Value} (h:Own base e 1 w v xs) (l:Nat) (o:l≤xs.length):Own base e 1 w (qR v 1 0 l l) (xs.take l):=by
 rcases h with ⟨rfl,rfl⟩|⟨g,off,n,cap,cur,rfl,k,j,a,t,y,z,c⟩
 ·have:l=0:=by simpa using o
  subst this;exact .inl ⟨by simp [qR],rfl⟩
 ·have hn:n=xs.length:=by omega
  have es:qR (.slice (some ⟨g,off,none⟩) n cap) 1 0 l l= .slice (some ⟨g,off,none⟩) l l:=by
   simp [qR]
  rw [es];refine .inr ⟨g,off,l,l,cur,rfl,k,j,by simp;omega,Nat.le_refl _,by omega,by omega, ?_⟩;rw [←c,List.take_take];congr 1;omega
def wy:Option (List Int)→Bool|some o=>decide (o.length=1)|none=>false
theorem wk:vL Tryz.prog 44=some #[.int .u8 0, .string ⟨#[]⟩, .string ⟨#[]⟩, .string ⟨#[]⟩, .int .i64 0, .slice none 0 0]:=by kernel_rfl
theorem qk6 {w:World} {lv:Value} {xs:List NV} (hR:Rd w lv xs) (hlen:xs.length≤1000000) (hkl:∀x∈xs,x.nd.kids.length≤1000000):Calls Tryz.prog 98 #[lv] w fun e w'=>e= .returned (.bool (jW (xs.map (·.nd))))∧qb w w':=by
 have hl:=hR.len;have his:=hR.cells.is;generalize U:vl (xs.map (·.nd)) 0 []=b;have hp:jW (xs.map (·.nd))=wy b:=by unfold jW;rw [U];cases b<;>rfl
 rw [hp];clear hp;refine qyC fun ρ r0=> ?_;simp -implicitDefEqProofs [qmj,r0,his,hl];generalize aa:(fun (e:Ending) (w':World)=>e= .returned (.bool (wy b))∧qb w w')=R;obtain ⟨I,hI⟩:∃I:Nat→qa→World→Prop,∀j k w',I j k w'↔(k 7=lv∧k 8= .int .i64 (xs.length:Int)∧∃os:List Int,Own w.heap.size 3 1 w' (k 3) (os.map encI)∧os.length≤j∧qb w w'∧vl ((xs.drop j).map (·.nd)) j os=b):=⟨_,fun _ _ _=>Iff.rfl⟩;refine js 9 xs.length I (by simp) ((hI _ _ _).2 ⟨by simp,by simp,[],by simpa using Own.nil _ _ _ _,Nat.le_refl _,qA _,U⟩) ?_;clear U r0;rintro j k w' hj rj hIw;obtain ⟨r7,r8,os,O,hol,hE,U⟩:=(hI _ _ _).1 hIw;have Y:=hR.ext hE;generalize S:k 3=v3 at O;have z:=O.isl;have hoc:=L01.jO O;have E:qk v3=os.length:=by simpa using hoc.len.symm
 have hwj:IntKind.i64.wrap ((j:Int)+1)=(j:Int)+1:=qr (by omega);by_cases o:j<xs.length
 ·rw [List.drop_eq_getElem_cons o] at U;have V:=Y.row o;have hk:=Y.kids xs[j] (List.getElem_mem _);have hkL:qk xs[j].kv=xs[j].nd.kids.length:=by simpa using hk.len.symm
  have hklj:=hkl xs[j] (List.getElem_mem _);have H:=jR hk.is;have hko:=vI hk.is;generalize xs[j]=x at V hk hkL hklj H hko U;have a:(if x.nd.kids.length≤os.length∧os.drop (os.length - x.nd.kids.length)=x.nd.kids then vl ((xs.drop (j+1)).map (·.nd)) (j+1) (os.take (os.length - x.nd.kids.length)++[(j:Int)]) else none)=b:=U;have y:(j:Int)<(xs.length:Int):=by omega
  simp -implicitDefEqProofs [qgl,rj,r8,y,o,qmg,r7,Y.cells.is,hl,V];refine qT wk fun X w1 hX hE1 hb1 _=> ?_;simp -implicitDefEqProofs;refine jn (B:=X) (by simp) hb1 (by simp [Value.cells,qe,H]) (by simp [Value.cells,qe,H,hko]) (by simpa [Value.cells,qe,H] using wv) fun w2 hO2 hb2=> ?_;simp -implicitDefEqProofs [Value.cells,qe,H] at hb2;have g:qb w' w2:=hO2.ext hE1 hX;have c5:w2.cell? ⟨X,5,none⟩=some x.kv:=by rw [hb2.cell];rfl
  have hw:IntKind.i64.wrap ((os.length:Int) - (x.nd.kids.length:Int))=(os.length:Int) - (x.nd.kids.length:Int):=qr (by omega);simp -implicitDefEqProofs [-jb,xI,xJ,xH,S,z,E,c5,hk.is,hkL,hw];by_cases t:x.nd.kids.length≤os.length
  ·have hn:¬((os.length:Int) - (x.nd.kids.length:Int)<0):=by omega
   have hn0:(0:Int)≤(os.length:Int) - (x.nd.kids.length:Int):=by omega
   have hn1:(os.length:Int) - (x.nd.kids.length:Int)≤(os.length:Int):=by omega
   have hnn:((os.length:Int) - (x.nd.kids.length:Int)).toNat=os.length - x.nd.kids.length:=by omega
   simp -implicitDefEqProofs [-jb,xI,xJ,xH,t,hn,S,z,E,hn0,hn1,hnn,c5];refine qbg (.bool (decide (os.drop (os.length - x.nd.kids.length)=x.nd.kids))) qDK (fun w3 ab=> ?_) ?_
   ·simp;have hd:=qir (hoc.ext (g.trans' ab)) (os.length - x.nd.kids.length) (by simp);rw [E,←List.map_drop] at hd;refine (qw5 hd (hk.ext (g.trans' ab)) (by simp;omega)).mono ?_;rintro _ w4 ⟨rfl,J⟩;exact ⟨rfl,ab.trans' J⟩
   by_cases he:os.drop (os.length - x.nd.kids.length)=x.nd.kids
   ·rw [if_pos ⟨t,he⟩] at a;simp -implicitDefEqProofs [-jb,xI,xJ,xH,he];intro w3 c;have hE03:=(hE.trans' g).trans' c;have ho3:=qxs ((O.ext g).ext c) (os.length - x.nd.kids.length) (by simp);have hcap:=yV z;rw [E] at hcap;have hn2:(os.length:Int) - (x.nd.kids.length:Int)≤(qo v3:Int):=by omega
    simp -implicitDefEqProofs [qdt,qmi,S,z,t,hn0,hnn,hn2];refine jz yB (by decide) (by decide) (by simp [Value.cells]) fun Z w4 hZ J hb4 _=> ?_;simp -implicitDefEqProofs [Value.cells] at hb4⊢;refine ku yG (W0:=w) (hE03.trans' J) (sv:=qR v3 1 0 (os.length - x.nd.kids.length) (os.length - x.nd.kids.length)) (xv:= .slice (some ⟨Z,0,none⟩) 1 1) (by simp) (by simp) (ho3.ext J) (Blk.cells (cs:=[encI (j:Int)]) (by simpa [encI] using hb4) rfl) (by simp [encI,Value.oneCell']) (by simp;omega) (by simp;omega) fun v' w5 hE5 ho5 _ _=> ?_;simp -implicitDefEqProofs [qmh,rj,hwj,o];exact (hI _ _ _).2 ⟨by simp [r7],by simp [r8],os.take (os.length - x.nd.kids.length)++[(j:Int)],by simpa [List.map_take] using ho5,by simp;omega,hE5,a⟩
   ·rw [if_neg (fun h=>he h.2)] at a;subst a;simp -implicitDefEqProofs [-jb,xI,xJ,xH,he];intro w3 c;simp -implicitDefEqProofs [qdt];rw [←aa];exact ⟨rfl,(hE.trans' g).trans' c⟩
  ·rw [if_neg (fun h=>t h.1)] at a;subst a;have hn:((os.length:Int) - (x.nd.kids.length:Int)<0):=by omega
   simp -implicitDefEqProofs [-jb,xI,xJ,xH,hn,t];intro w3 c;simp -implicitDefEqProofs [qdt];rw [←aa];exact ⟨rfl,(hE.trans' g).trans' c⟩
 ·have hd0:xs.drop j=[]:=List.drop_eq_nil_iff.2 (by omega);rw [hd0] at U;have a:some os=b:=U;subst a;have y:¬(j:Int)<(xs.length:Int):=by omega
  simp -implicitDefEqProofs [qgl,rj,r8,y,o,qmf,S,z,E];rw [←aa];refine ⟨?_,hE⟩;simp only [wy];congr 2;rw [Bool.eq_iff_iff];simp;omega
theorem qw3 {w:World} {lv:Value} {xs:List NV} (V:Rd w lv xs) (Z:xs.length≤1000000) {F:FuncId} {caps:Array Value} (U:qg Tryz.prog F=true) {p:NV→Bool} (hc:∀W,qb w W→∀x∈xs,Calls Tryz.prog F (#[jf x]++caps) W fun e w'=>e= .returned (.bool (p x))∧qb W w'):
  Calls Tryz.prog 224 #[lv,qG F caps] w fun e w'=>∃n:Int,e= .returned (.int .i64 n)∧decide (0≤n)=xs.any p∧qb w w':=by
 have hl:=V.len;refine qAE fun ρ r0 r1=> ?_;simp -implicitDefEqProofs [qpi,r0,V.cells.is,hl];generalize y:(fun (e:Ending) (w':World)=>∃n:Int,e= .returned (.int .i64 n)∧decide (0≤n)=xs.any p∧qb w w')=R;obtain ⟨I,H⟩:∃I:Nat→qa→World→Prop,∀j h w',I j h w'↔(h 0=lv∧h 1=qG F caps∧h 7= .int .i64 (xs.length:Int)∧qb w w'∧(xs.take j).any p=false):=⟨_,fun _ _ _=>Iff.rfl⟩;refine js 8 xs.length I (by simp) ((H _ _ _).2 ⟨by simp [r0],by simp [r1],by simp,qA _,by simp⟩) ?_;clear r0 r1;rintro j h w' hj O J;obtain ⟨r0,r1,r7,z,g⟩:=(H _ _ _).1 J;have S:IntKind.i64.wrap ((j:Int)+1)=(j:Int)+1:=qr (by omega);have k:=V.ext z;by_cases a:j<xs.length
 ·have c:(j:Int)<(xs.length:Int):=by omega
  have o:=k.row a;simp -implicitDefEqProofs [qg2,O,r7,c,a,qpg,r0,r1,k.cells.is,hl,o];refine x9 U (t:=11) (fs:= #[]) (caps:=caps) (by simp [qG]) ?_;simp -implicitDefEqProofs;refine (hc w' z xs[j] (List.getElem_mem _)).mono ?_;rintro _ w2 ⟨rfl,E⟩;cases Y:p xs[j] with
  |true=>
   simp -implicitDefEqProofs;rw [←y];refine ⟨j,rfl, ?_,z.trans' E⟩;rw [List.any_eq_true.2 ⟨xs[j],List.getElem_mem _,Y⟩];simp
  |false=>
   simp -implicitDefEqProofs [qph,O,S,a];refine (H _ _ _).2 ⟨by simp [r0],by simp [r1],by simp [r7],z.trans' E, ?_⟩;rw [List.take_succ_eq_append_getElem a,List.any_append,g];simp [Y]
 ·have c:¬(j:Int)<(xs.length:Int):=by omega
  rw [List.take_of_length_le (by omega)] at g;simp -implicitDefEqProofs [qg2,O,r7,c,a,qpf];rw [←y];exact ⟨-1,rfl,by rw [g];rfl,z⟩
theorem qw7 {w:World} {lv:Value} {xs:List NV} (j:Rd w lv xs) (a:xs.length≤1000000) {F:FuncId} {caps:Array Value} (c:qg Tryz.prog F=true) {p:NV→Bool} (g:∀W,qb w W→∀x∈xs,Calls Tryz.prog F (#[jf x]++caps) W fun e w'=>e= .returned (.bool (p x))∧qb W w'):
  Calls Tryz.prog 145 #[lv,qG F caps] w fun e w'=>e= .returned (.bool (xs.any p))∧qb w w':=by
 refine qBN fun ρ r0 r1=> ?_;simp -implicitDefEqProofs [qqC,r0,r1];refine (qw3 j a c g).mono ?_;rintro _ w2 ⟨n,rfl,hn,h⟩;simp -implicitDefEqProofs;exact ⟨hn,h⟩
theorem qk0:∀(l:List Nd) (i:Nat) (o:List Int),(∀k∈o,0≤k∧k<i)→vl l i o≠none→∀x∈l,∀k∈x.kids,0≤k∧k<i+l.length
 |[],_,_,_,_,x,c,_,_=>by cases c
 |y::l,i,o,g,h,x,c,k,a=>by
  rw [qco] at h;split at h
  ·rename_i j;rcases List.mem_cons.1 c with rfl|c
   ·rw [←j.2] at a;have:=g k (List.mem_of_mem_drop a);simp;omega
   ·have:=qk0 l (i+1) _ (fun k a=>by
     rcases List.mem_append.1 a with a|a
     ·have:=g k (List.mem_of_mem_take a);omega
     ·rw [List.mem_singleton.1 a];omega) h x c k a
    simp;omega
  ·exact absurd rfl h
theorem qcU {l:List Nd} (h:jW l=true):∀x∈l,∀k∈x.kids,0≤k∧k<(l.length:Int):=by
 intro x g k c;have a:vl l 0 []≠none:=fun e=>by unfold jW at h;rw [e] at h;cases h
 have:=qk0 l 0 [] (by simp) a x g k c;omega
theorem qwO {w:World} {lv:Value} {xs:List NV} {x:NV} {A Lb:Nat} {cs:List Value} (Y:L01.G w) (O:zW w) (H:Rd w lv xs) (z:Blk w Lb #[lv] 29) (E:x∈xs) (h:∀y∈xs,DOk y.nd.d) (o:xs.length≤400) (U:jW (xs.map (·.nd))=true) (V:Blk w A cs.toArray 175) (I:wP w cs):
  Calls Tryz.prog 146 #[jf x, .pointer (some ⟨Lb,0,none⟩), .pointer (some ⟨A,0,none⟩)] w fun e w'=>e= .returned (.bool (!ja (xs.map (·.nd)) x.nd))∧qb w w':=by
 have g:=H.kids x E;refine qBL fun ρ r0 r1 r2=> ?_;simp -implicitDefEqProofs [qqB];refine vz fun X w1 Z a j _=> ?_;rw [show qd ρ (.tmp 0)=jf x by simp [r0],zP g.is] at j;have J:w1.cell? ⟨Lb,0,none⟩=some lv:=by rw [(z.ext a).cell];rfl
 have c:Eng.jk w1 ⟨X,0,none⟩ 0 6=some (qe x):=by
  have:=xr j;simpa [qe] using this
 simp -implicitDefEqProofs [r1,r2,J,c];refine (qwP (Y.ext a) (O.ext a) (H.ext a) (g.ext a) (h x E) h o (fun k S=> ?_) (V.ext a) (I.at' (qz.ext a))).mono ?_
 ·have:=qcU U x.nd (List.mem_map.2 ⟨x,E,rfl⟩) k S;simpa using this
 rintro _ w2 ⟨rfl,t⟩;simp -implicitDefEqProofs;exact a.trans' t
theorem wP.cells {w:World} {cs:List Value} (g:wP w cs):∀c∈cs,c.cells= #[c]∧c.oneCell=true:=fun c o=>by
 obtain ⟨k,h,rfl⟩:=List.mem_iff_getElem.1 o;have a:=g.2 k (by rw [←g.1];exact h);rw [List.getD_eq_getElem?_getD,List.getElem?_eq_getElem h] at a;simp only [Option.getD_some] at a;generalize cs[k]=c at a;cases j:vY k with
 |none=>rw [j] at a;cases a;exact ⟨rfl,rfl⟩
 |some r=>
  rw [j] at a;obtain ⟨X,_,_,_,_,_,_,rfl,_⟩:=a;exact ⟨rfl,rfl⟩
theorem qk5 {w:World} {lv rv:Value} {xs:List NV} {root:Nat→Bool} (hG:L01.G w) (hM:zW w) (hR:Rd w lv xs) (hds:∀y∈xs,DOk y.nd.d) (hkl:∀x∈xs,x.nd.kids.length≤1000000) (hr:vB w rv root):
  Calls Tryz.prog 64 #[lv,rv] w fun e w'=>e= .returned (.bool (whole (xs.map (·.nd)) root))∧qb w w':=by
 have hl:=hR.len;have Y:=hR.cells.is;obtain ⟨F,caps,hrv,hcb,hc⟩:=hr.fn;refine qy9 fun ρ r0 r1=> ?_;simp -implicitDefEqProofs [qm7];refine vz fun B w1 hB hE1 hb1 _=> ?_;have O:Blk w1 B #[lv] 29:=by simpa [r0,jR Y] using hb1
 have cB:∀W,qb w1 W→W.cell? ⟨B,0,none⟩=some lv:=fun W hE=>by rw [(O.ext hE).cell];rfl
 simp -implicitDefEqProofs [cB w1 (qA _),Y,hl];refine (qab w1 _ 1 400).mono ?_;rintro _ w1' ⟨rfl,hw1⟩;obtain rfl:=hw1.symm;generalize o:whole (xs.map (·.nd)) root=b;unfold whole at o;rw [List.length_map] at o;have hin:((decide (1≤(xs.length:Int))&&decide ((xs.length:Int)≤400)):Bool)=(decide (1≤xs.length)&&decide (xs.length≤400)):=by
  congr 1<;>exact decide_eq_decide.2 (by omega)
 cases Z:(decide (1≤xs.length)&&decide (xs.length≤400)) with
 |false=>
  rw [Z] at o hin;subst o;simp -implicitDefEqProofs [hin];exact hE1
 |true=>
 rw [Z] at hin;have h:=Z;simp only [Bool.and_eq_true,decide_eq_true_eq] at h;rw [h.1|>decide_eq_true,h.2|>decide_eq_true] at o;simp -implicitDefEqProofs [hin,cB w1 (qA _)];refine (qk6 (hR.ext hE1) (by omega) hkl).mono ?_;rintro _ w2 ⟨rfl,z⟩;have j:=hE1.trans' z;cases hp:jW (xs.map (·.nd)) with
 |false=>
  rw [hp] at o;have U:b=false:=by rw [←o];rfl
  subst U;simp -implicitDefEqProofs;exact j
 |true=>
 rw [hp] at o;have hrow:=(hR.ext j).row (k:=xs.length - 1) (by omega);have hwl:IntKind.i64.wrap ((xs.length:Int) - 1)=((xs.length - 1:Nat):Int):=by rw [qr (by omega)];omega
 have hltl:((xs.length - 1:Nat):Int)<(xs.length:Int):=by omega
 have a:xs.length - 1<xs.length:=by omega
 simp -implicitDefEqProofs [r1,hrv,cB w2 z,Y,hl,hwl,hltl,a,hrow];refine x9 hcb (t:=16) (fs:= #[]) (caps:=caps) (by simp [qG]) ?_;simp -implicitDefEqProofs;have I:=List.getElem_mem a;refine (hc w2 j xs[xs.length - 1] (hR.kids _ I).is (hds _ I).kind).mono ?_;rintro _ w3 ⟨rfl,V⟩;have J:=j.trans' V;have hrk:xY (xs.map (·.nd))=(xs[xs.length - 1]'a).nd.d.kind:=by
  unfold xY;rw [List.getLast?_eq_getElem?,List.length_map,List.getElem?_map,List.getElem?_eq_getElem a];rfl
 cases hro:root (xs[xs.length - 1]'a).nd.d.kind with
 |false=>
  rw [hrk,hro] at o;have U:b=false:=by rw [←o];rfl
  subst U;simp -implicitDefEqProofs;exact J
 |true=>
 rw [hrk,hro] at o;simp -implicitDefEqProofs [qm6];refine qwN.mono ?_;rintro _ w4 ⟨cs,rfl,hT,hE4⟩;simp -implicitDefEqProofs;refine qT qiJ fun A w5 hA hE5 hbA _=> ?_;simp -implicitDefEqProofs;have S:=hT.cells;have H:=qsW fun c hc=>(S c hc).1;refine jn (B:=A) (by simp) hbA (by simp [H,hT.1]) ?_ (by simp [H,hT.1];kernel_rfl) fun w6 hO6 hb6=> ?_
 ·simp only [qd,qm,qt];simpa [H] using fun c hc=>(S c hc).2
 have hb6':Blk w6 A cs.toArray 175:=by simpa [H] using hb6
 have E:qb w4 w6:=hO6.ext hE5 hA;have g:=(J.trans' hE4).trans' E;have cB6:=cB w6 (((z.trans' V).trans' hE4).trans' E);have hB6:=O.ext (((z.trans' V).trans' hE4).trans' E);simp -implicitDefEqProofs [cB6];refine (qw7 (p:=fun y=> !ja (xs.map (·.nd)) y.nd) (F:=146) (caps:= #[.pointer (some ⟨B,0,none⟩), .pointer (some ⟨A,0,none⟩)]) (hR.ext g) (by omega) (by kernel_rfl) fun W hW y hy=> ?_).mono ?_
 ·simpa using qwO (hG.ext (g.trans' hW)) (hM.ext (g.trans' hW)) (hR.ext (g.trans' hW)) (hB6.ext hW) hy hds h.2 hp (hb6'.ext hW) (hT.at' (qz.ext (E.trans' hW)))
 rintro _ w7 ⟨rfl,hE7⟩;simp -implicitDefEqProofs;refine ⟨?_,g.trans' hE7⟩;rw [←o];simp [List.all_map,Function.comp_def];rw [List.any_eq_not_all_not];simp
theorem qlf {w:World} {lv:Value} {xs:List NV} (k:L01.G w) (h:zW w) (j:Rd w lv xs) (c:∀y∈xs,DOk y.nd.d) (a:∀x∈xs,x.nd.kids.length≤1000000):
  Calls Tryz.prog 26 #[lv] w fun e w'=>e= .returned (.int .i64 (if zR (xs.map (·.nd)) then 0 else 21))∧qb w w':=by
 refine qzS fun ρ r0=> ?_;simp -implicitDefEqProofs [qol,r0];refine (qk5 k h j c a (qgg (w:=w))).mono ?_;rintro _ w2 ⟨rfl,g⟩;unfold zR;cases whole (xs.map (·.nd)) (qp 20) with
 |false=>
  simp -implicitDefEqProofs;exact g
 |true=>
  simp -implicitDefEqProofs [qn9];exact g
end Go.L02
namespace Go.L02
open Go.Eng
open Go.L01 (Bs Tok)
def Sh (s:Bs):Prop:=s.length≤1000000
structure DS (d:D):Prop where
 kind:d.kind≤37
 name:Sh d.name
 vr:Sh d.vr
 typ:Sh d.typ
inductive TOk:T→Prop
 |mk {d:D} {ks:List T}:DS d→(∀t∈ks,TOk t)→TOk (T.mk d ks)
section
variable {L:List Tok} {α β:Type} {P:α→Prop} {Q:β→Prop}
end
section
variable {L:List Tok} (hL:wK L) (hn:L.length≤20000)
def qsZ (l:List T):Prop:=∀t∈l,TOk t
theorem tok {d:D} {ks:List T} (h:DS d) (a:qsZ ks):TOk (T.mk d ks):= .mk h a
theorem TOk.ks {t:T} (h:TOk t):qsZ t.kids:=by cases h with|mk c a=>exact a
theorem TOk.ds {t:T} (h:TOk t):DS t.d:=by cases h with|mk a c=>exact a
section
variable {e b s:M T} {p:M (T×Nat)}
end
mutual
theorem qdj:∀(t:T) (b:Nat),∀x∈t.flat b,x.kids.length<t.size
 | .mk d ks,b,x,a=>by
  simp only [T.flat,List.mem_append,List.mem_singleton] at a;rcases a with a|rfl
  ·have:=kids_flats ks b x a;simp only [T.size];omega
  ·have:(qx b ks).length≤sizes ks:=roots_sizes ks b;simp only [T.size];omega
theorem kids_flats:∀(c:List T) (b:Nat),∀x∈flats b c,x.kids.length<sizes c
 |[],_,x,a=>by simp [flats] at a
 |t::c,b,x,a=>by
  simp only [flats,List.mem_append] at a;simp only [sizes];rcases a with a|a
  ·have:=qdj t b x a;omega
  ·have:=kids_flats c _ x a;omega
theorem roots_sizes:∀(a:List T) (b:Nat),(qx b a).length≤sizes a
 |[],_=>by simp [qx]
 |t::a,b=>by
  have:=roots_sizes a (b+t.size);have:=t.size_pos;simp only [qx,sizes,List.length_cons];omega
end
end
end Go.L02
namespace Go.L02
open Go Go.Eng Go.RowKit
open Go.Proofs hiding encI
open Go.L01 (Bd Bs Own.same Q4 SlK Tok fV jB jC jD jX jm jx qB qK qQ qi qu vo vp)
set_option maxRecDepth 100000
set_option maxHeartbeats 2000000
def Src (L:List Tok) (n:Nat) (m:Mod):Prop:=∃i f j g,qxF L n i f= .ok m j g∧j≤L.length
structure PaS (L:List Tok) (n:Nat) (B P Lv Ln Ou:Nat) (w:World) (tv:Value) (i f:Nat) (nv lv rv:Value) (xs:List NV) (css:List (List Value)) (ls:List Int) (ms:List Mod) (w':World):Prop where
 st:PSt B B w' tv nv L i f xs
 ln:xs.length≤2*i+2
 sp:zU lv xs
 bP:Blk w' P #[.pointer (some ⟨B,0,none⟩)] 83
 bL:Blk w' Lv #[tv] 48
 bN:Blk w' Ln #[lv] 40
 bO:Blk w' Ou #[rv] 23
 ol:Own w.heap.size 3 1 w' lv (ls.map encI)
 oo:Own w.heap.size 66 7 w' rv css.flatten
 all:vt (ym (xE (fun k=>lv.ownBlock≠some k) w' nv xs) w') css ms
 sm:qz (fun k T=>qeO k T∧k<w.heap.size) w w'
 bl:Below B w w'
 src:∀m∈ms,Src L n m
section
variable {L:List Tok} {n B P Lv Ln Ou:Nat} {w w1 w2 w3:World} {tv nv lv lv' rv rv':Value} {i f:Nat} {xs:List NV} {css:List (List Value)} {ls:List Int} {ms:List Mod}
theorem PaS.ext (h:PaS L n B P Lv Ln Ou w tv i f nv lv rv xs css ls ms w1) (a:qb w1 w2):PaS L n B P Lv Ln Ou w tv i f nv lv rv xs css ls ms w2:=by
 have c:qz (fun _ _=>True) w1 w2:=qz.ext a;refine ⟨h.st.ext a,h.ln,h.sp,h.bP.ext a,h.bL.ext a,h.bN.ext a,h.bO.ext a,h.ol.ext a,h.oo.ext a, ?_,h.sm.trans (qz.ext a),h.bl.trans (qhQ a (Nat.le_of_lt h.st.blk.lt)),h.src⟩;exact h.all.imp fun _ _ h=>h.at' c (fun _=>trivial) (fun _=>trivial) (fun _=>trivial) (fun _=>trivial) fun _ _ h=>h.at' c (fun _=>trivial) fun _ _=>trivial
theorem PaS.line (h:PaS L n B P Lv Ln Ou w tv i f nv lv rv xs css ls ms w1) {x:Int} (t:w1.grownBy w2 lv.ownBlock) (V:Own w.heap.size 3 1 w2 lv' ((ls++[x]).map encI)) (S:lv'.ownBlock=lv.ownBlock∨lv'.ownBlock=some w1.heap.size) (U:B≤Ln) (hw:B≤w.heap.size) (E:Only Ln w2 w3) (Y:Blk w3 Ln #[lv'] 40):
  PaS L n B P Lv Ln Ou w tv i f nv lv' rv xs css (ls++[x]) ms w3:=by
 have c:=qz.grown h.ol t;have o:=h.bN.at' c (.inr (by decide));have a:=qz.only E o;have j:=h.st.kidLt;have J:∀k,k<w1.heap.size→lv.ownBlock≠some k→(lv.ownBlock≠some k∧lv'.ownBlock≠some k):=fun k g z=>⟨z,fun e=>by
  rcases S with H|H
  ·exact z (H▸e)
  ·rw [H] at e;cases e;omega⟩
 refine ⟨(h.st.grown h.ol t h.sp (by decide) (by decide) (by decide)).only (cs:= #[lv]) (T:=40) E (fun _=>o.heap) (by decide) (by decide) (by decide) (by decide),h.ln,fun y O k g=>(J k (j y O k g) (h.sp y O k g)).2,
  (h.bP.at' c (.inr (by decide))).at' a (.inr (by decide)),(h.bL.at' c (.inr (by decide))).at' a (.inr (by decide)),Y,(h.bO.at' c (.inr (by decide))).at' a (.inr (by decide)),
  V.at' a fun k _=> .inr (by decide),(h.oo.at' c fun k _=> .inr (by decide)).at' a fun k _=> .inr (by decide), ?_, ?_,(h.bl.trans (qCu (v:=lv) t (fun k g=>Nat.le_trans hw (h.ol.blk k g).1) (Nat.le_of_lt h.st.blk.lt))).trans (k9 E U),h.src⟩
 ·refine h.all.imp fun _ _ Z=> ?_;have z:ym (xE (fun k=>lv.ownBlock≠some k∧lv'.ownBlock≠some k) w2 nv xs) w2 _ _:=Z.at' c (fun _=> .inr (by decide)) (fun _=> .inr (by decide)) (fun _=> .inr (by decide)) (fun _=> .inr (by decide)) fun v l I=>
   (xE.mono (q':=fun k=>lv.ownBlock≠some k∧lv'.ownBlock≠some k) I j J).at2 c (fun k g=> .inl g.1) fun k _=> .inr (by decide)
  exact z.at' a (fun _=> .inr (by decide)) (fun _=> .inr (by decide)) (fun _=> .inr (by decide)) (fun _=> .inr (by decide)) fun v l I=>
   (I.mono (fun x hx k g=>Nat.lt_of_lt_of_le (j x hx k g) t.size) fun k _ g=>g.2).at2 a (fun k _=> .inr (by decide)) fun k _=> .inr (by decide)
 ·refine (h.sm.trans ((c.mono fun k T g=> ?_).trans (a.mono fun k T g=> ?_)))
  ·exact .inl fun e=>by have:=(h.ol.blk k e).1;have:=g.2;omega
  ·rcases g.1 with rfl|rfl|rfl<;>exact .inr (by decide)
end
def RdN (w:World) (v:Value) (l:List Nd):Prop:=∃xs:List NV,xs.map (·.nd)=l∧Rd w v xs
def RdO (w:World) (v:Value) (l:List Nd):Prop:=∃(xs:List NV) (b b':Nat),xs.map (·.nd)=l∧Own b 44 6 w v (qZ xs)∧∀x∈xs,Own b' 3 1 w x.kv (x.nd.kids.map encI)
theorem RdO.at' {w w':World} {v:Value} {l:List Nd} {p:Nat→TypeId→Prop} (h:RdO w v l) (c:qz p w w') (a:∀k,p k 44) (g:∀k,p k 3):RdO w' v l:=by
 obtain ⟨xs,b,j,t,y,o⟩:=h;exact ⟨xs,b,j,t,y.at' c fun k _=>a k,fun x z=>(o x z).at' c fun k _=>g k⟩
theorem RdO.ext {w w':World} {v:Value} {l:List Nd} (h:RdO w v l) (a:qb w w'):RdO w' v l:=by
 obtain ⟨xs,b,g,c,k,j⟩:=h;exact ⟨xs,b,g,c,k.ext a,fun x o=>(j x o).ext a⟩
def vA (l:List Nd):Prop:=(∀x∈l,DOk x.d)∧∀x∈l,x.kids.length≤1000000
theorem DS.ok {d:D} (h:DS d):DOk d:=by
 obtain ⟨j,g,c,a⟩:=h;unfold Sh at g c a;exact ⟨by omega,by omega,by omega,by omega⟩
theorem vA.ds {xs:List NV} {l:List Nd} (h:vA l) (e:xs.map (·.nd)=l):∀y∈xs,DOk y.nd.d:=fun y a=>h.1 y.nd (by rw [←e];exact List.mem_map.2 ⟨y,a,rfl⟩)
theorem vA.kl {xs:List NV} {l:List Nd} (h:vA l) (e:xs.map (·.nd)=l):∀y∈xs,y.nd.kids.length≤1000000:=fun y a=>h.2 y.nd (by rw [←e];exact List.mem_map.2 ⟨y,a,rfl⟩)
theorem qv2 {w:World} {v:Value} {b a:Nat} {xs:List NV} (h:Own b 44 6 w v (qZ xs)) (c:∀x∈xs,Own a 3 1 w x.kv (x.nd.kids.map encI)):Rd w v xs:=⟨L01.jO h,fun x g=>L01.jO (c x g)⟩
theorem qb5.more {B P:Nat} {tv:Value} {W w2:World} {ok:Bool} {g:Nat} {Ok:World→Prop} {e:Ending} {L:List Tok} {cs:Array Value} (o:∀w2,Ok w2→∃(i f:Nat) (nv:Value) (ys:List NV),PSt B B w2 tv nv L i f ys) (H:Blk W P cs 83) (h:qb5 B tv W ok g Ok e w2):
  qb5 B tv W ok g (fun w2=>Ok w2∧Blk w2 P cs 83∧(ok=false→g≤L.length)) e w2:=by
 obtain ⟨z,S,I⟩:=h;have k:=H.at' z (.inr (.inr rfl));refine ⟨z,S, ?_⟩;rcases I with ⟨a,b,c⟩|⟨a,b,j,t,y,O,c⟩
 ·exact .inl ⟨a,b,c,k,fun e=>by rw [a] at e;cases e⟩
 ·refine .inr ⟨a,b,j,t,y,O,c,k,fun _=> ?_⟩;obtain ⟨i,f,nv,ys,E⟩:=o w2 c;have e:=E.blk.heap;rw [y.heap] at e;simp only [Option.some.injEq,Obj.cells.injEq] at e;have J:=congrArg (fun a:Array Value=>a[2]?) e.1;simp at J;have:=E.fl;omega
end Go.L02
namespace Go.Eng
end Go.Eng
namespace Go.L02
open Go Go.Eng Go.RowKit
open Go.Proofs hiding encI
open Go.L01 (Bs Own.same Tok qK qQ qh qi)
set_option maxRecDepth 100000
set_option maxHeartbeats 2000000
def xf {α:Type} (sz:Nat) (C:List Value→α→Prop) (w:World) (v:Value) (l:List α):Prop:=∃css:List (List Value),Cells w v sz css.flatten∧vt C css l
def wi (w:World) (cs:List Value) (s:Sig):Prop:=∃av sv,cs=[.bool s.iter,av, .string (qc s.result),sv]∧Cells w av 1 (s.args.map qi)∧Cells w sv 1 (s.signals.map qi)
def Q8 (w:World) (cs:List Value) (n:Need):Prop:=∃c,cs= .string (qc n.op)::c∧wi w c n.sig
def Q7 (w:World) (cs:List Value) (o:Opn):Prop:=∃c,cs= .string (qc o.name)::c∧wi w c o.sig
def Q6 (w:World) (cs:List Value) (r:Rout):Prop:=∃c pv ndv,cs= .string (qc r.name)::(c++[pv,ndv])∧wi w c r.sig∧Cells w pv 1 (r.params.map qi)∧RdN w ndv r.nodes
def Q9 (w:World) (cs:List Value) (m:Mod):Prop:=∃needv opv rv,cs=[.string (qc m.face.name), .int .u8 (m.face.kind:Int), .bool m.face.param,needv,opv, .string (qc m.rep),rv]∧xf 5 (Q8 w) w needv m.face.needs∧xf 5 (Q7 w) w opv m.face.ops∧xf 7 (Q6 w) w rv m.routs
section
variable {w w':World} {cs:List Value} {v:Value}
theorem wi.ext {s:Sig} (h:wi w cs s) (a:qb w w'):wi w' cs s:=by
 obtain ⟨g,sv,e,c,j⟩:=h;exact ⟨g,sv,e,c.ext a,j.ext a⟩
theorem Q8.ext {s:Need} (h:Q8 w cs s) (g:qb w w'):Q8 w' cs s:=by
 obtain ⟨c,e,a⟩:=h;exact ⟨c,e,a.ext g⟩
theorem Q7.ext {s:Opn} (h:Q7 w cs s) (g:qb w w'):Q7 w' cs s:=by
 obtain ⟨c,e,a⟩:=h;exact ⟨c,e,a.ext g⟩
theorem RdN.ext {l:List Nd} (h:RdN w v l) (a:qb w w'):RdN w' v l:=by
 obtain ⟨xs,e,h⟩:=h;exact ⟨xs,e,h.ext a⟩
theorem Q6.ext {s:Rout} (h:Q6 w cs s) (g:qb w w'):Q6 w' cs s:=by
 obtain ⟨c,k,a,e,j,t,o⟩:=h;exact ⟨c,k,a,e,j.ext g,t.ext g,o.ext g⟩
theorem xf.ext {α:Type} {sz:Nat} {C C':List Value→α→Prop} {l:List α} (h:xf sz C w v l) (k:qb w w') (j:∀c a,C c a→C' c a):xf sz C' w' v l:=by
 obtain ⟨css,g,o⟩:=h;exact ⟨css,g.ext k,o.imp j⟩
theorem Q9.ext {m:Mod} (h:Q9 w cs m) (g:qb w w'):Q9 w' cs m:=by
 obtain ⟨a,b,c,e,j,o,k⟩:=h;exact ⟨a,b,c,e,j.ext g fun _ _ h=>h.ext g,o.ext g fun _ _ h=>h.ext g,k.ext g fun _ _ h=>h.ext g⟩
end
theorem wi.len {w:World} {cs:List Value} {s:Sig} (h:wi w cs s):cs.length=4:=by obtain ⟨a,sv,rfl,_⟩:=h;rfl
theorem wi.row {w:World} {cs:List Value} {s:Sig} (h:wi w cs s):∀c∈cs,c.cells= #[c]∧c.oneCell=true:=by
 obtain ⟨k,sv,rfl,a,j⟩:=h;intro c g;simp only [List.mem_cons,List.mem_nil_iff,or_false] at g;rcases g with rfl|rfl|rfl|rfl
 ·exact ⟨rfl,rfl⟩
 ·exact ⟨jR a.is,vI a.is⟩
 ·exact ⟨rfl,rfl⟩
 ·exact ⟨jR j.is,vI j.is⟩
theorem qrF {α:Type} {sz:Nat}:∀{css:List (List α)},(∀c∈css,c.length=sz)→∀{k j:Nat} (a:k<css.length),j<sz→css.flatten[k*sz+j]? =css[k][j]?
 |[],_,k,_,a,_=>by simp at a
 |c::css,h,k,j,a,o=>by
  have t:=h c (by simp);rw [List.flatten_cons];cases k with
  |zero=>rw [List.getElem?_append_left (by omega)];simp
  |succ k=>
   have e:(k+1)*sz+j=c.length+(k*sz+j):=by rw [Nat.succ_mul];omega
   rw [e,List.getElem?_append_right (by omega),Nat.add_sub_cancel_left];simpa using qrF (css:=css) (fun d g=>h d (by simp [g])) (k:=k) (by simpa using a) o
section
variable {α:Type} {sz:Nat} {C:List Value→α→Prop} {w:World} {v:Value} {l:List α}
theorem xf.is (h:xf sz C w v l):qn v=true:=by obtain ⟨css,a,_⟩:=h;exact a.is
theorem xf.len (h:xf sz C w v l) (t:∀c a,C c a→c.length=sz) (o:0<sz):qk v=l.length:=by
 obtain ⟨css,k,j⟩:=h;have y:=qhM (n:=sz) (vt.left (P:=fun c=>c.length=sz) t j);have g:=k.len;rw [y,j.len] at g;exact (Nat.eq_of_mul_eq_mul_right o g).symm
theorem xf.at (h:xf sz C w v l) (S:∀c a,C c a→c.length=sz) {k:Nat} (U:k<l.length):∃c,C c l[k]∧c.length=sz∧Eng.jk w (qJ v (k*sz)) 0 sz=some c∧∀j,j<sz→w.cell? (qJ v (k*sz+j))=c[j]? :=by
 obtain ⟨css,O,H⟩:=h;have g:=vt.left (P:=fun c=>c.length=sz) S H;have J:=H.len;have t:k<css.length:=by omega
 have o:∀j,j<sz→w.cell? (qJ v (k*sz+j))=css[k][j]? :=fun j E=>by
  have z:=qhM (n:=sz) g;have y:k*sz+j<css.flatten.length:=by
   rw [z];have:(k+1)*sz≤css.length*sz:=Nat.mul_le_mul_right _ t;rw [Nat.succ_mul] at this;omega
  rw [O.cell _ y,←List.getElem?_eq_getElem y,qrF g t E]
 refine ⟨css[k],H.get k t U,g _ (List.getElem_mem _), ?_,o⟩;have I:=g _ (List.getElem_mem t);have:=Qw (w:=w) (a:=qJ v (k*sz)) (l:=css[k]) (i:=0) fun j E=>by
  rw [qfc,Nat.zero_add,o j (by omega),List.getElem?_eq_getElem E]
 rw [I] at this;exact this
end
theorem Q8.len {w:World} {c:List Value} {n:Need} (h:Q8 w c n):c.length=5:=by obtain ⟨c,rfl,h⟩:=h;simp [h.len]
theorem Q7.len {w:World} {c:List Value} {n:Opn} (h:Q7 w c n):c.length=5:=by obtain ⟨c,rfl,h⟩:=h;simp [h.len]
theorem Q6.len {w:World} {c:List Value} {n:Rout} (h:Q6 w c n):c.length=7:=by obtain ⟨c,g,a,rfl,h,_⟩:=h;simp [h.len]
structure FmS (w W:World) (m:Mod) (X F:Nat) (needv opv rv:Value):Prop where
 ext:qb w W
 bX:Blk W X #[.string (qc m.face.name), .int .u8 (m.face.kind:Int), .bool m.face.param,needv,opv, .string (qc m.rep),rv] 66
 bF:Blk W F #[.string (qc m.face.name), .int .u8 (m.face.kind:Int), .bool m.face.param,needv,opv] 63
 needs:xf 5 (Q8 W) W needv m.face.needs
 ops:xf 5 (Q7 W) W opv m.face.ops
 routs:xf 7 (Q6 W) W rv m.routs
 g:L01.G W
 m:zW W
section
variable {w W W':World} {m:Mod} {X F:Nat} {needv opv rv:Value} {ρ:qa} {b:Bool}
theorem FmS.cX (h:FmS w W m X F needv opv rv):W.cell? ⟨X,5,none⟩=some (.string (qc m.rep))∧W.cell? ⟨X,6,none⟩=some rv:=⟨by rw [h.bX.cell];rfl,by rw [h.bX.cell];rfl⟩
theorem FmS.ol (h:FmS w W m X F needv opv rv):qk opv=m.face.ops.length:=h.ops.len (fun _ _ h=>h.len) (by decide)
theorem FmS.nl (h:FmS w W m X F needv opv rv):qk needv=m.face.needs.length:=h.needs.len (fun _ _ h=>h.len) (by decide)
end
theorem qDH {w:World} {Mb:Nat} {ps:List (ByteArray×Value)} (h:MapB w Mb ps) (a:Addr) (j:a.block=Mb):w.cell? a=none:=by
 obtain ⟨es,c,g,_⟩:=h.ex;subst j;unfold World.cell?;rw [g]
theorem qDG {w w':World} {Mb:Nat} {ps:List (ByteArray×Value)} (h:MapB w Mb ps) (j:Only Mb w w') {a:Addr} {v:Value} (c:w.cell? a=some v):w'.cell? a=some v:=by
 have g:a.block≠Mb:=fun e=>by rw [qDH h a e] at c;cases c
 rw [←c];unfold World.cell?;rw [j.block a.block g]
theorem Cells.map {w w':World} {Mb:Nat} {ps:List (ByteArray×Value)} {v:Value} {sz:Nat} {xs:List Value} (h:Cells w v sz xs) (c:MapB w Mb ps) (g:Only Mb w w'):Cells w' v sz xs:=⟨h.is,h.len,fun j a=>qDG c g (h.cell j a)⟩
section
variable {w w0 W W':World} {m:Mod} {X F:Nat} {needv opv rv:Value} {ρ:qa} {b:Bool}
end
section
variable {w w0 W W':World} {m:Mod} {X F:Nat} {needv opv rv nsv:Value} {ρ:qa} {b:Bool}
end
theorem Q9.row {w:World} {cs:List Value} {m:Mod} (h:Q9 w cs m):cs.length=7∧∀c∈cs,c.cells= #[c]∧c.oneCell=true:=by
 obtain ⟨needv,opv,rv,rfl,a,k,j⟩:=h;refine ⟨rfl, ?_⟩;intro c g;simp only [List.mem_cons,List.mem_nil_iff,or_false] at g;rcases g with rfl|rfl|rfl|rfl|rfl|rfl|rfl
 ·exact ⟨rfl,rfl⟩
 ·exact ⟨rfl,rfl⟩
 ·exact ⟨rfl,rfl⟩
 ·exact ⟨jR a.is,vI a.is⟩
 ·exact ⟨jR k.is,vI k.is⟩
 ·exact ⟨rfl,rfl⟩
 ·exact ⟨jR j.is,vI j.is⟩
end Go.L02
namespace Go.L02
open Go.Eng
open Go.L01 (Bs Tok jL jq jw qh qu right)
set_option maxRecDepth 10000
theorem yU (P:Nat→Prop) (h:∀k,k<38→P k) (c:∀k,38≤k→P k) (k:Nat):P k:=by
 by_cases a:k<38
 ·exact h k a
 ·exact c k (by omega)
theorem yT {k:Nat} (h:38≤k):jv k=63:=by
 unfold jv qj;rw [if_neg (by omega),if_neg (by omega),if_neg (by simp;omega),if_neg (by omega),if_neg (by omega),if_neg (by simp;omega)]
theorem ql7 {k:Nat} (h:38≤k):qj k=false:=by unfold qj;simp;omega
theorem qyu {k:Nat} (h:38≤k):kR k=false:=by
 unfold kR;simp only [Bool.or_eq_false_iff,Bool.and_eq_false_iff,decide_eq_false_iff_not];omega
theorem qrJ:∀k,zD (jv k) 101=qj k:=yU _ (by decide) fun k h=>by rw [yT h,ql7 h];decide
theorem qCL:∀k,zD (jv k) 113=qp 20 k:=yU _ (by decide) fun k h=>by rw [yT h];simp [zD,qp];omega
theorem ql0:∀k,decide (jv k=113)=qp 20 k:=yU _ (by decide) fun k h=>by rw [yT h];simp [qp];omega
theorem qys:∀k,decide (jv k=99)=qp 5 k:=yU _ (by decide) fun k h=>by rw [yT h];simp [qp];omega
theorem qEq:∀k,([101,99]:Bs).contains (jv k)=qj k:=yU _ (by decide) fun k h=>by rw [yT h,ql7 h];decide
theorem qEp:∀k,([115]:Bs).contains (jv k)=kR k:=yU _ (by decide) fun k h=>by rw [yT h,qyu h];decide
theorem qEo:∀k,([119]:Bs).contains (jv k)=qp 33 k:=yU _ (by decide) fun k h=>by rw [yT h];simp [qp];omega
theorem qEr:∀k,([97]:Bs).contains (jv k)=qp 36 k:=yU _ (by decide) fun k h=>by rw [yT h];simp [qp];omega
theorem qdk (l:List Nd) (f:Nat→Bool) (r:Row) (h:r.more=some f):∀(ks:List Int) (i:Nat),r.first.length≤i→qO l r i ks=ks.all fun k=>f (jj l k)
 |[],_,_=>rfl
 |k::ks,i,a=>by
  unfold qO;have:r.first[i]? =none:=List.getElem?_eq_none a;rw [this,h];simp only [List.all_cons,qdk l f r h ks (i+1) (by omega)]
def QK (ks:List Int):Bool:=decide (ks=[])
def xj (l:List Nd) (f:Nat→Bool):List Int→Bool|[a]=>f (jj l a)|_=>false
def vH (l:List Nd) (f g:Nat→Bool):List Int→Bool|[a,b]=>f (jj l a)&&g (jj l b)|_=>false
def xz (l:List Nd) (f g h:Nat→Bool):List Int→Bool|[a,b,c]=>f (jj l a)&&(g (jj l b)&&h (jj l c))|_=>false
theorem qah (l:List Nd) (r:Row) (h:r.first=[]) (ks:List Int):(decide (0≤ks.length)&&decide (ks.length≤0)&&qO l r 0 ks)=QK ks:=by
 cases ks<;>simp [qO,QK]
theorem wA (l:List Nd) (r:Row) (f:Nat→Bool) (h:r.first=[f]) (ks:List Int):(decide (1≤ks.length)&&decide (ks.length≤1)&&qO l r 0 ks)=xj l f ks:=by
 match ks with
 |[]=>simp [xj]
 |[a]=>simp [xj,qO,h]
 |a::b::ks=>simp [xj]
theorem qdm (l:List Nd) (r:Row) (f g:Nat→Bool) (h:r.first=[f,g]) (ks:List Int):(decide (2≤ks.length)&&decide (ks.length≤2)&&qO l r 0 ks)=vH l f g ks:=by
 match ks with
 |[]=>simp [vH]
 |[a]=>simp [vH]
 |[a,b]=>simp [vH,qO,h]
 |a::b::c::ks=>simp [vH]
theorem qyl (l:List Nd) (r:Row) (f g k:Nat→Bool) (h:r.first=[f,g,k]) (ks:List Int):(decide (3≤ks.length)&&decide (ks.length≤3)&&qO l r 0 ks)=xz l f g k ks:=by
 match ks with
 |[]=>simp [xz]
 |[a]=>simp [xz]
 |[a,b]=>simp [xz]
 |[a,b,c]=>simp [xz,qO,h]
 |a::b::c::d::ks=>simp [xz]
section
variable (l:List Nd) (x:Nd)
theorem yf (p:UInt8):jt (jE l x) [p]=xj l (fun k=>zD (jv k) p) x.kids:=by
 unfold jE
 match x.kids with
 |[]=>rfl
 |[a]=>simp [jt,xj]
 |a::b::ks=>simp [jt,xj]
theorem qbP (p q:UInt8):jt (jE l x) [p,q]=vH l (fun k=>zD (jv k) p) (fun k=>zD (jv k) q) x.kids:=by
 unfold jE
 match x.kids with
 |[]=>rfl
 |[a]=>simp [jt,vH]
 |[a,b]=>simp [jt,vH]
 |a::b::c::ks=>simp [jt,vH]
theorem qrK (p q r:UInt8):jt (jE l x) [p,q,r]=xz l (fun k=>zD (jv k) p) (fun k=>zD (jv k) q) (fun k=>zD (jv k) r) x.kids:=by
 unfold jE
 match x.kids with
 |[]=>rfl
 |[a]=>simp [jt,xz]
 |[a,b]=>simp [jt,xz]
 |[a,b,c]=>simp [jt,xz]
 |a::b::c::d::ks=>simp [jt,xz]
theorem QW:decide (jE l x=[])=QK x.kids:=by unfold jE QK;simp
theorem qhU (p:UInt8):decide (jE l x=[p])=xj l (fun k=>decide (jv k=p)) x.kids:=by
 unfold jE
 match x.kids with
 |[]=>rfl
 |[a]=>simp [xj]
 |a::b::ks=>simp [xj]
theorem qCW (p q:UInt8):decide (jE l x=[p,q])=vH l (fun k=>decide (jv k=p)) (fun k=>decide (jv k=q)) x.kids:=by
 unfold jE
 match x.kids with
 |[]=>rfl
 |[a]=>simp [vH]
 |[a,b]=>simp [vH,Bool.and_comm]
 |a::b::c::ks=>simp [vH]
theorem qeA (s:Bs) (ks:List Int):xD (ks.map fun k=>jv (jj l k)) s=ks.all fun k=>s.contains (jv (jj l k)):=by
 unfold xD;rw [List.all_map];rfl
theorem qdi:(jE l x).length=x.kids.length:=by simp [jE]
end
def jM (r:Row) (d:D):Bool:=qV d.name r.name&&(qV d.vr r.vr&&(qV d.typ r.typ&&(match r.n with|none=>decide (d.n=0)|some f=>f d.n)))
theorem jV (l:List Nd) (x:Nd) (r:Row) (a:vY x.d.kind=some r):ja l x=(jM r x.d&&((decide (r.least≤x.kids.length)&&decide (x.kids.length≤r.most)&&qO l r 0 x.kids)&&vh l x)):=by
 unfold ja jM;rw [a];simp only [Bool.and_assoc];rfl
theorem vm (l:List Nd) (x:Nd) (a:x.d.kind≠5) (g:x.d.kind≠6) (c:x.d.kind≠32):vh l x=true:=by
 unfold vh;rw [if_neg a,if_neg g,if_neg c]
theorem ql6:qp 20=fun k=>zD (jv k) 113:=by funext k;rw [qCL]
theorem x7:qj=fun k=>zD (jv k) 101:=by funext k;rw [qrJ]
theorem qgj:qp 20=fun k=>decide (jv k=113):=by funext k;rw [ql0]
theorem ql5:qp 5=fun k=>decide (jv k=99):=by funext k;rw [qys]
theorem qvW (l:List Nd) (x:Nd) (h:x.d.kind=1):ja l x=qv l x:=by
 rw [jV l x (qf {n:=some (jl 1000000000)} []) (by rw [h];rfl),vm l x (by omega) (by omega) (by omega),Bool.and_true];have a:=qah l (qf {n:=some (jl 1000000000)} []) rfl x.kids;rw [show (decide ((qf {n:=some (jl 1000000000)} []).least≤x.kids.length)&&decide (x.kids.length≤(qf {n:=some (jl 1000000000)} []).most)&&qO l (qf {n:=some (jl 1000000000)} []) 0 x.kids)=_ from a];unfold qv jM;simp only [h,Nat.reduceEqDiff,if_false,if_true,or_false,false_or,or_true,true_or,QW,qf,qV,qI,Bool.false_or,Bool.true_or,Bool.true_and,Bool.and_true,jl]
 skip
 skip
 simp only [Bool.and_assoc,Bool.and_comm,Bool.and_left_comm]
theorem qvU (l:List Nd) (x:Nd) (h:x.d.kind=2):ja l x=qv l x:=by
 rw [jV l x (qf {n:=some (jl 1)} []) (by rw [h];rfl),vm l x (by omega) (by omega) (by omega),Bool.and_true];have a:=qah l (qf {n:=some (jl 1)} []) rfl x.kids;rw [show (decide ((qf {n:=some (jl 1)} []).least≤x.kids.length)&&decide (x.kids.length≤(qf {n:=some (jl 1)} []).most)&&qO l (qf {n:=some (jl 1)} []) 0 x.kids)=_ from a];unfold qv jM;simp only [h,Nat.reduceEqDiff,if_false,if_true,or_false,false_or,or_true,true_or,QW,qf,qV,qI,Bool.false_or,Bool.true_or,Bool.true_and,Bool.and_true,jl];have hn:(decide (0≤x.d.n)&&decide (x.d.n≤1))=(decide (x.d.n=0)||decide (x.d.n=1)):=by rw [Bool.eq_iff_iff];simp;omega
 rw [hn];simp only [Bool.and_assoc]
theorem qvJ (l:List Nd) (x:Nd) (h:x.d.kind=3):ja l x=qv l x:=by
 rw [jV l x (qf {} []) (by rw [h];rfl),vm l x (by omega) (by omega) (by omega),Bool.and_true];have a:=qah l (qf {} []) rfl x.kids;rw [show (decide ((qf {} []).least≤x.kids.length)&&decide (x.kids.length≤(qf {} []).most)&&qO l (qf {} []) 0 x.kids)=_ from a];unfold qv jM;simp only [h,Nat.reduceEqDiff,if_false,if_true,or_false,false_or,or_true,true_or,QW,qf,qV,qI,Bool.false_or,Bool.true_or,Bool.true_and,Bool.and_true,jl]
 skip
 skip
 simp only [Bool.and_assoc,Bool.and_comm,Bool.and_left_comm]
theorem qvC (l:List Nd) (x:Nd) (h:x.d.kind=4):ja l x=qv l x:=by
 rw [jV l x (qf {name:=some qh} []) (by rw [h];rfl),vm l x (by omega) (by omega) (by omega),Bool.and_true];have a:=qah l (qf {name:=some qh} []) rfl x.kids;rw [show (decide ((qf {name:=some qh} []).least≤x.kids.length)&&decide (x.kids.length≤(qf {name:=some qh} []).most)&&qO l (qf {name:=some qh} []) 0 x.kids)=_ from a];unfold qv jM;simp only [h,Nat.reduceEqDiff,if_false,if_true,or_false,false_or,or_true,true_or,QW,qf,qV,qI,Bool.false_or,Bool.true_or,Bool.true_and,Bool.and_true,jl]
 skip
 skip
 simp only [Bool.and_assoc,Bool.and_comm,Bool.and_left_comm]
theorem qvz (l:List Nd) (x:Nd) (h:x.d.kind=7):ja l x=qv l x:=by
 rw [jV l x (qf {} [qj,qj]) (by rw [h];rfl),vm l x (by omega) (by omega) (by omega),Bool.and_true];have a:=qdm l (qf {} [qj,qj]) _ _ rfl x.kids;rw [show (decide ((qf {} [qj,qj]).least≤x.kids.length)&&decide (x.kids.length≤(qf {} [qj,qj]).most)&&qO l (qf {} [qj,qj]) 0 x.kids)=_ from a];unfold qv jM;simp only [h,Nat.reduceEqDiff,if_false,if_true,or_false,false_or,or_true,true_or,qbP,←x7,qf,qV,qI,Bool.false_or,Bool.true_or,Bool.true_and,Bool.and_true,jl]
 skip
 skip
 simp only [Bool.and_assoc,Bool.and_comm,Bool.and_left_comm]
theorem qvy (l:List Nd) (x:Nd) (h:x.d.kind=8):ja l x=qv l x:=by
 rw [jV l x (qf {name:=some qh} [qj]) (by rw [h];rfl),vm l x (by omega) (by omega) (by omega),Bool.and_true];have a:=wA l (qf {name:=some qh} [qj]) _ rfl x.kids;rw [show (decide ((qf {name:=some qh} [qj]).least≤x.kids.length)&&decide (x.kids.length≤(qf {name:=some qh} [qj]).most)&&qO l (qf {name:=some qh} [qj]) 0 x.kids)=_ from a];unfold qv jM;simp only [h,Nat.reduceEqDiff,if_false,if_true,or_false,false_or,or_true,true_or,yf,←x7,qf,qV,qI,Bool.false_or,Bool.true_or,Bool.true_and,Bool.and_true,jl]
 skip
 skip
 simp only [Bool.and_assoc,Bool.and_comm,Bool.and_left_comm]
theorem qvx (l:List Nd) (x:Nd) (h:x.d.kind=9):ja l x=qv l x:=by
 rw [jV l x (qf {} [qj]) (by rw [h];rfl),vm l x (by omega) (by omega) (by omega),Bool.and_true];have a:=wA l (qf {} [qj]) _ rfl x.kids;rw [show (decide ((qf {} [qj]).least≤x.kids.length)&&decide (x.kids.length≤(qf {} [qj]).most)&&qO l (qf {} [qj]) 0 x.kids)=_ from a];unfold qv jM;simp only [h,Nat.reduceEqDiff,if_false,if_true,or_false,false_or,or_true,true_or,yf,←x7,qf,qV,qI,Bool.false_or,Bool.true_or,Bool.true_and,Bool.and_true,jl]
 skip
 skip
 simp only [Bool.and_assoc,Bool.and_comm,Bool.and_left_comm]
theorem qvV (l:List Nd) (x:Nd) (h:x.d.kind=10):ja l x=qv l x:=by
 rw [jV l x (qf {} [qj]) (by rw [h];rfl),vm l x (by omega) (by omega) (by omega),Bool.and_true];have a:=wA l (qf {} [qj]) _ rfl x.kids;rw [show (decide ((qf {} [qj]).least≤x.kids.length)&&decide (x.kids.length≤(qf {} [qj]).most)&&qO l (qf {} [qj]) 0 x.kids)=_ from a];unfold qv jM;simp only [h,Nat.reduceEqDiff,if_false,if_true,or_false,false_or,or_true,true_or,yf,←x7,qf,qV,qI,Bool.false_or,Bool.true_or,Bool.true_and,Bool.and_true,jl]
 skip
 skip
 simp only [Bool.and_assoc,Bool.and_comm,Bool.and_left_comm]
theorem qvS (l:List Nd) (x:Nd) (h:x.d.kind=21):ja l x=qv l x:=by
 rw [jV l x (qf {name:=some qh,typ:=some jg} [qj]) (by rw [h];rfl),vm l x (by omega) (by omega) (by omega),Bool.and_true];have a:=wA l (qf {name:=some qh,typ:=some jg} [qj]) _ rfl x.kids;rw [show (decide ((qf {name:=some qh,typ:=some jg} [qj]).least≤x.kids.length)&&decide (x.kids.length≤(qf {name:=some qh,typ:=some jg} [qj]).most)&&qO l (qf {name:=some qh,typ:=some jg} [qj]) 0 x.kids)=_ from a];unfold qv jM;simp only [h,Nat.reduceEqDiff,if_false,if_true,or_false,false_or,or_true,true_or,yf,←x7,qf,qV,qI,Bool.false_or,Bool.true_or,Bool.true_and,Bool.and_true,jl]
 skip
 skip
 simp only [Bool.and_assoc,Bool.and_comm,Bool.and_left_comm]
theorem qvR (l:List Nd) (x:Nd) (h:x.d.kind=22):ja l x=qv l x:=by
 rw [jV l x (qf {name:=some qh} [qj]) (by rw [h];rfl),vm l x (by omega) (by omega) (by omega),Bool.and_true];have a:=wA l (qf {name:=some qh} [qj]) _ rfl x.kids;rw [show (decide ((qf {name:=some qh} [qj]).least≤x.kids.length)&&decide (x.kids.length≤(qf {name:=some qh} [qj]).most)&&qO l (qf {name:=some qh} [qj]) 0 x.kids)=_ from a];unfold qv jM;simp only [h,Nat.reduceEqDiff,if_false,if_true,or_false,false_or,or_true,true_or,yf,←x7,qf,qV,qI,Bool.false_or,Bool.true_or,Bool.true_and,Bool.and_true,jl]
 skip
 skip
 simp only [Bool.and_assoc,Bool.and_comm,Bool.and_left_comm]
theorem qvQ (l:List Nd) (x:Nd) (h:x.d.kind=23):ja l x=qv l x:=by
 rw [jV l x (qf {} [qj,qj,qj]) (by rw [h];rfl),vm l x (by omega) (by omega) (by omega),Bool.and_true];have a:=qyl l (qf {} [qj,qj,qj]) _ _ _ rfl x.kids;rw [show (decide ((qf {} [qj,qj,qj]).least≤x.kids.length)&&decide (x.kids.length≤(qf {} [qj,qj,qj]).most)&&qO l (qf {} [qj,qj,qj]) 0 x.kids)=_ from a];unfold qv jM;simp only [h,Nat.reduceEqDiff,if_false,if_true,or_false,false_or,or_true,true_or,qrK,←x7,qf,qV,qI,Bool.false_or,Bool.true_or,Bool.true_and,Bool.and_true,jl]
 skip
 skip
 simp only [Bool.and_assoc,Bool.and_comm,Bool.and_left_comm]
theorem qvP (l:List Nd) (x:Nd) (h:x.d.kind=24):ja l x=qv l x:=by
 rw [jV l x (qf {name:=some qh} [qj,qj]) (by rw [h];rfl),vm l x (by omega) (by omega) (by omega),Bool.and_true];have a:=qdm l (qf {name:=some qh} [qj,qj]) _ _ rfl x.kids;rw [show (decide ((qf {name:=some qh} [qj,qj]).least≤x.kids.length)&&decide (x.kids.length≤(qf {name:=some qh} [qj,qj]).most)&&qO l (qf {name:=some qh} [qj,qj]) 0 x.kids)=_ from a];unfold qv jM;simp only [h,Nat.reduceEqDiff,if_false,if_true,or_false,false_or,or_true,true_or,qbP,←x7,qf,qV,qI,Bool.false_or,Bool.true_or,Bool.true_and,Bool.and_true,jl]
 skip
 skip
 simp only [Bool.and_assoc,Bool.and_comm,Bool.and_left_comm]
theorem qvO (l:List Nd) (x:Nd) (h:x.d.kind=25):ja l x=qv l x:=by
 rw [jV l x (qf {} [qp 5]) (by rw [h];rfl),vm l x (by omega) (by omega) (by omega),Bool.and_true];have a:=wA l (qf {} [qp 5]) _ rfl x.kids;rw [show (decide ((qf {} [qp 5]).least≤x.kids.length)&&decide (x.kids.length≤(qf {} [qp 5]).most)&&qO l (qf {} [qp 5]) 0 x.kids)=_ from a];unfold qv jM;simp only [h,Nat.reduceEqDiff,if_false,if_true,or_false,false_or,or_true,true_or,qhU,←ql5,qf,qV,qI,Bool.false_or,Bool.true_or,Bool.true_and,Bool.and_true,jl]
 skip
 skip
 simp only [Bool.and_assoc,Bool.and_comm,Bool.and_left_comm]
theorem qvM (l:List Nd) (x:Nd) (h:x.d.kind=27):ja l x=qv l x:=by
 rw [jV l x (qf {} [qj,qp 20]) (by rw [h];rfl),vm l x (by omega) (by omega) (by omega),Bool.and_true];have a:=qdm l (qf {} [qj,qp 20]) _ _ rfl x.kids;rw [show (decide ((qf {} [qj,qp 20]).least≤x.kids.length)&&decide (x.kids.length≤(qf {} [qj,qp 20]).most)&&qO l (qf {} [qj,qp 20]) 0 x.kids)=_ from a];unfold qv jM;simp only [h,Nat.reduceEqDiff,if_false,if_true,or_false,false_or,or_true,true_or,qbP,←x7,←ql6,qf,qV,qI,Bool.false_or,Bool.true_or,Bool.true_and,Bool.and_true,jl]
 skip
 skip
 simp only [Bool.and_assoc,Bool.and_comm,Bool.and_left_comm]
theorem qvL (l:List Nd) (x:Nd) (h:x.d.kind=28):ja l x=qv l x:=by
 rw [jV l x (qf {name:=some qh,typ:=some jg} [qp 5,qp 20]) (by rw [h];rfl),vm l x (by omega) (by omega) (by omega),Bool.and_true];have a:=qdm l (qf {name:=some qh,typ:=some jg} [qp 5,qp 20]) _ _ rfl x.kids;rw [show (decide ((qf {name:=some qh,typ:=some jg} [qp 5,qp 20]).least≤x.kids.length)&&decide (x.kids.length≤(qf {name:=some qh,typ:=some jg} [qp 5,qp 20]).most)&&qO l (qf {name:=some qh,typ:=some jg} [qp 5,qp 20]) 0 x.kids)=_ from a];unfold qv jM;simp only [h,Nat.reduceEqDiff,if_false,if_true,or_false,false_or,or_true,true_or,qCW,←ql5,←qgj,qf,qV,qI,Bool.false_or,Bool.true_or,Bool.true_and,Bool.and_true,jl]
 skip
 skip
 simp only [Bool.and_assoc,Bool.and_comm,Bool.and_left_comm]
theorem qvI (l:List Nd) (x:Nd) (h:x.d.kind=30):ja l x=qv l x:=by
 rw [jV l x (qf {} [qj]) (by rw [h];rfl),vm l x (by omega) (by omega) (by omega),Bool.and_true];have a:=wA l (qf {} [qj]) _ rfl x.kids;rw [show (decide ((qf {} [qj]).least≤x.kids.length)&&decide (x.kids.length≤(qf {} [qj]).most)&&qO l (qf {} [qj]) 0 x.kids)=_ from a];unfold qv jM;simp only [h,Nat.reduceEqDiff,if_false,if_true,or_false,false_or,or_true,true_or,yf,←x7,qf,qV,qI,Bool.false_or,Bool.true_or,Bool.true_and,Bool.and_true,jl]
 skip
 skip
 simp only [Bool.and_assoc,Bool.and_comm,Bool.and_left_comm]
theorem qvH (l:List Nd) (x:Nd) (h:x.d.kind=31):ja l x=qv l x:=by
 rw [jV l x (qf {name:=some qh} []) (by rw [h];rfl),vm l x (by omega) (by omega) (by omega),Bool.and_true];have a:=qah l (qf {name:=some qh} []) rfl x.kids;rw [show (decide ((qf {name:=some qh} []).least≤x.kids.length)&&decide (x.kids.length≤(qf {name:=some qh} []).most)&&qO l (qf {name:=some qh} []) 0 x.kids)=_ from a];unfold qv jM;simp only [h,Nat.reduceEqDiff,if_false,if_true,or_false,false_or,or_true,true_or,QW,qf,qV,qI,Bool.false_or,Bool.true_or,Bool.true_and,Bool.and_true,jl]
 skip
 skip
 simp only [Bool.and_assoc,Bool.and_comm,Bool.and_left_comm]
theorem qvG (l:List Nd) (x:Nd) (h:x.d.kind=34):ja l x=qv l x:=by
 rw [jV l x (qf {} []) (by rw [h];rfl),vm l x (by omega) (by omega) (by omega),Bool.and_true];have a:=qah l (qf {} []) rfl x.kids;rw [show (decide ((qf {} []).least≤x.kids.length)&&decide (x.kids.length≤(qf {} []).most)&&qO l (qf {} []) 0 x.kids)=_ from a];unfold qv jM;simp only [h,Nat.reduceEqDiff,if_false,if_true,or_false,false_or,or_true,true_or,QW,qf,qV,qI,Bool.false_or,Bool.true_or,Bool.true_and,Bool.and_true,jl]
 skip
 skip
 simp only [Bool.and_assoc,Bool.and_comm,Bool.and_left_comm]
theorem qvE (l:List Nd) (x:Nd) (h:x.d.kind=36):ja l x=qv l x:=by
 rw [jV l x (qf {name:=some qh,vr:=some qh,typ:=some jg} [qp 20]) (by rw [h];rfl),vm l x (by omega) (by omega) (by omega),Bool.and_true];have a:=wA l (qf {name:=some qh,vr:=some qh,typ:=some jg} [qp 20]) _ rfl x.kids;rw [show (decide ((qf {name:=some qh,vr:=some qh,typ:=some jg} [qp 20]).least≤x.kids.length)&&decide (x.kids.length≤(qf {name:=some qh,vr:=some qh,typ:=some jg} [qp 20]).most)&&qO l (qf {name:=some qh,vr:=some qh,typ:=some jg} [qp 20]) 0 x.kids)=_ from a];unfold qv jM;simp only [h,Nat.reduceEqDiff,if_false,if_true,or_false,false_or,or_true,true_or,qhU,←qgj,qf,qV,qI,Bool.false_or,Bool.true_or,Bool.true_and,Bool.and_true,jl]
 skip
 skip
 simp only [Bool.and_assoc,Bool.and_comm,Bool.and_left_comm]
theorem qvD (l:List Nd) (x:Nd) (h:x.d.kind=37):ja l x=qv l x:=by
 rw [jV l x (qf {} [qj]) (by rw [h];rfl),vm l x (by omega) (by omega) (by omega),Bool.and_true];have a:=wA l (qf {} [qj]) _ rfl x.kids;rw [show (decide ((qf {} [qj]).least≤x.kids.length)&&decide (x.kids.length≤(qf {} [qj]).most)&&qO l (qf {} [qj]) 0 x.kids)=_ from a];unfold qv jM;simp only [h,Nat.reduceEqDiff,if_false,if_true,or_false,false_or,or_true,true_or,yf,←x7,qf,qV,qI,Bool.false_or,Bool.true_or,Bool.true_and,Bool.and_true,jl]
 skip
 skip
 simp only [Bool.and_assoc,Bool.and_comm,Bool.and_left_comm]
theorem qvT (l:List Nd) (x:Nd) (h:x.d.kind=20) (a:x.kids.length≤400):ja l x=qv l x:=by
 rw [jV l x {more:=some kR,most:=400} (by rw [h];rfl),vm l x (by omega) (by omega) (by omega),Bool.and_true];unfold qv jM;rw [qdk l kR _ rfl x.kids 0 (by simp)];have c:xD (jE l x) [115]=x.kids.all fun k=>kR (jj l k):=by unfold jE;rw [qeA];simp only [qEp]
 simp only [h,Nat.reduceEqDiff,if_false,if_true,or_false,false_or,c,qV,qI,Bool.false_or,Bool.true_and,a,Nat.zero_le,decide_true];simp only [Bool.and_assoc,Bool.and_comm,Bool.and_left_comm]
theorem qvB (l:List Nd) (x:Nd) (h:x.d.kind=5):ja l x=qv l x:=by
 rw [jV l x {name:=some xe,vr:=some xe,typ:=some xe,more:=some qj,most:=6} (by rw [h];rfl)];unfold qv jM vh qaz;rw [qdk l qj _ rfl x.kids 0 (by simp)];have c:xD (jE l x) [101,99]=x.kids.all fun k=>qj (jj l k):=by unfold jE;rw [qeA];simp only [qEq]
 simp only [h,Nat.reduceEqDiff,if_false,if_true,or_false,false_or,c,qV,qI,xe,Bool.true_or,Bool.false_or,Bool.true_and,Nat.zero_le,decide_true,qdi];by_cases a:x.d.vr=[]
 ·simp only [a,if_true,decide_true,Bool.true_and];simp only [Bool.and_assoc,Bool.and_comm,Bool.and_left_comm]
 ·simp only [a,if_false];simp only [Bool.and_assoc,Bool.and_comm,Bool.and_left_comm]
theorem qxz (s:Bs):wx.contains s=(decide (s=[110,111,116])||kZ.contains s):=by
 unfold wx kZ;simp only [List.contains_cons];congr 1;rw [Bool.eq_iff_iff];simp
theorem qvA (l:List Nd) (x:Nd) (h:x.d.kind=6):ja l x=qv l x:=by
 rw [jV l x {name:=some wx.contains,first:=[qj,qj],least:=1,most:=2} (by rw [h];rfl)];unfold qv jM vh;simp only [h,Nat.reduceEqDiff,if_false,if_true,or_false,false_or,qV,qI,Bool.true_or,Bool.false_or,Bool.true_and,yf,qbP,←x7,qxz];have j:x.d.name=[110,111,116]→kZ.contains x.d.name=false:=by intro h;rw [h];decide
 match hk:x.kids with
 |[]=>simp [xj,vH]
 |[a]=>
  simp only [xj,vH,qO,List.length_cons,List.length_nil,Nat.zero_add,Nat.le_refl,decide_true,Bool.true_and,Bool.and_true,List.getElem?_cons_zero];by_cases hn:x.d.name=[110,111,116] <;>cases g:kZ.contains x.d.name<;>simp_all [Bool.and_assoc]
 |[a,b]=>
  simp only [xj,vH,qO,List.length_cons,List.length_nil,Nat.zero_add,Nat.le_refl,decide_true,Bool.true_and,Bool.and_true,List.getElem?_cons_zero,List.getElem?_cons_succ];by_cases hn:x.d.name=[110,111,116] <;>cases g:kZ.contains x.d.name<;>simp_all [Bool.and_assoc]
 |a::b::c::ks=>simp [xj,vH]
theorem qvN (l:List Nd) (x:Nd) (h:x.d.kind=26):ja l x=qv l x:=by
 rw [jV l x {first:=[qj,qp 20,qp 20],least:=2,most:=3} (by rw [h];rfl),vm l x (by omega) (by omega) (by omega),Bool.and_true];unfold qv jM;simp only [h,Nat.reduceEqDiff,if_false,if_true,or_false,false_or,qV,qI,Bool.true_or,Bool.false_or,Bool.true_and,qbP,qrK,←x7,←ql6]
 match hk:x.kids with
 |[]=>simp [vH,xz]
 |[a]=>simp [vH,xz]
 |[a,b]=>simp [vH,xz,qO,Bool.and_assoc]
 |[a,b,c]=>simp [vH,xz,qO,Bool.and_assoc]
 |a::b::c::d::ks=>simp [vH,xz]
theorem qvK (l:List Nd) (x:Nd) (h:x.d.kind=29):ja l x=qv l x:=by
 rw [jV l x {first:=[qj],most:=1} (by rw [h];rfl),vm l x (by omega) (by omega) (by omega),Bool.and_true];unfold qv jM;simp only [h,Nat.reduceEqDiff,if_false,if_true,or_false,false_or,qV,qI,Bool.true_or,Bool.false_or,Bool.true_and,yf,QW,←x7]
 match hk:x.kids with
 |[]=>simp [QK,xj,qO,Bool.and_assoc]
 |[a]=>simp [QK,xj,qO,Bool.and_assoc]
 |a::b::ks=>simp [QK,xj]
theorem qfx (l:List Nd) (x:Nd) (h:x.d.kind=33):qv l x=(ja l x&&(decide (x.d.name=[])||qh x.d.name)):=by
 rw [jV l x (qf {name:=some xe} [qp 20]) (by rw [h];rfl),vm l x (by omega) (by omega) (by omega),Bool.and_true];have a:=wA l (qf {name:=some xe} [qp 20]) _ rfl x.kids;rw [show (decide ((qf {name:=some xe} [qp 20]).least≤x.kids.length)&&decide (x.kids.length≤(qf {name:=some xe} [qp 20]).most)&&qO l (qf {name:=some xe} [qp 20]) 0 x.kids)=_ from a];unfold qv jM;simp only [h,Nat.reduceEqDiff,if_false,if_true,or_false,false_or,qhU,←qgj,qf,qV,qI,xe,Bool.false_or,Bool.true_or,Bool.true_and,Bool.and_true];simp only [Bool.and_assoc,Bool.and_comm,Bool.and_left_comm]
theorem qlN (l:List Nd) (f g:Nat→Bool) (r:Row) (c:r.first=[f]) (h:r.more=some g) (a:Int) (ks:List Int):qO l r 0 (a::ks)=(f (jj l a)&&ks.all fun k=>g (jj l k)):=by
 unfold qO;rw [qdk l g r h ks 1 (by simp [c]),c];rfl
theorem qvF (l:List Nd) (x:Nd) (h:x.d.kind=35) (c:x.kids.length≤400):ja l x=qv l x:=by
 rw [jV l x {first:=[qj],more:=some (qp 36),least:=2,most:=400} (by rw [h];rfl),vm l x (by omega) (by omega) (by omega),Bool.and_true];unfold qv jM;simp only [h,Nat.reduceEqDiff,if_false,if_true,or_false,false_or,qV,qI,Bool.true_or,Bool.false_or,Bool.true_and,c,decide_true,Bool.and_true,qdi];unfold jE
 match hk:x.kids with
 |[]=>simp
 |a::ks=>
  rw [qlN l qj (qp 36) _ rfl rfl];simp only [List.map_cons,List.take_succ_cons,List.take_zero,List.drop_succ_cons,List.drop_zero,jt,qrJ,Bool.and_true,qeA,qEr,List.length_cons];have:decide (1<ks.length+1)=decide (2≤ks.length+1):=by congr 1
  rw [this];simp only [Bool.and_assoc,Bool.and_comm,Bool.and_left_comm]
def qaB (l:List Nd) (x:Nd):Bool:=qI x.d false false false false&&(match x.kids with|a::b::ks=>qp 20 (jj l a)&&(b::ks).all fun k=>qp 33 (jj l k)|_=>false)
theorem qfy (l:List Nd) (x:Nd) (h:x.d.kind=32) (c:x.kids.length≤400):ja l x=(qaB l x&&kV l x.kids.length 0 (x.kids.drop 1)):=by
 rw [jV l x {first:=[qp 20],more:=some (qp 33),least:=2,most:=400} (by rw [h];rfl)];unfold jM vh qaB;simp only [h,Nat.reduceEqDiff,if_false,if_true,or_false,false_or,qV,qI,Bool.true_or,Bool.false_or,Bool.true_and,c,decide_true,Bool.and_true]
 match hk:x.kids with
 |[]=>simp
 |[a]=>simp
 |a::b::ks=>
  rw [qlN l (qp 20) (qp 33) _ rfl rfl];simp only [List.length_cons,show decide (2≤ks.length+1+1)=true by simp,Bool.true_and,Bool.and_assoc]
theorem qkp (l:List Nd) (x:Nd) (h:x.d.kind=32):qv l x=(qaB l x&&y7 l x):=by
 unfold qv qaB;simp only [h,Nat.reduceEqDiff,if_false,if_true,or_false,false_or,qdi];unfold jE
 match hk:x.kids with
 |[]=>simp
 |[a]=>simp
 |a::b::ks=>
  simp only [List.map_cons,List.getD_cons_zero,List.drop_succ_cons,List.drop_zero,ql0,List.length_cons,show decide (2≤ks.length+1+1)=true by simp,Bool.true_and];rw [show xD (jv (jj l b)::ks.map fun k=>jv (jj l k)) [119]=xD ((b::ks).map fun k=>jv (jj l k)) [119] from rfl,qeA];simp only [qEo];simp only [Bool.and_assoc,Bool.and_comm,Bool.and_left_comm]
theorem qko (l:List Nd) (x:Nd) (j:x.kids.length≤400) (g:x.d.kind≠32) (k:x.d.kind≠33):ja l x=qv l x:=by
 have a:vY x.d.kind=none→ja l x=false:=by intro h;unfold ja;rw [h]
 by_cases o:38≤x.d.kind
 ·rw [a (by unfold vY;rw [List.getElem?_eq_none (by simpa [yF] using o)];rfl)];unfold qv;simp only [show∀n,n<38→¬x.d.kind=n from fun n h=>by omega]
  symm
  rw [if_neg (by omega),if_neg (by omega),if_neg (by omega),if_neg (by omega),if_neg (by omega),if_neg (by omega),if_neg (by omega),if_neg (by omega),if_neg (by omega),if_neg (by omega),if_neg (by omega),if_neg (by omega),if_neg (by omega),if_neg (by omega),if_neg (by omega),if_neg (by omega),if_neg (by omega),if_neg (by omega),if_neg (by omega),if_neg (by omega),if_neg (by omega),if_neg (by omega),if_neg (by omega)]
 ·have c:x.d.kind<38:=by omega
  generalize hn:x.d.kind=n at g k c
  match n,g,k,c with
  |0,_,_,_=>rw [a (by rw [hn];rfl)];unfold qv;simp [hn]
  |1,_,_,_=>exact qvW l x hn
  |2,_,_,_=>exact qvU l x hn
  |3,_,_,_=>exact qvJ l x hn
  |4,_,_,_=>exact qvC l x hn
  |5,_,_,_=>exact qvB l x hn
  |6,_,_,_=>exact qvA l x hn
  |7,_,_,_=>exact qvz l x hn
  |8,_,_,_=>exact qvy l x hn
  |9,_,_,_=>exact qvx l x hn
  |10,_,_,_=>exact qvV l x hn
  |11,_,_,_=>rw [a (by rw [hn];rfl)];unfold qv;simp [hn]
  |12,_,_,_=>rw [a (by rw [hn];rfl)];unfold qv;simp [hn]
  |13,_,_,_=>rw [a (by rw [hn];rfl)];unfold qv;simp [hn]
  |14,_,_,_=>rw [a (by rw [hn];rfl)];unfold qv;simp [hn]
  |15,_,_,_=>rw [a (by rw [hn];rfl)];unfold qv;simp [hn]
  |16,_,_,_=>rw [a (by rw [hn];rfl)];unfold qv;simp [hn]
  |17,_,_,_=>rw [a (by rw [hn];rfl)];unfold qv;simp [hn]
  |18,_,_,_=>rw [a (by rw [hn];rfl)];unfold qv;simp [hn]
  |19,_,_,_=>rw [a (by rw [hn];rfl)];unfold qv;simp [hn]
  |20,_,_,_=>exact qvT l x hn j
  |21,_,_,_=>exact qvS l x hn
  |22,_,_,_=>exact qvR l x hn
  |23,_,_,_=>exact qvQ l x hn
  |24,_,_,_=>exact qvP l x hn
  |25,_,_,_=>exact qvO l x hn
  |26,_,_,_=>exact qvN l x hn
  |27,_,_,_=>exact qvM l x hn
  |28,_,_,_=>exact qvL l x hn
  |29,_,_,_=>exact qvK l x hn
  |30,_,_,_=>exact qvI l x hn
  |31,_,_,_=>exact qvH l x hn
  |34,_,_,_=>exact qvG l x hn
  |35,_,_,_=>exact qvF l x hn j
  |36,_,_,_=>exact qvE l x hn
  |37,_,_,_=>exact qvD l x hn
  |32,h,_,_=>exact absurd rfl h
  |33,_,h,_=>exact absurd rfl h
  |n+38,_,_,h=>omega
end Go.L02
namespace Go.L02
open Go.Eng
open Go.L01 (Bs Tok jL jq jw qh qu right)
mutual
theorem T.kids_le:∀(t:T) (b:Nat),∀x∈t.flat b,x.kids.length<t.size
 | .mk d ks,b,x,a=>by
  simp only [T.flat,List.mem_append,List.mem_singleton] at a;simp only [T.size];rcases a with a|rfl
  ·have:=kids_les ks b x a;omega
  ·have h:∀ks:List T,ks.length≤sizes ks:=by
    intro ks
    induction ks with
    |nil=>simp [sizes]
    |cons t ks c=>have:=t.size_pos;simp only [sizes,List.length_cons];omega
   have:=h ks;simp only [zX];omega
theorem kids_les:∀(c:List T) (b:Nat),∀x∈flats b c,x.kids.length<sizes c
 |[],b,x,a=>by simp [flats] at a
 |t::c,b,x,a=>by
  simp only [flats,List.mem_append] at a;simp only [sizes];rcases a with a|a
  ·have:=T.kids_le t b x a;omega
  ·have:=kids_les c _ x a;omega
end
mutual
theorem T.parent:∀(t:T) (b j:Nat),b≤j→j+1<b+t.size→∃x∈t.flat b,(j:Int)∈x.kids
 | .mk d ks,b,j,a,c=>by
  simp only [T.size] at c;rcases parents ks b j a (by omega) with h|⟨x,g,h⟩
  ·exact ⟨⟨d,qx b ks⟩,by simp [T.flat],h⟩
  ·exact ⟨x,by simp [T.flat,g],h⟩
theorem parents:∀(a:List T) (b j:Nat),b≤j→j<b+sizes a→(j:Int)∈qx b a∨∃x∈flats b a,(j:Int)∈x.kids
 |[],b,j,k,c=>by simp [sizes] at c;omega
 |t::a,b,j,k,c=>by
  simp only [sizes] at c;by_cases o:j<b+t.size
  ·by_cases y:j+1=b+t.size
   ·left;simp only [qx,List.mem_cons];left;omega
   ·obtain ⟨x,g,h⟩:=T.parent t b j k (by omega);exact .inr ⟨x,by simp [flats,g],h⟩
  ·rcases parents a (b+t.size) j (by omega) (by omega) with h|⟨x,g,h⟩
   ·exact .inl (by simp [qx,h])
   ·exact .inr ⟨x,by simp [flats,g],h⟩
end
theorem qyw:qh []=false:=rfl
theorem qlO (l:List Nd) (r:Row):∀(ks:List Int) (i:Nat),qO l r i ks=true→∀k∈ks,∃f∈r.first++r.more.toList,f (jj l k)=true
 |[],_,_,k,g=>by simp at g
 |a::ks,i,h,k,g=>by
  unfold qO at h;simp only [Bool.and_eq_true] at h;rcases List.mem_cons.1 g with rfl|g
  ·have c:=h.1;split at c
   ·rename_i f j;exact ⟨f,by simp [List.mem_of_getElem? j],c⟩
   ·split at c
    ·rename_i f j;exact ⟨f,by simp [j],c⟩
    ·cases c
  ·exact qlO l r ks (i+1) h.2 k g
theorem qvo:(yF.zipIdx.all fun p=>decide (p.2=32)||(match p.1 with|none=>true|some r=>(r.first++r.more.toList).all fun f=> !f 33))=true:=by decide
theorem qxB {l:List Nd} {x:Nd} (h:ja l x=true) {k:Int} (z:k∈x.kids) (t:jj l k=33):x.d.kind=32:=by
 unfold ja at h;split at h
 ·cases h
 ·rename_i r c;simp only [Bool.and_eq_true] at h;obtain ⟨f,E,g⟩:=qlO l r _ _ h.1.2 k z;rw [t] at g;unfold vY at c;cases j:yF[x.d.kind]? with
  |none=>rw [j] at c;cases c
  |some o=>
   rw [j] at c;simp only [Option.join] at c;have a:=List.all_eq_true.1 qvo (o,x.d.kind) (List.mem_zipIdx_iff_getElem?.2 (by simpa using j));simp only [Bool.or_eq_true,decide_eq_true_eq] at a;rcases a with h|h
   ·exact h
   ·have y:o=some r:=by simpa using c
    rw [y] at h;have:=List.all_eq_true.1 h f E;rw [g] at this;cases this
theorem qb9 (l:List Nd) (n:Nat):∀(ks:List Int) (i:Nat),kV l n i ks=true↔∀j (a:j<ks.length),qh (zr l ks[j])=true∨(zr l ks[j]=[]∧n≤i+j+2)
 |[],i=>by simp [kV]
 |k::ks,i=>by
  unfold kV;simp only [Bool.and_eq_true,qb9 l n ks (i+1),Bool.or_eq_true,Bool.not_eq_true',Bool.or_eq_false_iff,Bool.not_eq_false',decide_eq_true_eq,decide_eq_false_iff_not];constructor
  ·rintro ⟨c,g⟩ j a;cases j with
   |zero=>simpa using c.imp id fun h=>⟨h.1,by omega⟩
   |succ j=>
    have:=g j (by simpa using a);simpa using this.imp id fun h=>⟨h.1,by omega⟩
  ·intro h;refine ⟨?_,fun j a=> ?_⟩
   ·have:=h 0 (by simp);simpa using this.imp id fun h=>⟨h.1,by omega⟩
   ·have:=h (j+1) (by simpa using a);simpa using this.imp id fun h=>⟨h.1,by omega⟩
theorem qd9 (l:List Nd) (x:Nd):y7 l x=true↔∀j (a:j<(x.kids.drop 1).length),j+2<x.kids.length→zr l ((x.kids.drop 1)[j])≠[]:=by
 unfold y7;rw [List.all_eq_true];constructor
 ·intro h j a g;have:=h ((x.kids.drop 1)[j]) (by
   rw [List.mem_take_iff_getElem];exact ⟨j,by omega,rfl⟩)
  simpa using this
 ·intro h k c;rw [List.mem_take_iff_getElem] at c;obtain ⟨j,a,rfl⟩:=c;have:=h j (by omega) (by omega);simpa using this
theorem qyj {l:List Nd} {k:Int} {c:Nat} (h:jj l k=c) (g:c≠0):∃y∈l,l[k.toNat]? =some y∧y.d.kind=c∧zr l k=y.d.name:=by
 unfold jj at h;split at h
 ·rename_i y a;exact ⟨y,List.mem_of_getElem? a,a,h,by unfold zr;rw [a]⟩
 ·exact absurd h.symm g
theorem qvw {l:List Nd} (hp:jW l=true) (Z:l.length≤400) (aa:xY l≠33):l.all (ja l)=l.all (qv l):=by
 obtain ⟨t,rfl⟩:=qbn hp;rw [qvv] at aa;have z:∀x∈t.flat 0,x.kids.length≤400:=fun x c=>by
  have:=T.kids_le t 0 x c;rw [T.flat_len] at Z;omega
 rw [Bool.eq_iff_iff,List.all_eq_true,List.all_eq_true];constructor
 ·intro h x c;by_cases U:x.d.kind=32
  ·have o:=h x c;rw [qfy _ x U (z x c),Bool.and_eq_true] at o;rw [qkp _ x U,Bool.and_eq_true];refine ⟨o.1,(qd9 _ _).2 fun j E H J=> ?_⟩;rcases (qb9 _ _ _ _).1 o.2 j E with g|⟨_,g⟩
   ·rw [J,qyw] at g;cases g
   ·omega
  ·by_cases H:x.d.kind=33
   ·rw [qfx _ x H,h x c,Bool.true_and];obtain ⟨j,E,rfl⟩:=List.getElem_of_mem c;have hroot:j+1<t.size:=by
     rw [T.flat_len] at E;by_cases hl:j+1=t.size
     ·have J:=qrH t 0;rw [List.getLast?_eq_getElem?,T.flat_len] at J;have g:t.size - 1=j:=by omega
      rw [g] at J;have Y:(t.flat 0)[j]? =some (t.flat 0)[j]:=List.getElem?_eq_getElem _;rw [J] at Y;simp only [Option.some.injEq] at Y;rw [←Y] at H;exact absurd H aa
     ·omega
    obtain ⟨p,O,V⟩:=T.parent t 0 j (by omega) (by omega);have I:jj (t.flat 0) (j:Int)=33:=by
     unfold jj;rw [Int.toNat_natCast,List.getElem?_eq_getElem E];exact H
    have ab:=qxB (h p O) V I;have o:=h p O;rw [qfy _ p ab (z p O),Bool.and_eq_true] at o;have hkd:(j:Int)∈p.kids.drop 1:=by
     have S:=o.1;unfold qaB at S;simp only [Bool.and_eq_true] at S
     match hm:p.kids,V,S.2 with
     |a::b::ks,V,k=>
      rcases List.mem_cons.1 V with rfl|V
      ·simp only [Bool.and_eq_true] at k;rw [I] at k;exact absurd k.1 (by decide)
      ·simpa using V
    obtain ⟨i,hi,he⟩:=List.getElem_of_mem hkd;have hn:zr (t.flat 0) (j:Int)=((t.flat 0)[j]).d.name:=by
     unfold zr;rw [Int.toNat_natCast,List.getElem?_eq_getElem E]
    rcases (qb9 _ _ _ _).1 o.2 i hi with g|⟨g,_⟩
    ·rw [he,hn] at g;rw [g,Bool.or_true]
    ·rw [he,hn] at g;simp [g]
   ·rw [←qko _ x (z x c) U H];exact h x c
 ·intro h x c;by_cases U:x.d.kind=32
  ·have o:=h x c;rw [qkp _ x U,Bool.and_eq_true] at o;rw [qfy _ x U (z x c),Bool.and_eq_true];refine ⟨o.1,(qb9 _ _ _ _).2 fun j E=> ?_⟩;have S:=o.1;unfold qaB at S;simp only [Bool.and_eq_true] at S;have I:jj (t.flat 0) ((x.kids.drop 1)[j])=33:=by
    match hm:x.kids,E,S.2 with
    |a::b::ks,E,k=>
     simp only [Bool.and_eq_true] at k;have:=List.all_eq_true.1 k.2 ((b::ks)[j]'(by simpa using E)) (List.getElem_mem _);simpa [qp] using this
   obtain ⟨y,hy,H,J,g⟩:=qyj I (by decide);have Y:=h y hy;rw [qfx _ y J,Bool.and_eq_true,Bool.or_eq_true] at Y;rw [g];rcases Y.2 with h7|h7
   ·right;have h8:y.d.name=[]:=by simpa using h7
    refine ⟨h8, ?_⟩;by_cases hc:j+2<x.kids.length
    ·exact absurd (g.trans h8) ((qd9 _ _).1 o.2 j E hc)
    ·omega
   ·exact .inl h7
  ·by_cases H:x.d.kind=33
   ·have:=h x c;rw [qfx _ x H,Bool.and_eq_true] at this;exact this.1
   ·rw [qko _ x (z x c) U H];exact h x c
theorem qiP (l:List Nd) (root:Nat→Bool) (k:root 33=false):whole l root=(xZ l&&root (xY l)):=by
 unfold whole xZ;by_cases j:jW l=true
 ·by_cases g:l.length≤400
  ·by_cases a:root (xY l)=true
   ·have c:xY l≠33:=fun h=>by rw [h,k] at a;cases a
    rw [qvw j g c,a];simp only [Bool.and_true]
   ·have:root (xY l)=false:=by simpa using a
    rw [this];simp
  ·simp [g]
 ·have:jW l=false:=by simpa using j
  rw [this];simp
def jo (l:List Nd) (i:Nat) (u:T):Prop:=∃pre post,l=pre++(u.flat pre.length++post)∧i+1=pre.length+u.size
mutual
theorem qsQ:∀(t:T) (b i:Nat),b≤i→i<b+t.size→∃(u:T) (a post:List Nd),t.flat b=a++(u.flat (b+a.length)++post)∧i+1=b+a.length+u.size
 | .mk d ks,b,i,c,g=>by
  by_cases j:i=b+sizes ks
  ·exact ⟨.mk d ks,[],[],by simp,by simp only [List.length_nil,T.size];omega⟩
  ·obtain ⟨u,a,post,e,h⟩:=at_exTs ks b i c (by simp only [T.size] at g;omega);refine ⟨u,a,post++[⟨d,qx b ks⟩], ?_,h⟩;simp only [T.flat];rw [e];simp
theorem at_exTs:∀(c:List T) (b i:Nat),b≤i→i<b+sizes c→∃(u:T) (a post:List Nd),flats b c=a++(u.flat (b+a.length)++post)∧i+1=b+a.length+u.size
 |[],b,i,j,g=>by simp [sizes] at g;omega
 |t::c,b,i,j,g=>by
  by_cases k:i<b+t.size
  ·obtain ⟨u,a,post,e,h⟩:=qsQ t b i j k;refine ⟨u,a,post++flats (b+t.size) c, ?_,h⟩;simp only [flats];rw [e];simp
  ·obtain ⟨u,a,post,e,h⟩:=at_exTs c (b+t.size) i (by omega) (by simp only [sizes] at g;omega);refine ⟨u,t.flat b++a,post, ?_, ?_⟩
   ·simp only [flats];rw [e,List.length_append,T.flat_len];simp [Nat.add_assoc]
   ·rw [List.length_append,T.flat_len];omega
end
theorem qEi (t:T) {i:Nat} (h:i<t.size):∃u:T,jo (t.flat 0) i u:=by
 obtain ⟨u,a,post,e,c⟩:=qsQ t 0 i (Nat.zero_le _) (by omega);exact ⟨u,a,post,by simpa using e,by simpa using c⟩
theorem qEh (t:T):jo (t.flat 0) (t.size - 1) t:=⟨[],[],by simp,by have:=t.size_pos;simp;omega⟩
theorem T.flat_eq (u:T) (b:Nat):u.flat b=flats b u.kids++[⟨u.d,qx b u.kids⟩]:=by cases u;rfl
theorem T.size_eq (u:T):u.size=sizes u.kids+1:=by cases u;rfl
section
variable {l:List Nd} {i:Nat} {u:T}
theorem jo.lt (h:jo l i u):i<l.length:=by
 obtain ⟨a,post,rfl,h⟩:=h;rw [List.length_append,List.length_append,T.flat_len];omega
theorem jo.le (h:jo l i u):u.size≤i+1:=by obtain ⟨a,post,rfl,h⟩:=h;omega
theorem jo.node (h:jo l i u):l[i]? =some ⟨u.d,qx (i+1 - u.size) u.kids⟩:=by
 obtain ⟨a,post,rfl,h⟩:=h;have j:=u.size_eq;rw [List.getElem?_append_right (by omega),u.flat_eq,List.append_assoc,List.getElem?_append_right (by rw [flats_len];omega),flats_len];have c:i - a.length - sizes u.kids=0:=by omega
 have g:i+1 - u.size=a.length:=by omega
 rw [c,g];rfl
theorem qa9:∀(ks:List T) (b j:Nat) (h:j<ks.length),(qx b ks)[j]? =some (((b+sizes (ks.take (j+1)):Nat):Int) - 1)
 |[],_,_,h=>by simp at h
 |k::ks,b,0,_=>by simp [qx,sizes]
 |k::ks,b,j+1,h=>by
  simp only [qx,List.getElem?_cons_succ];rw [qa9 ks (b+k.size) j (by simpa using h),List.take_succ_cons,sizes];congr 2;omega
theorem jo.kid (h:jo l i u) {j:Nat} (g:j<u.kids.length):jo l (i+sizes (u.kids.take (j+1)) - u.size) u.kids[j]:=by
 have k:=h.le;obtain ⟨a,post,rfl,h⟩:=h;have e:u.kids=u.kids.take j++(u.kids[j]::u.kids.drop (j+1)):=by rw [←List.drop_eq_getElem_cons g,List.take_append_drop]
 have o:sizes (u.kids.take (j+1))=sizes (u.kids.take j)+u.kids[j].size:=by rw [List.take_succ_eq_append_getElem g,xp];simp [sizes]
 have t:u.size=sizes u.kids+1:=u.size_eq;have y:sizes u.kids=sizes (u.kids.take j)+(u.kids[j].size+sizes (u.kids.drop (j+1))):=by conv=>lhs;rw [e,xp,sizes]
 have c:=u.kids[j].size_pos;refine ⟨a++flats a.length (u.kids.take j),flats (a.length+(sizes (u.kids.take j)+u.kids[j].size)) (u.kids.drop (j+1))++([⟨u.d,qx a.length u.kids⟩]++post), ?_, ?_⟩
 ·rw [u.flat_eq]
  conv=>lhs;rw [e]
  rw [qbO,flats,List.length_append,flats_len];simp only [List.append_assoc,Nat.add_assoc];rw [←e]
 ·rw [List.length_append,flats_len,o];omega
theorem jo.uniq:∀(n:Nat) {i:Nat} {u v:T},u.size≤n→jo l i u→jo l i v→u=v
 |0,_,u,_,hn,_,_=>by have:=u.size_pos;omega
 |n+1,i,u,v,hn,h,g=>by
  have e:=h.node.symm.trans g.node;simp only [Option.some.injEq,Nd.mk.injEq] at e;obtain ⟨z,er⟩:=e;have c:u.kids.length=v.kids.length:=by
   have:=congrArg List.length er
   rwa [zX,zX] at this
  have y:u.kids=v.kids:=by
   refine List.ext_getElem c fun j k t=> ?_;have a:=h.kid k;have b:=g.kid t;have g1:=qa9 u.kids (i+1 - u.size) j k;have E:=qa9 v.kids (i+1 - v.size) j t;rw [er,E] at g1;have l1:=h.le;have J:=g.le;have I:i+sizes (u.kids.take (j+1)) - u.size=i+sizes (v.kids.take (j+1)) - v.size:=by
    have Y:0<sizes (u.kids.take (j+1)):=by rw [List.take_succ_eq_append_getElem k,xp];have:=u.kids[j].size_pos;simp [sizes];omega
    have V:0<sizes (v.kids.take (j+1)):=by rw [List.take_succ_eq_append_getElem t,xp];have:=v.kids[j].size_pos;simp [sizes];omega
    have U:sizes (u.kids.take (j+1))≤sizes u.kids:=by have:=congrArg sizes (List.take_append_drop (j+1) u.kids);rw [xp] at this;omega
    simp only [Option.some.injEq] at g1;have O:=h.le;have Z:=g.le;have H:=u.size_eq;have S:=v.size_eq;omega
   rw [←I] at b;have o:u.kids[j].size≤n:=by
    have H:=u.size_eq;have:u.kids[j].size≤sizes u.kids:=by
     conv=>rhs;rw [←List.take_append_drop j u.kids,List.drop_eq_getElem_cons k,xp,sizes]
     omega
    omega
   exact jo.uniq n o a b
  cases u;cases v;simp only [T.d,T.kids] at z y;rw [z,y]
end
theorem qtj {l:List Nd} {root:Nat→Bool} (h:whole l root=true):∃t:T,l=t.flat 0∧t.size≤400:=by
 unfold whole at h;simp only [Bool.and_eq_true,decide_eq_true_eq] at h;obtain ⟨t,a⟩:=qbn h.1.1.2;refine ⟨t,a, ?_⟩;have:=h.1.1.1.2;rw [a,T.flat_len] at this;exact this
def ko (l:List Nd):List Int:=l.flatMap (·.kids)
def vy (a b k:Int):Nat:=if a≤k∧k<b then 1 else 0
theorem qrr {a b c k:Int} (h:a≤b) (o:b≤c):vy a b k+vy b c k=vy a c k:=by
 unfold vy;by_cases g:a≤k∧k<b
 ·rw [if_pos g,if_neg (by omega),if_pos (by omega)]
 ·by_cases j:b≤k∧k<c
  ·rw [if_neg g,if_pos j,if_pos (by omega)]
  ·rw [if_neg g,if_neg j,if_neg (by omega)]
mutual
theorem qsl:∀(t:T) (b:Nat) (k:Int),(ko (t.flat b)).count k=vy b (b+t.size - 1) k
 | .mk d ks,b,k=>by
  have h:=cnt_flats ks b k;have e:ko (T.flat b (.mk d ks))=ko (flats b ks)++qx b ks:=by simp [ko,T.flat]
  rw [e,List.count_append,h];unfold vy;have:((b:Int)+((T.mk d ks).size:Nat) - 1)=(b:Int)+(sizes ks:Nat):=by simp only [T.size];omega
  rw [this]
theorem cnt_flats:∀(a:List T) (b:Nat) (k:Int),(ko (flats b a)).count k+(qx b a).count k=vy b (b+sizes a) k
 |[],b,k=>by
  have e:vy (b:Int) (b+(sizes ([]:List T):Nat)) k=0:=by
   unfold vy;rw [if_neg (by simp only [sizes];omega)]
  rw [e];simp [flats,qx,ko]
 |t::a,b,k=>by
  have g:=qsl t b k;have o:=cnt_flats a (b+t.size) k;have e:ko (flats b (t::a))=ko (t.flat b)++ko (flats (b+t.size) a):=by simp [ko,flats]
  have y:=t.size_pos;rw [e,List.count_append,g];simp only [qx,List.count_cons];have z:(ko (flats (b+t.size) a)).count k+(qx (b+t.size) a).count k=vy (b+t.size) (b+t.size+sizes a) k:=by
   have:=o;push_cast at this⊢;exact this
  have j:(if ((b:Int)+(t.size:Nat) - 1==k)=true then 1 else 0)=vy (b+t.size - 1) (b+t.size) k:=by
   unfold vy;by_cases c:(b:Int)+(t.size:Nat) - 1=k
   ·simp only [c,beq_self_eq_true,if_true];rw [if_pos];omega
   ·have:((b:Int)+(t.size:Nat) - 1==k)=false:=by simpa using c
    simp only [this,Bool.false_eq_true,if_false];rw [if_neg];omega
  rw [j];have h:vy b (b+sizes (t::a)) k=vy b (b+t.size - 1) k+vy (b+t.size - 1) (b+t.size) k+vy (b+t.size) (b+t.size+sizes a) k:=by
   rw [qrr (by omega) (by omega),qrr (by omega) (by omega)];simp only [sizes];congr 1;push_cast;omega
  rw [h];omega
end
end Go.L02
namespace Go.L02
open Go Go.Eng Go.RowKit
open Go.Proofs hiding encI
open Go.L01 (Bs Own.same Tok qK qQ qh qi)
set_option maxRecDepth 100000
set_option maxHeartbeats 2000000
@[simp] theorem qHp:qg Tryz.prog 84=true:=by kernel_rfl
@[simp] theorem qHo:qg Tryz.prog 85=true:=by kernel_rfl
theorem qio {l:List Nd} (h:zR l=true):∃t:T,l=t.flat 0∧t.size≤400:=qtj h
theorem xd {w:World} {B:Nat} {a b:Array Value} {T:TypeId} (h:Blk w B a T) (e:a.toList=b.toList):Blk w B b T:=(Array.toList_inj.1 e)▸h
def qel (b:Bool):Int:=if b then 0 else 21
def vk (l:List Nd) (i:Int):Int:=if zR l then (if 0≤i∧i≤(l.length:Int) - 1 then 0 else 1) else 21
section
variable {w:World} {lv:Value} {xs:List NV}
theorem qlb (I:L01.G w) (H:zW w) (j:Rd w lv xs) (a:vA (xs.map (·.nd))) (i:Int):Calls Tryz.prog 84 #[lv, .int .i64 i] w fun e w'=>e= .returned (.int .i64 (vk (xs.map (·.nd)) i))∧qb w w':=by
 refine qyL fun ρ r0 r1=> ?_;have J:=j.len;simp -implicitDefEqProofs [qmB,r0];refine (qlf I H j (a.ds rfl) (a.kl rfl)).mono ?_;rintro _ w2 ⟨rfl,c⟩;unfold vk;cases z:zR (xs.map (·.nd)) with
 |false=>
  simp -implicitDefEqProofs;exact c
 |true=>
  obtain ⟨t,E,k⟩:=qio z;have y:xs.length=t.size:=by rw [←T.flat_len t 0,←E,List.length_map]
  have O:IntKind.i64.wrap ((xs.length:Int) - 1)=(xs.length:Int) - 1:=qr (by omega);simp -implicitDefEqProofs [qmz,r0,r1,j.cells.is,J,O];refine (qab w2 i 0 _).mono ?_;rintro _ w3 ⟨rfl,g⟩;obtain rfl:=g;by_cases h:0≤i
  ·by_cases o:i≤(xs.length:Int) - 1
   ·simp -implicitDefEqProofs [h,o,qmA];exact c
   ·simp -implicitDefEqProofs [h,o];exact c
  ·simp -implicitDefEqProofs [h];exact c
theorem qfS (Y:Rd w lv xs) (U:xs.length≤1000000):∀(n:Nat) (u:T) (i:Nat) (W:World),qb w W→u.size≤n→jo (xs.map (·.nd)) i u→Calls Tryz.prog 85 #[lv, .int .i64 (i:Int)] W fun e w'=>e= .returned (.int .i64 (u.size:Int))∧qb W w'
 |0,u,_,_,_,hn,_=>by have:=u.size_pos;omega
 |n+1,u,i,W,J,hn,o=>by
  have t:i<xs.length:=by have:=o.lt;rwa [List.length_map] at this
  have hl:=Y.len;have O:=Y.ext J;have E:=o.node;rw [List.getElem?_map,List.getElem?_eq_getElem t] at E;simp only [Option.map_some,Option.some.injEq] at E;have a:=O.kids xs[i] (List.getElem_mem _);have hkk:xs[i].nd.kids=qx (i+1 - u.size) u.kids:=by rw [E]
  rw [hkk] at a;have y:qk xs[i].kv=u.kids.length:=by have:=a.len;simpa [zX] using this.symm
  have c5:W.cell? (qJ lv (i*6+5))=some xs[i].kv:=by rw [O.cell t (by omega)];rfl
  have hle:=o.le;generalize xs[i].kv=kv at a y c5;have hsz:=u.size_eq;refine qyJ fun ρ r0 r1=> ?_;have H:(i:Int)<(xs.length:Int):=by omega
  simp -implicitDefEqProofs [qmy,r0,r1,Y.cells.is,hl,H,t,c5,a.is,y];have hul:u.kids.length≤sizes u.kids:=by have:=roots_sizes u.kids 0;rwa [zX] at this
  obtain ⟨I,Z⟩:∃I:Nat→qa→World→Prop,∀j g w',I j g w'↔(g 0=lv∧g 12=kv∧g 13= .int .i64 (u.kids.length:Int)∧g 5= .int .i64 ((1+sizes (u.kids.take j):Nat):Int)∧qb W w'):=⟨_,fun _ _ _=>Iff.rfl⟩;refine js 14 u.kids.length I (by simp) ((Z _ _ _).2 ⟨by simp [r0],by simp,by simp,by simp [sizes],qA _⟩) ?_;clear r0 r1;rintro j g w' hj rj aa;obtain ⟨r0,S,z,r5,V⟩:=(Z _ _ _).1 aa;have hwj:IntKind.i64.wrap ((j:Int)+1)=(j:Int)+1:=qr (by omega);by_cases c:j<u.kids.length
  ·have h:(j:Int)<(u.kids.length:Int):=by omega
   have k:=(a.ext V).cell j (by simpa [zX] using c);have hka:=o.kid c;have hg:=qa9 u.kids (i+1 - u.size) j c;have hjr:j<(qx (i+1 - u.size) u.kids).length:=by simpa [zX] using c
   rw [List.getElem?_eq_getElem hjr,Option.some.injEq] at hg;have e1:sizes (u.kids.take (j+1))=sizes (u.kids.take j)+u.kids[j].size:=by rw [List.take_succ_eq_append_getElem c,xp];simp [sizes]
   have hpos:=u.kids[j].size_pos;have e2:(((i+1 - u.size+sizes (u.kids.take (j+1)):Nat):Int) - 1)=((i+sizes (u.kids.take (j+1)) - u.size:Nat):Int):=by omega
   rw [List.getElem_map,hg,e2] at k;have hs1:sizes (u.kids.take (j+1))≤sizes u.kids:=by have:=congrArg sizes (List.take_append_drop (j+1) u.kids);rw [xp] at this;omega
   simp -implicitDefEqProofs [qgo,rj,z,h,c,qmw,S,a.is,y,k,encI,r0,r5];refine (qfS Y U n u.kids[j] _ w' (J.trans' V) (by omega) hka).mono ?_;rintro _ w3 ⟨rfl,hE3⟩;have hw5:IntKind.i64.wrap (1+(sizes (u.kids.take j):Int)+(u.kids[j].size:Int))=((1+sizes (u.kids.take (j+1)):Nat):Int):=by rw [qr (by omega)];omega
   simp -implicitDefEqProofs [qmx,rj,hwj,c,hw5];exact (Z _ _ _).2 ⟨by simp [r0],by simp [S],by simp [z],by simp,V.trans' hE3⟩
  ·have h:¬(j:Int)<(u.kids.length:Int):=by omega
   have e:u.kids.take j=u.kids:=List.take_of_length_le (by omega);rw [e] at r5;simp -implicitDefEqProofs [qgo,rj,z,h,c,qmv,r5];exact ⟨by omega,V⟩
theorem qch:jG Tryz.prog 3 1=true:=by kernel_rfl
end
end Go.L02
namespace Go.L02
open Go.Eng
open Go.L01 (Bs Tok jL jq jw qh qu right)
def kQ (sep:Bs):List Bs→Bs
 |[]=>[]
 |[x]=>x
 |x::y::ys=>x++(sep++kQ sep (y::ys))
def yP (ss:List Bs) (i:Nat):Bs:=ss.getD i []
def qbB (ks:List T) (i:Nat):Nat:=match ks[i]? with|some t=>t.d.kind|none=>0
def opd (k:Nat) (s:Bs):Bs:=if k=6 then [40]++(s++[41]) else s
def qDR (d:D):Bs:=if d.vr≠[] then d.vr++([36]++d.name) else if d.typ≠[] then d.name++([123]++(d.typ++[125])) else d.name
def xtD (d:D) (ks:List T) (ss:List Bs):Bs:=
 if d.kind=1 then Lib.itoa d.n
 else if d.kind=2 then (if d.n=1 then [116,114,117,101] else [102,97,108,115,101])
 else if d.kind=3 then [110,105,108]
 else if d.kind=4 then d.name
 else if d.kind=5 then qDR d++([40]++(kQ [44,32] ss++[41]))
 else if d.kind=6 then (if ks.length=1 then [110,111,116,32]++opd (qbB ks 0) (yP ss 0) else opd (qbB ks 0) (yP ss 0)++([32]++(d.name++([32]++opd (qbB ks 1) (yP ss 1)))))
 else if d.kind=7 then opd (qbB ks 0) (yP ss 0)++([91]++(yP ss 1++[93]))
 else if d.kind=8 then opd (qbB ks 0) (yP ss 0)++([46]++d.name)
 else if d.kind=9 then [117,112,40]++(yP ss 0++[41])
 else [100,111,119,110,40]++(yP ss 0++[41])
mutual
def xt:T→Bs| .mk d ks=>xtD d ks (xts ks)
def xts:List T→List Bs|[]=>[] |t::ts=>xt t::xts ts
end
def ot (t:T):Bs:=opd t.d.kind (xt t)
def quB (l:List Bs):List Bs:=l.dropLast++(match l.getLast? with|some s=>[s++[59]] |none=>[])
def qa0:List (List Bs)→List Bs
 |[]=>[]
 |[l]=>l
 |l::m::ls=>quB l++qa0 (m::ls)
def qd5 (l:List Bs):List Bs:=l.map ([32,32]++ ·)
def xk (ks:List T) (i:Nat):Bs:=match ks[i]? with|some t=>xt t|none=>[]
def ok (ks:List T) (i:Nat):Bs:=match ks[i]? with|some t=>ot t|none=>[]
def qyb (d:D) (ks:List T):Bs:=
 if d.kind=21 then [118,97,114,32]++(d.name++([58,32]++(d.typ++([32,58,61,32]++xk ks 0))))
 else if d.kind=22 then d.name++([32,58,61,32]++xk ks 0)
 else if d.kind=23 then ok ks 0++([91]++(xk ks 1++([93,32,58,61,32]++xk ks 2)))
 else if d.kind=24 then ok ks 0++([46]++(d.name++([32,58,61,32]++xk ks 1)))
 else if d.kind=25 then xk ks 0
 else if d.kind=37 then [112,117,116,32]++xk ks 0
 else if d.kind=30 then [121,105,101,108,100,32]++xk ks 0
 else if d.kind=31 then [115,105,103,110,97,108,32]++d.name
 else if d.kind=34 then [98,114,101,97,107]
 else if ks.length=0 then [114,101,116,117,114,110] else [114,101,116,117,114,110,32]++xk ks 0
def qtk (s:Bs):Bs:=if s=[] then [111,116,104,101,114,115] else s
mutual
def stL:T→List Bs
 | .mk d ks=>
  if d.kind=26 then condL [105,102] ks++[[101,110,100]]
  else if d.kind=27 then ([119,104,105,108,101,32]++(xk ks 0++[32,100,111]))::(blkL 1 ks++[[101,110,100]])
  else if d.kind=28 then ([102,111,114,32]++(d.name++([58,32]++(d.typ++([32,105,110,32]++(xk ks 0++[32,100,111]))))))::(blkL 1 ks++[[101,110,100]])
  else if d.kind=32 then [98,101,103,105,110]::(blkL 0 ks++([101,120,99,101,112,116]::(whensT ks++[[101,110,100]])))
  else if d.kind=35 then ([116,97,103,99,97,115,101,32]++xk ks 0)::(armsT ks++[[101,110,100]])
  else [qyb d ks]
def qaU:List T→List (List Bs)|[]=>[] |t::ts=>stL t::qaU ts
def blkL:Nat→List T→List Bs
 |_,[]=>[]
 |0, .mk _ qs::_=>qd5 (qa0 (qaU qs))
 |i+1,_::ks=>blkL i ks
def condL:Bs→List T→List Bs
 |word,[c, .mk _ qs]=>(word++([32]++(xt c++[32,116,104,101,110])))::qd5 (qa0 (qaU qs))
 |word,[c, .mk _ qs, .mk _ rs]=>(word++([32]++(xt c++[32,116,104,101,110])))::(qd5 (qa0 (qaU qs))++elseL (qd5 (qa0 (qaU rs))) rs)
 |_,_=>[]
def elseL:List Bs→List T→List Bs
 |ls,[.mk d ks]=>if d.kind=26 then condL [101,108,115,101,105,102] ks else [101,108,115,101]::ls
 |ls,_=>[101,108,115,101]::ls
def whensT:List T→List Bs|[]=>[] |_::ts=>whensL ts
def armsT:List T→List Bs|[]=>[] |_::ts=>armsL ts
def whensL:List T→List Bs
 |[]=>[]
 | .mk d ks::ts=>([119,104,101,110,32]++(qtk d.name++[58]))::(blkL 0 ks++whensL ts)
def armsL:List T→List Bs
 |[]=>[]
 | .mk d ks::ts=>([116,97,103,32]++(d.name++([40]++(d.vr++([58,32]++(d.typ++[41,58]))))))::(blkL 0 ks++armsL ts)
end
end Go.L02
