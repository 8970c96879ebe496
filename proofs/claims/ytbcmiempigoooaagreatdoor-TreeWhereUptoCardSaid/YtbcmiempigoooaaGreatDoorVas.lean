/- Lemmas for a claim about layer 2 (tree). No conditions but those they state. -/
import Derived.Test.YtbcmiempigoooaaGreatDoorVar
import Derived.Shelf.Strings.Cut
import Derived.Test.YtbcmiempigoooaaGreatDoorProg
import Derived.KernelRfl
import Derived.Lib.ItoaNum
set_option linter.all false
noncomputable section
namespace Go.Proofs
open Go.Shelf
def Tryz.lays145_ren:Go.Shelf.Ren:=⟨fun|145=>76|220=>161|219=>230|217=>282|225=>283|224=>284|267=>285|266=>330|314=>331|n=>n,fun|9=>9|4=>4|59=>107|3=>3|5=>5|46=>266|146=>300|51=>285|n=>n,fun|1=>0|n=>n⟩
def Tryz.lays145:Go.Proofs.Lays.n145 Tryz.prog Tryz.lays145_ren:={
 mixed:=by kernel_rfl
 f145:=fT Tryz.func76 (by kernel_rfl)
 f217:=fT Tryz.func282 (by kernel_rfl)
 f219:=fT Tryz.func230 (by kernel_rfl)
 f220:=fT Tryz.func161 (by kernel_rfl)
 f224:=fT Tryz.func284 (by kernel_rfl)
 f225:=fT Tryz.func283 (by kernel_rfl)
 f266:=fT Tryz.func330 (by kernel_rfl)
 f267:=fT Tryz.func285 (by kernel_rfl)
 f314:=fT Tryz.func331 (by kernel_rfl)
 t3:=Tryz.underlying3
 a3:=Tryz.isAgg3
 z3:=Tryz.sizeOf3
 v3:=Tryz.zeroValue3
 t4:=Tryz.underlying4
 a4:=Tryz.isAgg4
 z4:=Tryz.sizeOf4
 v4:=Tryz.zeroValue4
 t5:=Tryz.underlying5
 a5:=Tryz.isAgg5
 z5:=Tryz.sizeOf5
 v5:=Tryz.zeroValue5
 t9:=Tryz.underlying9
 a9:=Tryz.isAgg9
 z9:=Tryz.sizeOf9
 v9:=Tryz.zeroValue9
 t46:=Tryz.underlying266
 a46:=Tryz.isAgg266
 z46:=Tryz.sizeOf266
 v46:=Tryz.zeroValue266
 t51:=Tryz.underlying285
 a51:=Tryz.isAgg285
 z51:=Tryz.sizeOf285
 v51:=Tryz.zeroValue285
 t59:=Tryz.underlying107
 a59:=Tryz.isAgg107
 z59:=Tryz.sizeOf107
 v59:=Tryz.zeroValue107
 t146:=Tryz.underlying300
 a146:=Tryz.isAgg300
 z146:=Tryz.sizeOf300
 v146:=Tryz.zeroValue300
 g1:=by kernel_rfl}
def Tryz.cut (s sep:ByteArray) (m:Int) (w:AA) (c:s.size<4294967281) (a:w.cell? ⟨0,0,none⟩=some (.int .i64 m)):
  Calls Tryz.prog 76 #[.string s,.string sep] w fun e w'=>e=.returned (.tuple #[.string ⟨(Lib.cut s.data.toList sep.data.toList).1.toArray⟩,.string ⟨(Lib.cut s.data.toList sep.data.toList).2.1.toArray⟩,.bool (Lib.cut s.data.toList sep.data.toList).2.2])/\∃n,w'=w.drewN n:=Any.strings_Cut Tryz.lays145 s sep m w c a
end Go.Proofs
namespace Go.L02
open Go Go.Eng Go.RowKit
open Go.Proofs hiding encI
open Go.L01 (Bd Bs Own.same SlK Tok fV jM jQ jR jW jZ jp qC qH qJ qW qY qcH qi vA vw)
set_option maxRecDepth 100000
set_option maxHeartbeats 2000000
theorem qu7 (c:UInt8):∀s:Bs,Lib.index s [c]=match s.findIdx? (fun b=>decide (b=c)) with|none=> -1|some k=>(k:Int)
 |[]=>by simp [Lib.index]
 |b::l=>by
  rw [Lib.index,List.findIdx?_cons];by_cases h:b=c
  ·subst h;simp [List.isPrefixOf]
  ·have a:¬c=b:=fun e=>h e.symm;rw [qu7 c l];simp only [List.isPrefixOf,h,a,uL,Bool.and_true,ud,decide_false,uk];cases l.findIdx? (fun b=>decide (b=c)) with
   |none=>rfl
   |some k=>
    simp only [Option.map_some];rw [q3 (by omega)]
    push_cast
    rfl
theorem qIB (s:Bs):Lib.cut s [95]=match qd2 s with|none=>(s,[],false)|some k=>(s.take k,s.drop (k+1),true):=by
 unfold Lib.cut qd2;rw [qu7];cases s.findIdx? (fun c=>decide (c=95)) with
 |none=>rfl
 |some k=>simp
def xI (w:AA):Prop:=∃m,w.cell? ⟨0,0,none⟩=some (.int .i64 m)
def xI.ext {w w':AA} (h:xI w) (a:qc w w'):xI w':=by
 obtain ⟨m,h⟩:=h;exact ⟨m,a.cell h⟩
theorem qoO {w:AA} (o:L01.G w) (z:xI w) (s:Bs) (E:s.length<4294967281):Calls Tryz.prog 24 #[.string (qb s)] w fun e w'=>e=.returned (.bool (yc s))/\qc w w':=by
 refine qFg fun ρ r0=>?_;simp -implicitDefEqProofs [qsl,r0];refine (qox s w).mono ?_;rintro _ w1 ⟨rfl,j⟩;cases h:kY.contains s with
 |true=>
  have e:yc s=true:=by unfold yc;rw [h];rfl
  simp -implicitDefEqProofs [e];exact j
 |false=>
  have e:yc s=(match qd2 s with|none=>qJ s|some k=>qJ (s.take k)&&qJ (s.drop (k+1))):=by unfold yc;rw [h];rfl
  simp -implicitDefEqProofs [qsg,r0];obtain ⟨m,H⟩:=z.ext j;refine (Tryz.cut (qb s) (qb [95]) m w1 E H).mono ?_;rintro _ w2 ⟨rfl,n,rfl⟩;have a:qc w (w1.drewN n):=j.trans' ⟨rfl,rfl,rfl,kh _,fun _ _=>rfl⟩;have y:Lib.cut (qb s).data.toList (qb [95]).data.toList=_:=qIB s;rw [y];cases t:qd2 s with
  |none=>
   rw [t] at e;simp -implicitDefEqProofs;refine (L01.yp (o.ext a) s).mono ?_;rintro _ w3 ⟨rfl,c⟩;have g:yc s=qJ s:=e;cases hn:qJ s with
   |true=>
    rw [hn] at g;simp -implicitDefEqProofs [g];exact a.trans' c
   |false=>
    rw [hn] at g;simp -implicitDefEqProofs [g];exact a.trans' c
  |some k=>
   rw [t] at e;simp -implicitDefEqProofs;refine (L01.yp (o.ext a) (s.take k)).mono ?_;rintro _ w3 ⟨rfl,c⟩;have g:yc s=(qJ (s.take k)&&qJ (s.drop (k+1))):=e;cases hn:qJ (s.take k) with
   |true=>
    rw [hn] at g;simp -implicitDefEqProofs;refine (L01.yp ((o.ext a).ext c) (s.drop (k+1))).mono ?_;rintro _ I ⟨rfl,q⟩;simp -implicitDefEqProofs [g];exact (a.trans' c).trans' q
   |false=>
    rw [hn] at g;simp -implicitDefEqProofs [g];exact a.trans' c
def qj7:IR:=zq [za 6 (zQ false),za 6 (.ite (zI .geq (zv 0) (zv 1)) (zI .leq (zv 0) (zv 2)) (zQ false))] <| .ret
def qHd:List Nat:=[0,1,2,6]
def qHc:C3 127 15 qHd qj7 [.tmp 6]:=c3 [] Tryz.func127
def qsF:IR:=zq [zm 9 1,zm 10 0,zE 11 (.call {callee:=.value (zt 9),args:=#[zt 10],argTypes:=#[9]}) 4,zm 4 11] <| .ret
def qsG:IR:=zq [za 4 (zQ false),zm 5 1,zE 6 (.binOp .eql 34 (zt 5) (.const .nilFunc) 34) 4] <| .seq (.cond (zv 6) (zq [za 4 (zS .eql (zv 0) (.const (zs #[])))] <| .ret) .skip) (qsF)
def qFE:List Nat:=zV 12 [2,3,7,8]
def qFD:C2 225 12 qFE qsG [.tmp 4]:=c2 [] Tryz.func225
def qsD:IR:=zq [za 15 (zo 2 (zv 1)),zc 16 22 #[zt 15] #[9] 4,zm 17 16,zg 17 true 19 (zo 1 (zv 1)),zh 17 true 20 24 #[zt 19] #[9] 4,za 2 (.ite (.ite (zv 17) (zv 20) (zQ false)) (zS .eql (zo 3 (zv 1)) (.const (zs #[]))) (zQ false))] <| .ret
def qsE:IR:=zq [zE 1 (.box 44 (zt 0)) 0,za 2 (zQ false),za 5 (zS .eql (zo 2 (zv 1)) (.const (zs #[])))] <| .seq (.cond (zv 5) (zq [za 7 (zo 1 (zv 1)),zc 8 77 #[zt 7] #[9] 4,zm 9 8,zg 9 true 11 (zo 3 (zv 1)),zh 9 true 12 280 #[zt 11] #[9] 4,za 2 (.ite (zv 9) (zv 12) (zQ false))] <| .ret) .skip) (qsD)
def qFC:List Nat:=zV 21 [3,4,6,10,13,14,18]
def qFB:C1 226 27 qFC qsE [.tmp 2]:=c1 [] Tryz.func226
def qjg:IR:=zq [za 2 (zQ false),za 5 (zS .eql (zv 0) (.const (zs #[]))),zg 5 false 6 (zv 0),zh 5 false 7 22 #[zt 6] #[9] 4,za 2 (.ite (zv 5) (zQ true) (zv 7))] <| .ret
def qEN:List Nat:=zV 8 [1,3,4]
def qEM:C1 280 9 qEN qjg [.tmp 2]:=c1 [] Tryz.func280
def qsO:IR:=zq [zE 1 (.box 3 (zt 0)) 0,za 2 (.const .nilFunc),zE 3 (.makeFunc (.func 278) #[] #[zt 1]) 238,zm 2 3] <| .ret
def qFO:List Nat:=zV 4 []
def qFN:C1 220 4 qFO qsO [.tmp 2]:=c1 [] Tryz.func220
def qrL:IR:=zq [za 3 (zQ false),zm 4 0,za 5 (zl (zv 1)),zc 6 127 #[zt 4,zO 0,zt 5] #[3,3,3] 4,zm 3 6] <| .ret
def qER:List Nat:=zV 7 [2]
def qEQ:C2 278 7 qER qrL [.tmp 3]:=c2 [] Tryz.func278
def qsL:IR:=zq [zE 1 (.box 5 (zt 0)) 0,za 2 (.const .nilFunc),zE 3 (.makeFunc (.func 279) #[] #[zt 1]) 98,zm 2 3] <| .ret
def qFI:List Nat:=zV 4 []
def qFH:C1 223 4 qFI qsL [.tmp 2]:=c1 [] Tryz.func223
def qrK:IR:=zq [zE 2 (.box 44 (zt 0)) 0,za 3 (zQ false),za 3 (zB .eql (zo 0 (zv 2)) (zl (zv 1)))] <| .ret
def qEP:List Nat:=zV 4 []
def qEO:C2 279 8 qEP qrK [.tmp 3]:=c2 [] Tryz.func279
def qsN:IR:=zq [za 2 (zQ false),zE 3 (.buildSlice 51 11 #[(0,(zY #[110,111,116])),(1,(zY #[43])),(2,(zY #[45])),(3,(zY #[42])),(4,(zY #[47])),(5,(zY #[109,111,100])),(6,(zY #[60])),(7,(zY #[60,61])),(8,(zY #[61])),(9,(zY #[97,110,100])),(10,(zY #[111,114]))]) 51,zm 4 0,zc 5 160 #[zt 3,zt 4] #[51,9] 4,zm 2 5] <| .ret
def qFM:List Nat:=zV 6 [1]
def qFL:C1 221 6 qFM qsN [.tmp 2]:=c1 [] Tryz.func221
def qsM:IR:=zq [zE 1 (.box 44 (zt 0)) 0,za 2 (zQ false),za 3 (zo 0 (zv 1)),za 7 (.op1 (.conv .i64) (zv 3)),zc 8 127 #[zt 7,zO 21,zO 31] #[3,3,3] 4,za 2 (.ite (.ite (.ite (.ite (zv 8) (zQ true) (zB .eql (zv 3) (.const (zu 32)))) (zQ true) (zB .eql (zv 3) (.const (zu 34)))) (zQ true) (zB .eql (zv 3) (.const (zu 35)))) (zQ true) (zB .eql (zv 3) (.const (zu 37))))] <| .ret
def qFK:List Nat:=zV 9 [4,5,6]
def qFJ:C1 222 25 qFK qsM [.tmp 2]:=c1 [] Tryz.func222
def qp7:IR:=zq [zE 1 (.box 44 (zt 0)) 0,za 2 (zQ false),za 5 (.op1 (.conv .i64) (zo 0 (zv 1))),zc 6 127 #[zt 5,zO 1,zO 10] #[3,3,3] 4,zm 2 6] <| .ret
def qDF:List Nat:=zV 7 [3,4]
def qDE:C1 65 7 qDF qp7 [.tmp 2]:=c1 [] Tryz.func65
def qpZ:IR:=zq [zE 1 (.box 44 (zt 0)) 0,za 2 (zQ false),za 2 (zB .eql (zo 0 (zv 1)) (.const (zu 20)))] <| .ret
def qDt:List Nat:=zV 3 []
def qDs:C1 80 6 qDt qpZ [.tmp 2]:=c1 [] Tryz.func80
def qsR:IR:=zq [zE 2 (.box 241 (zt 0)) 0,za 4 (.const (.pointer none)),zm 5 1,za 7 (zL (zv 1)),za 9 (zL (zv 1)),za 10 (zf 4 (zv 2)),zw 239 (zt 10) (zt 5),za 11 (zf 6 (zv 2)),zw 3 (zt 11) (zt 7),za 12 (zf 7 (zv 2)),zw 3 (zt 12) (zt 9),zm 4 2] <| .ret
def qFS:List Nat:=zV 13 [3,6,8]
def qFR:C2 218 13 qFS qsR [.tmp 4]:=c2 [] Tryz.func218
def qsQ:IR:=zq [za 2 (zQ false),za 2 (zQ true)] <| .ret
def qFQ:List Nat:=[0,2]
def qFP:C1 219 3 qFQ qsQ [.tmp 2]:=c1 [] Tryz.func219
noncomputable def qcm:Code:=((Tryz.f147.body).getD .skip)
def qjZ:IR:=zq [zm 122 11,za 126 (zM 6 (zx 6 (zv 0) (zv 10))),zE 127 (.call {callee:=.value (zt 122),args:=#[zt 126],argTypes:=#[44]}) 4,za 128 (zn (zv 127))] <| .cond (zv 128) (zq [za 6 (zQ false)] <| .ret) .skip
def qfT:IR:=.reg [za 99 (zI .add (zv 99) (zK 1))]
def qjW:IR:=.seq (.block 1 (zq [zm 101 99,za 103 (zl (zx 1 (zv 97) (zv 99))),zm 9 101,zm 10 103,za 11 (zo 5 (zN (zv 7))),za 114 (zI .lss (zv 9) (zL (zo 4 (zN (zv 7)))))] <| .seq (.cond (zv 114) (.reg [za 11 (zl (zx 1 (zo 4 (zN (zv 7))) (zv 9)))]) .skip) (qjZ))) (qfT)
def qfQ:IR:=zq [za 100 (zI .lss (zv 99) (zv 98))] <| .seq (.cond (zv 100) .skip (.exit 0)) (qjW)
def qjV:IR:=.reg [za 152 (zI .add (zv 152) (zK 1))]
def qt1:IR:=.seq (.block 4 (zq [zm 154 152,za 156 (zl (zx 1 (zv 150) (zv 152))),zm 12 154,zm 13 156,za 14 (zo 1 (zx 6 (zv 0) (zv 13))),zm 162 14,zc 163 77 #[zt 162] #[9] 4,za 176 (.ite (zn (zv 163)) (.ite (zS .neq (zv 14) (.const (zs #[]))) (zQ true) (zI .lss (zv 12) (zI .sub (zL (zo 5 (zv 4))) (zK 2)))) (zQ false))] <| .cond (zv 176) (zq [za 6 (zQ false)] <| .ret) .skip)) (qjV)
def qjS:IR:=zq [za 153 (zI .lss (zv 152) (zv 151))] <| .seq (.cond (zv 153) .skip (.exit 3)) (qt1)
def qjU:IR:=zq [za 6 (zQ true)] <| .ret
def qcl:IR:=zq [za 131 (zo 0 (zv 4))] <| .seq (.block 2 (zq [za 132 (zB .eql (zv 131) (.const (zu 5)))] <| .cond (zv 132) (zq [za 134 (zM 6 (zv 4)),zc 135 226 #[zt 134] #[44] 4,zm 6 135] <| .ret) (zq [za 136 (zB .eql (zv 131) (.const (zu 6)))] <| .cond (zv 136) (zq [za 6 (.op2 (.bbin .eql) (zS .eql (zo 1 (zv 4)) (.const (zs #[110,111,116]))) (zI .eql (zL (zo 5 (zv 4))) (zK 1)))] <| .ret) (zq [za 146 (zB .eql (zv 131) (.const (zu 32)))] <| .cond (zv 146) (zq [za 150 (.op2 (.slLo 1) (zo 5 (zv 4)) (zK 1)),za 151 (zL (zv 150)),za 152 (zK 0)] <| .block 3 (.loop qjS)) .skip)))) (qjU)
def qjT:IR:=zq [za 97 (zo 5 (zv 4)),za 98 (zL (zv 97)),za 99 (zK 0)] <| .seq (.block 0 (.loop qfQ)) (qcl)
def qfS:IR:=.seq (.cond (zv 95) (zq [za 6 (zQ false)] <| .ret) .skip) (qjT)
def qjY:IR:=.seq (.drw [za 50 (zo 1 (zv 4)),za 54 (zo 0 (zN (zv 7))),zc 55 225 #[zt 50,zt 54] #[9,34] 4,za 57 (zn (zv 55)),zg 57 false 59 (zo 2 (zv 4)),zg 57 false 63 (zo 1 (zN (zv 7))),zh 57 false 64 225 #[zt 59,zt 63] #[9,34] 4,za 67 (.ite (zv 57) (zQ true) (zn (zv 64))),zg 67 false 69 (zo 3 (zv 4)),zg 67 false 73 (zo 2 (zN (zv 7))),zh 67 false 74 225 #[zt 69,zt 73] #[9,34] 4,za 81 (.ite (.ite (zv 67) (zQ true) (zn (zv 74))) (zQ true) (zn (zv 8))),zg 81 false 84 (zL (zo 5 (zv 4))),zg 81 false 88 (zo 6 (zN (zv 7))),zg 81 false 92 (zo 7 (zN (zv 7))),zh 81 false 93 127 #[zt 84,zt 88,zt 92] #[3,3,3] 4,za 95 (.ite (zv 81) (zQ true) (zn (zv 93)))]) (qfS)
def qjX:IR:=zq [za 8 (zI .eql (zo 4 (zv 4)) (zK 0)),za 40 (zo 3 (zN (zv 7))),zE 41 (.binOp .neq 238 (zt 40) (.const .nilFunc) 238) 4] <| .seq (.cond (zv 41) (.raw (qv qcm 6)) .skip) (qjY)
def qt2:IR:=.seq (.raw (qv qcm 3)) (qjX)
def qfR:IR:=.seq (.cond (zv 27) (zq [za 6 (zQ false)] <| .ret) .skip) (qt2)
def qt3:IR:=zq [zE 4 (.box 44 (zt 1)) 0,za 6 (zQ false)] <| .seq (.raw (qv qcm 1)) (qfR)
def kT:List Nat:=[0,1,2,4,6,7,8,9,10,11,12,13,14,15,16,17,18,19,20,21,22,23,24,25,26,27,28,29,30,31,32,33,40,41,42,43,44,45,46,47,48,50,54,55,57,59,63,64,67,69,73,74,81,84,88,92,93,95,97,98,99,100,101,103,114,122,126,127,128,131,132,134,135,136,146,150,151,152,153,154,156,162,163,176]
def qGQ:C3 147 178 kT qt3 [.tmp 6]:=c3 [6,3,1] Tryz.func147
def qjR:OT:=zy 15 (zf 0 (zv 4))<|zy 16 (zl (zv 15))<|zy 17 (.op1 (.conv .i64) (zv 16))<|zy 18 (zI .geq (zv 17) (zK 38))<|zy 19 (zv 18)<| .take (some (19,false)) 20 (zv 2)<| .take (some (19,false)) 21 (zf 0 (zv 4))<| .take (some (19,false)) 22 (zl (zv 21))<| .take (some (19,false)) 23 (zN (zv 20))<| .step (.eff (some (19,false)) (some 24) (.indexAddr 175 (zt 23) (zt 22)) 0) false<| .step (zg 19 false 25 (zl (zv 24))) false<| .step (.eff (some (19,false)) (some 26) (.binOp .eql 174 (zt 25) (.const (.pointer none)) 174) 4) false<| .step (za 27 (.ite (zv 19) (zQ true) (zv 26))) false<| .done
theorem qGP:jx Tryz.prog 178 kT 9 (qv qcm 1)=some qjR:=by kernel_rfl
def qt0:OT:=zy 28 (zv 2)<|zy 29 (zf 0 (zv 4))<|zy 30 (zl (zv 29))<|zy 31 (zN (zv 28))<| .step (zE 32 (.indexAddr 175 (zt 31) (zt 30)) 0) false<| .step (za 33 (zl (zv 32))) false<| .step (zm 7 33) false<| .done
theorem qGO:jx Tryz.prog 178 kT 4 (qv qcm 3)=some qt0:=by kernel_rfl
def qtZ:OT:=zy 42 (zv 7)<|zy 43 (zN (zv 42))<|zy 44 (zf 3 (zv 43))<|zy 45 (zl (zv 44))<|zy 46 (zf 4 (zv 4))<|zy 47 (zl (zv 46))<| .step (zE 48 (.call {callee:=.value (zt 45),args:=#[zt 47],argTypes:=#[3]}) 4) false<| .step (zm 8 48) false<| .done
theorem qGN:jx Tryz.prog 178 kT 6 (qv qcm 6)=some qtZ:=by kernel_rfl
def qpL:IR:=.reg [za 34 (.op4 (.slMax 1) (zv 3) (zK 0) (zv 6) (zv 6)),zm 35 4,zE 36 (.buildSlice 40 1 #[(0,(zt 35))]) 40,zp 37 #[zt 34,zt 36] #[40,40] 40,zm 3 37]
def qfs:IR:=.seq (.cond (zv 30) (zq [za 2 (zQ false)] <| .ret) .skip) (qpL)
def qpK:IR:=.reg [za 9 (zI .add (zv 9) (zK 1))]
def qpJ:IR:=.seq (.block 1 (zq [zm 11 9,za 13 (zM 6 (zx 6 (zv 7) (zv 9))),zA 5 44,zm 4 11,zw 44 (zt 5) (zt 13),za 6 (zI .sub (zL (zv 3)) (zL (zo 5 (zv 5))))] <| .seq (.drw [za 22 (zI .lss (zv 6) (zK 0)),zg 22 false 25 (.op2 (.slLo 1) (zv 3) (zv 6)),zg 22 false 27 (zo 5 (zv 5)),zh 22 false 28 50 #[zt 25,zt 27] #[40,40] 4,za 30 (.ite (zv 22) (zQ true) (zn (zv 28)))]) (qfs))) (qpK)
def qiF:IR:=zq [za 10 (zI .lss (zv 9) (zv 8))] <| .seq (.cond (zv 10) .skip (.exit 0)) (qpJ)
def qpI:IR:=zq [za 2 (zI .eql (zL (zv 3)) (zK 1))] <| .ret
def qpM:IR:=zq [za 2 (zQ false),za 3 (.const (.slice none 0 0)),zm 7 0,za 8 (zL (zv 7)),za 9 (zK 0)] <| .seq (.block 0 (.loop qiF)) (qpI)
def qDk:List Nat:=zV 38 [1,12,14,15,16,17,18,19,20,21,23,24,26,29,31,32,33]
def qDj:C1 98 42 qDk qpM [.tmp 2]:=c1 [] Tryz.func98
def qt4:IR:=zq [zE 3 (.box 44 (zt 0)) 0,za 4 (zQ false),za 5 (zl (zv 1)),za 6 (zM 6 (zv 3)),zc 7 147 #[zt 5,zt 6,zt 2] #[29,44,178] 4,za 4 (zn (zv 7))] <| .ret
def qGS:List Nat:=zV 8 []
def qGR:C3 146 9 qGS qt4 [.tmp 4]:=c3 [] Tryz.func146
def qt5:IR:=zq [za 4 (zQ false),zm 5 0,zm 6 1,zc 7 224 #[zt 5,zt 6] #[29,98] 3,za 4 (zI .geq (zv 7) (zK 0))] <| .ret
def qGU:List Nat:=zV 8 [2,3]
def qGT:C2 145 9 qGU qt5 [.tmp 4]:=c2 [] Tryz.func145
def qsJ:IR:=.reg [za 8 (zI .add (zv 8) (zK 1))]
def qsI:IR:=.seq (.block 1 (zq [zm 5 8,zm 11 1,za 15 (zM 6 (zx 6 (zv 0) (zv 5))),zE 16 (.call {callee:=.value (zt 11),args:=#[zt 15],argTypes:=#[44]}) 4] <| .cond (zv 16) (zq [zm 4 5] <| .ret) .skip)) (qsJ)
def qjx:IR:=zq [za 9 (zI .lss (zv 8) (zv 7))] <| .seq (.cond (zv 9) .skip (.exit 0)) (qsI)
def qsH:IR:=zq [za 4 (.const (.int .i64 (-1)))] <| .ret
def qsK:IR:=zq [za 4 (zK 0),za 7 (zL (zv 0)),za 8 (zK 0)] <| .seq (.block 0 (.loop qjx)) (qsH)
def qFG:List Nat:=zV 17 [2,3,6,10,12,13,14]
def qFF:C2 224 19 qFG qsK [.tmp 4]:=c2 [] Tryz.func224
def qp8:IR:=zq [zc 26 144 #[] #[] 175,zA 5 175,zw 175 (zt 5) (zt 26),za 27 (zl (zv 2)),zE 28 (.makeFunc (.func 146) #[] #[zt 2,zt 5]) 98,zc 29 145 #[zt 27,zt 28] #[29,98] 4,za 4 (zn (zv 29))] <| .ret
def qp9:IR:=zq [zE 2 (.box 29 (zt 0)) 0,za 4 (zQ false),za 7 (zL (zl (zv 2))),zc 8 127 #[zt 7,zO 1,zO 400] #[3,3,3] 4,za 10 (zn (zv 8)),zg 10 false 11 (zl (zv 2)),zh 10 false 12 98 #[zt 11] #[29] 4,za 15 (.ite (zv 10) (zQ true) (zn (zv 12))),zg 15 false 16 (zv 1),zg 15 false 22 (zM 6 (zx 6 (zl (zv 2)) (zI .sub (zL (zl (zv 2))) (zK 1)))),.eff (some (15,false)) (some 23) (.call {callee:=.value (zt 16),args:=#[zt 22],argTypes:=#[44]}) 4,za 25 (.ite (zv 15) (zQ true) (zn (zv 23)))] <| .seq (.cond (zv 25) (zq [za 4 (zQ false)] <| .ret) .skip) (qp8)
def qDH:List Nat:=zV 30 [3,6,9,13,14,17,18,19,20,21,24]
def qDG:C2 64 31 qDH qp9 [.tmp 4]:=c2 [] Tryz.func64
def qrX:IR:=zq [za 2 (zK 0)] <| .ret
def qsf:IR:=zq [za 2 (zK 0),zm 3 0,zc 4 64 #[zt 3,(.func 80)] #[29,98] 4,za 5 (zn (zv 4))] <| .seq (.cond (zv 5) (zq [za 2 (zK 21)] <| .ret) .skip) (qrX)
def qE3:List Nat:=zV 6 [1]
def qE2:C1 26 6 qE3 qsf [.tmp 2]:=c1 [] Tryz.func26
def qj6:IR:=.reg [za 7 (zI .add (zv 7) (zK 1))]
def quB:IR:=.seq (.block 1 (zq [zm 9 7,za 11 (zl (zx 1 (zv 5) (zv 7))),zm 3 9,zm 4 11,zm 12 4,zc 13 77 #[zt 12] #[9] 4,za 27 (.ite (zn (zv 13)) (zQ true) (.ite (zI .gtr (zv 3) (zK 0)) (zS .geq (zl (zx 1 (zv 0) (zI .sub (zv 3) (zK 1)))) (zv 4)) (zQ false)))] <| .cond (zv 27) (zq [za 2 (zQ false)] <| .ret) .skip)) (qj6)
def qj5:IR:=zq [za 8 (zI .lss (zv 7) (zv 6))] <| .seq (.cond (zv 8) .skip (.exit 0)) (quB)
def quA:IR:=zq [za 2 (zQ true)] <| .ret
def quC:IR:=zq [za 2 (zQ false),zm 5 0,za 6 (zL (zv 5)),za 7 (zK 0)] <| .seq (.block 0 (.loop qj5)) (quA)
def qHb:List Nat:=[0,2,3,4,5,6,7,8,9,11,12,13,27]
def qHa:C1 128 29 qHb quC [.tmp 2]:=c1 [] Tryz.func128
def qsS:IR:=zq [za 2 (zQ false),zm 3 0,zc 4 22 #[zt 3] #[9] 4,za 2 (zn (zv 4))] <| .ret
def qFU:List Nat:=zV 5 [1]
def qFT:C1 211 6 qFU qsS [.tmp 2]:=c1 [] Tryz.func211
def quE:IR:=zq [zE 1 (.box 80 (zt 0)) 0,za 2 (zQ false),za 12 (.ite (zS .eql (zo 2 (zv 1)) (.const (zs #[]))) (zn (zo 0 (zv 1))) (zQ false)),zg 12 false 14 (zo 2 (zv 1)),zh 12 false 15 22 #[zt 14] #[9] 4,za 3 (.ite (zv 12) (zQ true) (zv 15)),za 24 (.ite (zv 3) (zI .leq (zL (zo 1 (zv 1))) (zK 6)) (zQ false)),zg 24 true 26 (zo 1 (zv 1)),zh 24 true 27 93 #[zt 26,(.func 211)] #[51,34] 4,za 36 (.ite (.ite (zv 24) (zn (zv 27)) (zQ false)) (zI .leq (zL (zo 3 (zv 1))) (zK 6)) (zQ false)),zg 36 true 38 (zo 3 (zv 1)),zh 36 true 39 128 #[zt 38] #[51] 4,za 2 (.ite (zv 36) (zv 39) (zQ false))] <| .ret
def quD:List Nat:=[0,1,2,3,12,14,15,24,26,27,36,38,39]
def qHe:C1 126 41 quD quE [.tmp 2]:=c1 [] Tryz.func126
def quy:IR:=zq [zE 2 (.box 80 (zt 0)) 0,zE 3 (.box 80 (zt 1)) 0,za 4 (zQ false),za 17 (.ite (.op2 (.bbin .eql) (zo 0 (zv 2)) (zo 0 (zv 3))) (zS .eql (zo 2 (zv 2)) (zo 2 (zv 3))) (zQ false)),zg 17 true 19 (zo 1 (zv 2)),zg 17 true 21 (zo 1 (zv 3)),zh 17 true 22 51 #[zt 19,zt 21] #[51,51] 4,za 24 (.ite (zv 17) (zv 22) (zQ false)),zg 24 true 26 (zo 3 (zv 2)),zg 24 true 28 (zo 3 (zv 3)),zh 24 true 29 51 #[zt 26,zt 28] #[51,51] 4,za 4 (.ite (zv 24) (zv 29) (zQ false))] <| .ret
def qG7:List Nat:=[0,1,2,3,4,17,19,21,22,24,26,28,29]
def qG6:C2 130 31 qG7 quy [.tmp 4]:=c2 [] Tryz.func130
def quz:IR:=zq [za 2 (zQ false),zm 3 0,zc 4 77 #[zt 3] #[9] 4,za 2 (zn (zv 4))] <| .ret
def qG9:List Nat:=zV 5 [1]
def qG8:C1 129 6 qG9 quz [.tmp 2]:=c1 [] Tryz.func129
def qqk:IR:=.reg [zm 23 4,za 25 (zo 0 (zv 6)),zE 26 (.buildSlice 51 1 #[(0,(zt 25))]) 51,zp 27 #[zt 23,zt 26] #[51,51] 51,zm 4 27]
def qqj:IR:=.reg [za 15 (zI .add (zv 15) (zK 1))]
def qqh:IR:=.seq (.block 1 (zq [za 18 (zM 5 (zx 5 (zv 13) (zv 15))),zA 6 132,zw 132 (zt 6) (zt 18),za 20 (zM 4 (zf 1 (zv 6))),zc 21 126 #[zt 20] #[80] 4,za 22 (zn (zv 21))] <| .seq (.cond (zv 22) (zq [za 2 (zQ false)] <| .ret) .skip) (qqk))) (qqj)
def qiL:IR:=zq [za 16 (zI .lss (zv 15) (zv 14))] <| .seq (.cond (zv 16) .skip (.exit 0)) (qqh)
def qdN:IR:=.cond (zv 142) (zq [za 2 (zQ false)] <| .ret) .skip
def qqg:IR:=zq [zm 112 7,za 114 (zo 0 (zv 9)),.eff none none (.mapUpdate 144 (zt 112) (zt 114) (.const (zb true))) 0] <| .seq (.drw [za 120 (zI .lss (zv 8) (zL (zo 4 (zv 3)))),zg 120 true 130 (zS .neq (zo 0 (zx 5 (zo 4 (zv 3)) (zv 8))) (zo 0 (zv 9))),zg 130 false 136 (zM 4 (zf 1 (zx 5 (zo 4 (zv 3)) (zv 8)))),zg 130 false 138 (zM 4 (zf 1 (zv 9))),zh 130 false 139 130 #[zt 136,zt 138] #[80,80] 4,zg 130 false 140 (zn (zv 139)),za 142 (.ite (zv 120) (.ite (zv 130) (zQ true) (zv 140)) (zQ false))]) (qdN)
def qiM:IR:=.reg [za 70 (zI .add (zv 70) (zK 1))]
def qqf:IR:=.seq (.block 3 (zq [zm 72 70,za 74 (zM 7 (zx 7 (zv 68) (zv 70))),zA 9 82,zm 8 72,zw 82 (zt 9) (zt 74),zm 75 7,za 77 (zo 0 (zv 9)),zE 78 (.lookup 144 (zt 75) (zt 77) false) 4,zm 79 78,zg 79 false 81 (zo 0 (zv 9)),zh 79 false 82 77 #[zt 81] #[9] 4,za 85 (.ite (zv 79) (zQ true) (zn (zv 82))),zg 85 false 87 (zM 4 (zf 1 (zv 9))),zh 85 false 88 126 #[zt 87] #[80] 4,za 101 (.ite (.ite (zv 85) (zQ true) (zn (zv 88))) (zQ true) (zI .neq (zL (zo 5 (zv 9))) (zL (zo 1 (zf 1 (zv 9)))))),zg 101 false 103 (zo 5 (zv 9)),zh 101 false 104 93 #[zt 103,(.func 129)] #[51,34] 4,za 106 (.ite (zv 101) (zQ true) (zv 104)),zg 106 false 108 (zo 6 (zv 9)),zh 106 false 109 26 #[zt 108] #[29] 24,za 111 (.ite (zv 106) (zQ true) (zI .neq (zv 109) (zK 0)))] <| .seq (.cond (zv 111) (zq [za 2 (zQ false)] <| .ret) .skip) (qqg))) (qiM)
def qiK:IR:=zq [za 71 (zI .lss (zv 70) (zv 69))] <| .seq (.cond (zv 71) .skip (.exit 2)) (qqf)
def qqe:IR:=.ret
def qqi:IR:=.seq (.drw [za 2 (.ite (.ite (.ite (.ite (zI .eql (zL (zo 6 (zv 1))) (zK 1)) (zI .eql (zL (zo 4 (zv 3))) (zK 1)) (zQ false)) (zS .eql (zo 0 (zx 7 (zo 6 (zv 1)) (zK 0))) (zo 0 (zv 3))) (zQ false)) (zS .eql (zo 5 (zv 1)) (.const (zs #[]))) (zQ false)) (.op2 (.bbin .eql) (zo 0 (zf 1 (zx 7 (zo 6 (zv 1)) (zK 0)))) (zB .eql (zo 1 (zv 3)) (.const (zu 2)))) (zQ false))]) (qqe)
def qdO:IR:=zq [za 146 (zB .eql (zo 1 (zv 3)) (.const (zu 3)))] <| .seq (.cond (zv 146) (zq [za 151 (zI .gtr (zL (zo 4 (zv 3))) (zK 0)),zg 151 true 153 (zo 5 (zv 1)),zh 151 true 154 22 #[zt 153] #[9] 4,za 2 (.ite (zv 151) (zv 154) (zQ false))] <| .ret) .skip) (qqi)
def qiO:IR:=zq [zE 66 (.makeMap 144 none) 144,zm 7 66,za 68 (zo 6 (zv 1)),za 69 (zL (zv 68)),za 70 (zK 0)] <| .seq (.block 2 (.loop qiK)) (qdO)
def qiN:IR:=zq [za 31 (.op1 (.conv .i64) (zo 1 (zv 3))),zc 32 127 #[zt 31,zO 1,zO 3] #[3,3,3] 4,za 34 (zn (zv 32)),zg 34 false 36 (zo 0 (zv 3)),zh 34 false 37 77 #[zt 36] #[9] 4,za 45 (.ite (.ite (zv 34) (zQ true) (zn (zv 37))) (zQ true) (zI .gtr (zL (zv 4)) (zK 4))),zg 45 false 46 (zv 4),zh 45 false 47 128 #[zt 46] #[51] 4,za 50 (.ite (zv 45) (zQ true) (zn (zv 47))),zg 50 false 53 (zL (zo 6 (zv 1))),zh 50 false 54 127 #[zt 53,zO 1,zO 20] #[3,3,3] 4,za 65 (.ite (.ite (zv 50) (zQ true) (zn (zv 54))) (zQ true) (zI .gtr (zL (zo 4 (zv 3))) (zL (zo 6 (zv 1)))))] <| .seq (.cond (zv 65) (zq [za 2 (zQ false)] <| .ret) .skip) (qiO)
def qql:IR:=zq [zE 1 (.box 66 (zt 0)) 0,za 2 (zQ false),za 11 (zM 5 (zf 0 (zv 1))),zA 3 63,zw 63 (zt 3) (zt 11),za 4 (.const (.slice none 0 0)),za 13 (zo 3 (zv 3)),za 14 (zL (zv 13)),za 15 (zK 0)] <| .seq (.block 0 (.loop qiL)) (qiN)
def qfu:List Nat:=[0,1,2,3,4,6,7,8,9,11,13,14,15,16,18,20,21,22,23,25,26,27,31,32,34,36,37,45,46,47,50,53,54,65,66,68,69,70,71,72,74,75,77,78,79,81,82,85,87,88,101,103,104,106,108,109,111,112,114,120,130,136,138,139,140,142,146,151,153,154]
def qDM:C1 58 193 qfu qql [.tmp 2]:=c1 [] Tryz.func58
@[simp] theorem qIQ:qk Tryz.prog 127=true:=by kernel_rfl
@[simp] theorem qMp:qk Tryz.prog 22=true:=by kernel_rfl
@[simp] theorem qMk:qk Tryz.prog 24=true:=by kernel_rfl
@[simp] theorem qMj:qk Tryz.prog 280=true:=by kernel_rfl
@[simp] theorem qMo:qk Tryz.prog 220=true:=by kernel_rfl
@[simp] theorem qMn:qk Tryz.prog 223=true:=by kernel_rfl
@[simp] theorem qkV:qk Tryz.prog 225=true:=by kernel_rfl
@[simp] theorem qMl:qk Tryz.prog 226=true:=by kernel_rfl
@[simp] theorem qIP:qk Tryz.prog 218=true:=by kernel_rfl
@[simp] theorem qMr:qk Tryz.prog 145=true:=by kernel_rfl
@[simp] theorem qMq:qk Tryz.prog 147=true:=by kernel_rfl
@[simp] theorem qMi:qk Tryz.prog 98=true:=by kernel_rfl
@[simp] theorem qMm:qk Tryz.prog 224=true:=by kernel_rfl
@[simp] theorem qMs:qk Tryz.prog 144=true:=by kernel_rfl
def qbl (w:AA) (n a b:Int):Calls Tryz.prog 127 #[.int .i64 n,.int .i64 a,.int .i64 b] w fun e w'=>e=.returned (.bool (decide (a<=n)&&decide (n<=b)))/\w'=w:=by
 refine qHc fun ρ r0 r1 r2=>?_;by_cases h:a<=n
 ·simp -implicitDefEqProofs [qj7,r0,r1,r2,h]
 ·simp -implicitDefEqProofs [qj7,r0,r1,r2,h]
def k8 {n:Nat} (h:n<256):IntKind.i64.wrap (n:Int)=(n:Int):=q7 (by omega)
def xE (x:NV):AB:=.agg (qe x).toArray
def qbp {x:NV} (h:qA x.kv=true):(xE x).cells=(qe x).toArray:=by
 simp [xE,qe,Value.cells,qn h]
section
variable {w:AA} {x:NV}
theorem qBx (g:qA x.kv=true) (h:x.nd.d.kind<256):Calls Tryz.prog 65 #[xE x] w fun e w'=>e=.returned (.bool (vJ x.nd.d.kind))/\qc w w':=by
 refine qDE fun ρ r0=>?_;simp -implicitDefEqProofs [qp7];refine vC fun X w1 j c a _=>?_;rw [show qd ρ (.tmp 0)=xE x by simp [r0],qbp g] at a;have c0:w1.cell? ⟨X,0,none⟩=some (.int .u8 (x.nd.d.kind:Int)):=by rw [a.cell];rfl
 simp -implicitDefEqProofs [c0,k8 h];refine (qbl w1 _ 1 10).mono ?_;rintro _ _ ⟨rfl,rfl⟩;simp -implicitDefEqProofs;refine ⟨?_,c⟩;simp only [vJ];congr 1
 ·exact Jh.2 (by omega)
 ·exact Jh.2 (by omega)
theorem qBy (g:qA x.kv=true):Calls Tryz.prog 80 #[xE x] w fun e w'=>e=.returned (.bool (vQ 20 x.nd.d.kind))/\qc w w':=by
 refine qDs fun ρ r0=>?_;simp -implicitDefEqProofs [qpZ];refine vC fun X w1 h c a _=>?_;rw [show qd ρ (.tmp 0)=xE x by simp [r0],qbp g] at a;have c0:w1.cell? ⟨X,0,none⟩=some (.int .u8 (x.nd.d.kind:Int)):=by rw [a.cell];rfl
 simp -implicitDefEqProofs [c0];refine ⟨?_,c⟩;simp only [vQ];exact Jh.2 (by omega)
theorem qBu (h:qA x.kv=true) (g:x.nd.d.kind<256):Calls Tryz.prog 222 #[xE x] w fun e w'=>e=.returned (.bool (qcg x.nd.d.kind))/\qc w w':=by
 refine qFJ fun ρ r0=>?_;simp -implicitDefEqProofs [qsM];refine vC fun X w1 E c a _=>?_;rw [show qd ρ (.tmp 0)=xE x by simp [r0],qbp h] at a;have c0:w1.cell? ⟨X,0,none⟩=some (.int .u8 (x.nd.d.kind:Int)):=by rw [a.cell];rfl
 simp -implicitDefEqProofs [c0,k8 g];refine (qbl w1 _ 21 31).mono ?_;rintro _ _ ⟨rfl,rfl⟩;generalize x.nd.d.kind=k at g⊢;by_cases y:(21:Int)<=(k:Int)<;>by_cases q:(k:Int)<=31<;>by_cases j:(k:Int)=32<;>by_cases o:(k:Int)=34<;>by_cases z:(k:Int)=35<;>by_cases t:(k:Int)=37<;>
  first
  |(exfalso;omega)
  |(simp -implicitDefEqProofs [y,q,j,o,z,t]
    refine ⟨?_,c⟩;unfold qcg
    first
    |(simp;omega)
    |(rw [uR];simp;omega))
theorem qBv {P:Nat} {k:Nat} (h:qA x.kv=true) (g:Blk w P #[.int .u8 (k:Int)] 5):Calls Tryz.prog 279 #[xE x,.pointer (some ⟨P,0,none⟩)] w fun e w'=>e=.returned (.bool (vQ k x.nd.d.kind))/\qc w w':=by
 refine qEO fun ρ r0 r1=>?_;simp -implicitDefEqProofs [qrK];refine vC fun X w1 j c a _=>?_;rw [show qd ρ (.tmp 0)=xE x by simp [r0],qbp h] at a;have c0:w1.cell? ⟨X,0,none⟩=some (.int .u8 (x.nd.d.kind:Int)):=by rw [a.cell];rfl
 have c1:w1.cell? ⟨P,0,none⟩=some (.int .u8 (k:Int)):=by rw [(g.ext c).cell];rfl
 simp -implicitDefEqProofs [c0,c1,r1];refine ⟨?_,c⟩;simp only [vQ];exact Jh.2 (by omega)
theorem qA7 {P:Nat} {m n:Int} (a:Blk w P #[.int .i64 m] 3):Calls Tryz.prog 278 #[.int .i64 n,.pointer (some ⟨P,0,none⟩)] w fun e w'=>e=.returned (.bool (QD m n))/\qc w w':=by
 refine qEQ fun ρ r0 r1=>?_;have c1:w.cell? ⟨P,0,none⟩=some (.int .i64 m):=by rw [a.cell];rfl
 simp -implicitDefEqProofs [qrL,r0,r1,c1];refine (qbl w n 0 m).mono ?_;rintro _ _ ⟨rfl,rfl⟩;simp -implicitDefEqProofs;exact ⟨rfl,jd _⟩
theorem qBl (s:Bs):Calls Tryz.prog 221 #[.string (qb s)] w fun e w'=>e=.returned (.bool (qbm.contains s))/\qc w w':=by
 refine qFL fun ρ r0=>?_;simp -implicitDefEqProofs [qsN];refine jC kj (by decide) rfl (by simp [Value.cells]) fun Z w1 g c a _=>?_;simp -implicitDefEqProofs [Value.cells,r0] at a⊢;refine (L01.qhB s (qas (l:=qbm) (by simpa [qbm,qi,qb] using a) (by decide))).mono ?_;rintro _ _ ⟨rfl,rfl⟩;simp -implicitDefEqProofs;exact c
theorem qBU (v:AB):Calls Tryz.prog 219 #[v] w fun e w'=>e=.returned (.bool true)/\qc w w':=by
 refine qFP fun ρ r0=>?_;simp -implicitDefEqProofs [qsQ];exact jd _
theorem qBq (g:L01.G w) (s:Bs) (j:s.length<4294967281):Calls Tryz.prog 280 #[.string (qb s)] w fun e w'=>e=.returned (.bool (decide (s=[])||vY s))/\qc w w':=by
 refine qEM fun ρ r0=>?_;have c:(⟨#[]⟩:ByteArray)=qb []:=rfl;by_cases h:s=[]
 ·subst h;simp -implicitDefEqProofs [qjg,r0,c];exact jd _
 ·simp -implicitDefEqProofs [qjg,r0,c,vv,h];refine (qaF g s (by omega)).mono ?_;rintro _ w1 ⟨rfl,a⟩;simp -implicitDefEqProofs;exact a
theorem qBL (I:L01.G w) (E:xI w) (y:qA x.kv=true) (J:x.nd.d.name.length<4294967281) (U:x.nd.d.vr.length<4294967281) (z:x.nd.d.typ.length<4294967281):Calls Tryz.prog 226 #[xE x] w fun e w'=>e=.returned (.bool (qgm x.nd.d))/\qc w w':=by
 refine qFB fun ρ r0=>?_;have q:(⟨#[]⟩:ByteArray)=qb []:=rfl;simp -implicitDefEqProofs [qsE];refine vC fun X w1 O g k _=>?_;rw [show qd ρ (.tmp 0)=xE x by simp [r0],qbp y] at k;have o:∀W,qc w1 W->W.cell? ⟨X,1,none⟩=some (.string (qb x.nd.d.name))/\W.cell? ⟨X,2,none⟩=some (.string (qb x.nd.d.vr))/\W.cell? ⟨X,3,none⟩=some (.string (qb x.nd.d.typ)):=fun W H=>by
  have:=(k.ext H);refine ⟨by rw [this.cell];rfl,by rw [this.cell];rfl,by rw [this.cell];rfl⟩
 have c:=o w1 (jd _);have j:=I.ext g;unfold qgm;by_cases t:x.nd.d.vr=[]
 ·simp -implicitDefEqProofs [c,q,vv,t];refine (L01.yp j _).mono ?_;rintro _ w2 ⟨rfl,a⟩;have c2:=o w2 a;cases hn:qJ x.nd.d.name with
  |false=>
   simp -implicitDefEqProofs;exact g.trans' a
  |true=>
   simp -implicitDefEqProofs [c2];refine (qBq (j.ext a) _ z).mono ?_;rintro _ w3 ⟨rfl,h⟩;simp -implicitDefEqProofs;exact (g.trans' a).trans' h
 ·simp -implicitDefEqProofs [c,q,vv,t,qsD];refine (qaF j _ (by omega)).mono ?_;rintro _ w2 ⟨rfl,a⟩;have c2:=o w2 a;cases hn:vY x.nd.d.vr with
  |false=>
   simp -implicitDefEqProofs;exact g.trans' a
  |true=>
   simp -implicitDefEqProofs [c2];refine (qoO (j.ext a) ((E.ext g).ext a) _ J).mono ?_;rintro _ w3 ⟨rfl,h⟩;have c3:=o w3 (a.trans' h);cases S:yc x.nd.d.name with
   |false=>
    simp -implicitDefEqProofs;exact (g.trans' a).trans' h
   |true=>
    simp -implicitDefEqProofs [c3,q,vv];exact (g.trans' a).trans' h
end
def qS (F:FuncId) (caps:Array AB):AB:=.func (.func F) #[] caps
def xx (_:AA) (v:AB) (f:Bs->Bool):Prop:=(v=qS 77 #[]/\f=qJ)\/(v=qS 22 #[]/\f=vY)\/(v=qS 221 #[]/\f=qbm.contains)\/(v=qS 219 #[]/\f=qaX)
def zF (w:AA) (v:AB) (f:Nat->Bool):Prop:=(v=qS 65 #[]/\f=vJ)\/(v=qS 80 #[]/\f=vQ 20)\/(v=qS 222 #[]/\f=qcg)\/∃(P k:Nat),v=qS 279 #[.pointer (some ⟨P,0,none⟩)]/\Blk w P #[.int .u8 (k:Int)] 5/\f=vQ k
def kW (w:AA) (v:AB) (f:Int->Bool):Prop:=∃(P:Nat) (m:Int),v=qS 278 #[.pointer (some ⟨P,0,none⟩)]/\Blk w P #[.int .i64 m] 3/\f=QD m
section
variable {w w':AA} {v:AB} {p:Nat->TypeId->Prop}
theorem xx.at' {f:Bs->Bool} (h:xx w v f):xx w' v f:=h
theorem zF.at' {f:Nat->Bool} (h:zF w v f) (o:qj p w w') (a:∀k,p k 5):zF w' v f:=by
 rcases h with h|h|h|⟨P,k,j,g,c⟩
 ·exact .inl h
 ·exact .inr (.inl h)
 ·exact .inr (.inr (.inl h))
 ·exact .inr (.inr (.inr ⟨P,k,j,g.at' o (a P),c⟩))
theorem kW.at' {f:Int->Bool} (h:kW w v f) (o:qj p w w') (a:∀k,p k 3):kW w' v f:=by
 obtain ⟨P,m,j,g,c⟩:=h;exact ⟨P,m,j,g.at' o (a P),c⟩
theorem xx.fn {f:Bs->Bool} (h:xx w v f) (c:L01.G w):∃F caps,v=qS F caps/\qk Tryz.prog F=true/\∀s:Bs,s.length<4294967281->Calls Tryz.prog F (#[.string (qb s)]++caps) w fun e w'=>e=.returned (.bool (f s))/\qc w w':=by
 rcases h with ⟨rfl,rfl⟩|⟨rfl,rfl⟩|⟨rfl,rfl⟩|⟨rfl,rfl⟩
 ·exact ⟨77, #[],rfl,by kernel_rfl,fun s _=>by simpa using L01.yp c s⟩
 ·exact ⟨22, #[],rfl,by kernel_rfl,fun s a=>by simpa using qaF c s (by omega)⟩
 ·exact ⟨221, #[],rfl,by kernel_rfl,fun s a=>by simpa using qBl s⟩
 ·exact ⟨219, #[],rfl,by kernel_rfl,fun s a=>qBU (w:=w) (.string (qb s))⟩
theorem zF.fn {f:Nat->Bool} (h:zF w v f):∃F caps,v=qS F caps/\qk Tryz.prog F=true/\∀W,qc w W->∀x:NV,qA x.kv=true->x.nd.d.kind<256->Calls Tryz.prog F (#[xE x]++caps) W fun e w'=>e=.returned (.bool (f x.nd.d.kind))/\qc W w':=by
 rcases h with ⟨rfl,rfl⟩|⟨rfl,rfl⟩|⟨rfl,rfl⟩|⟨P,k,rfl,g,rfl⟩
 ·exact ⟨65, #[],rfl,by kernel_rfl,fun W _ x a c=>by simpa using qBx a c⟩
 ·exact ⟨80, #[],rfl,by kernel_rfl,fun W _ x a _=>by simpa using qBy a⟩
 ·exact ⟨222, #[],rfl,by kernel_rfl,fun W _ x a c=>by simpa using qBu a c⟩
 ·exact ⟨279, #[.pointer (some ⟨P,0,none⟩)],rfl,by kernel_rfl,fun W j x a _=>by simpa using qBv a (g.ext j)⟩
theorem kW.fn {f:Int->Bool} (h:kW w v f):∃F caps,v=qS F caps/\qk Tryz.prog F=true/\∀W,qc w W->∀n:Int,Calls Tryz.prog F (#[.int .i64 n]++caps) W fun e w'=>e=.returned (.bool (f n))/\qc W w':=by
 obtain ⟨P,m,rfl,a,rfl⟩:=h;exact ⟨278, #[.pointer (some ⟨P,0,none⟩)],rfl,by kernel_rfl,fun W c n=>by simpa using qA7 (a.ext c)⟩
theorem qpo:zF w (qS 65 #[]) vJ:=.inl ⟨rfl,rfl⟩
theorem qiy:zF w (qS 80 #[]) (vQ 20):=.inr (.inl ⟨rfl,rfl⟩)
theorem qC5:zF w (qS 222 #[]) qcg:=.inr (.inr (.inl ⟨rfl,rfl⟩))
theorem qm1:xx w (qS 77 #[]) qJ:=.inl ⟨rfl,rfl⟩
theorem qm0:xx w (qS 22 #[]) vY:=.inr (.inl ⟨rfl,rfl⟩)
theorem qzc:xx w (qS 221 #[]) qbm.contains:=.inr (.inr (.inl ⟨rfl,rfl⟩))
theorem qzd:xx w (qS 219 #[]) qaX:=.inr (.inr (.inr ⟨rfl,rfl⟩))
theorem zF.is {f:Nat->Bool} (h:zF w v f):∃F caps,v=qS F caps:=by obtain ⟨F,caps,h,_⟩:=h.fn;exact ⟨F,caps,h⟩
theorem kW.is {f:Int->Bool} (h:kW w v f):∃F caps,v=qS F caps:=by obtain ⟨F,caps,h,_⟩:=h.fn;exact ⟨F,caps,h⟩
theorem xx.is {f:Bs->Bool} (h:xx w v f):∃F caps,v=qS F caps:=by
 rcases h with ⟨rfl,_⟩|⟨rfl,_⟩|⟨rfl,_⟩|⟨rfl,_⟩<;>exact ⟨_,_,rfl⟩
theorem qBw (k:Nat):Calls Tryz.prog 223 #[.int .u8 (k:Int)] w fun e w'=>∃v,e=.returned v/\zF w' v (vQ k)/\qc w w':=by
 refine qFH fun ρ r0=>?_;simp -implicitDefEqProofs [qsL];refine vC fun X w1 g c a _=>?_;simp -implicitDefEqProofs [r0,Value.cells] at a⊢;exact ⟨.inr (.inr (.inr ⟨X,k,rfl,a,rfl⟩)),c⟩
theorem qA8 (m:Int):Calls Tryz.prog 220 #[.int .i64 m] w fun e w'=>∃v,e=.returned v/\kW w' v (QD m)/\qc w w':=by
 refine qFN fun ρ r0=>?_;simp -implicitDefEqProofs [qsO];refine vC fun X w1 g c a _=>?_;simp -implicitDefEqProofs [r0,Value.cells] at a⊢;exact ⟨⟨X,m,rfl,a,rfl⟩,c⟩
end
def xi {α:Type} (R:AB->α->Prop) (v:AB):Option α->Prop
 |none=>v=.nilFunc
 |some f=>R v f
def xi.imp {α:Type} {R R':AB->α->Prop} {v:AB} (h:∀f,R v f->R' v f):∀{o:Option α},xi R v o->xi R' v o
 |none,a=>a
 |some _,a=>h _ a
noncomputable def qdU:Code:=((Tryz.f144.body).getD .skip)
def qt6:IR:=.ret
def qt7:IR:=zq [zA 0 175,za 1 (.const (.func (.func 218) #[] #[])),zE 4 (.build 241 #[(0,(.func 77)),(2,(.func 22))]) 241,zA 2 241,zw 241 (zt 2) (zt 4),za 3 (.const (.func (.func 219) #[] #[]))] <| .seq (.raw (qv qdU 4)) (qt6)
def qfU:List Nat:=zV 113 []
def qGV:C0 144 113 qfU qt7 [.cellN 0 38]:=c0 [4] Tryz.func144
def xV (w:AA) (v:AB) (l:List (Nat->Bool)):Prop:=(v=.slice none 0 0/\l=[])\/∃B cs,v=.slice (some ⟨B,0,none⟩) l.length l.length/\Blk w B (List.toArray cs) 98/\jl (zF w) cs l
def xV.nil {w:AA}:xV w (.slice none 0 0) []:=.inl ⟨rfl,rfl⟩
def xV.cons {w:AA} {v:AB} {l:List (Nat->Bool)} (h:xV w v l) (a:l≠[]):∃B cs,v=.slice (some ⟨B,0,none⟩) l.length l.length/\Blk w B (List.toArray cs) 98/\jl (zF w) cs l:=by
 rcases h with ⟨_,h⟩|h
 ·exact absurd h a
 ·exact h
def xA:Nat->TypeId->Prop:=fun _ T=>T≠175
def xV.at' {w w':AA} {v:AB} {l:List (Nat->Bool)} (h:xV w v l) (a:qj xA w w'):xV w' v l:=by
 rcases h with h|⟨B,cs,j,g,c⟩
 ·exact .inl h
 ·exact .inr ⟨B,cs,j,g.at' a (by simp [xA]),c.imp fun _ _ h=>h.at' a fun _=>by simp [xA]⟩
def xV.isl {w:AA} {v:AB} {l:List (Nat->Bool)} (h:xV w v l) (a:l.length<4611686018427387904:=by decide):qA v=true:=by
 rcases h with ⟨rfl,_⟩|⟨B,cs,rfl,g,c⟩
 ·rfl
 ·simp [qA];try omega
structure RowC (w:AA) (nm vr ty nu fi mo:AB) (r:Row):Prop where
 name:xi (xx w) nm r.name
 vr:xi (xx w) vr r.vr
 typ:xi (xx w) ty r.typ
 n:xi (kW w) nu r.n
 first:xV w fi r.first
 more:xi (zF w) mo r.more
def RowC.at' {w w':AA} {nm vr ty nu fi mo:AB} {r:Row} (h:RowC w nm vr ty nu fi mo r) (a:qj xA w w'):RowC w' nm vr ty nu fi mo r:=
 ⟨h.name.imp fun _ h=>h,h.vr.imp fun _ h=>h,h.typ.imp fun _ h=>h,h.n.imp fun _ h=>h.at' a fun _=>by simp [xA],h.first.at' a,h.more.imp fun _ h=>h.at' a fun _=>by simp [xA]⟩
def qfr:AB->Bool| .nilFunc=>true| .func .. =>true|_=>false
def yH {v:AB} (h:qfr v=true):v.cells=#[v]/\v.oneCell=true:=by cases v<;>first|(cases h;done)|exact ⟨rfl,rfl⟩
def xi.fnS {w:AA} {v:AB}:∀{o:Option (Bs->Bool)},xi (xx w) v o->qfr v=true
 |none,h=>by cases h;rfl
 |some _,h=>by obtain ⟨F,caps,rfl⟩:=xx.is (w:=w) h;rfl
def xi.fnN {w:AA} {v:AB}:∀{o:Option (Int->Bool)},xi (kW w) v o->qfr v=true
 |none,h=>by cases h;rfl
 |some _,h=>by obtain ⟨F,caps,rfl⟩:=kW.is h;rfl
def xi.fnK {w:AA} {v:AB}:∀{o:Option (Nat->Bool)},xi (zF w) v o->qfr v=true
 |none,h=>by cases h;rfl
 |some _,h=>by obtain ⟨F,caps,rfl⟩:=zF.is h;rfl
def xV.one {w:AA} {v:AB} {l:List (Nat->Bool)} (h:xV w v l):v.cells=#[v]/\v.oneCell=true:=by
 rcases h with ⟨rfl,_⟩|⟨B,cs,rfl,_⟩<;>exact ⟨rfl,rfl⟩
def zj (nm vr ty nu fi mo:AB) (r:Row):Array AB:=#[nm,vr,ty,nu,fi,mo,.int .i64 (r.least:Int),.int .i64 (r.most:Int)]
def RowC.cells {w:AA} {nm vr ty nu fi mo:AB} {r:Row} (h:RowC w nm vr ty nu fi mo r):(Value.agg (zj nm vr ty nu fi mo r)).cells=zj nm vr ty nu fi mo r:=by
 have j:=(yH h.name.fnS).1;have g:=(yH h.vr.fnS).1;have c:=(yH h.typ.fnS).1;have k:=(yH h.n.fnN).1;have o:=h.first.one.1;have a:=(yH h.more.fnK).1;simp [Value.cells,zj,j,g,c,k,o,a]
def qcI (w:AA) (v:AB) (r:Row):Prop:=∃nm vr ty nu fi mo,v=.agg (zj nm vr ty nu fi mo r)/\RowC w nm vr ty nu fi mo r
def wK (w:AA) (v:AB) (r:Row):Prop:=∃X nm vr ty nu fi mo,v=.pointer (some ⟨X,0,none⟩)/\Blk w X (zj nm vr ty nu fi mo r) 241/\RowC w nm vr ty nu fi mo r
def qcI.at' {w w':AA} {v:AB} {r:Row} (h:qcI w v r) (g:qj xA w w'):qcI w' v r:=by
 obtain ⟨nm,vr,ty,nu,fi,mo,c,a⟩:=h;exact ⟨nm,vr,ty,nu,fi,mo,c,a.at' g⟩
def wK.at' {w w':AA} {v:AB} {r:Row} (h:wK w v r) (a:qj xA w w'):wK w' v r:=by
 obtain ⟨X,nm,vr,ty,nu,fi,mo,j,c,g⟩:=h;exact ⟨X,nm,vr,ty,nu,fi,mo,j,c.at' a (by simp [xA]),g.at' a⟩
def wK.ptr {w:AA} {v:AB} {r:Row} (h:wK w v r):∃X,v=.pointer (some ⟨X,0,none⟩)/\wK w (.pointer (some ⟨X,0,none⟩)) r:=by
 obtain ⟨X,nm,vr,ty,nu,fi,mo,rfl,c,a⟩:=h;exact ⟨X,rfl,X,nm,vr,ty,nu,fi,mo,rfl,c,a⟩
def qa0 (w:AA) (v:AB):Option Row->Prop
 |none=>v=.pointer none
 |some r=>wK w v r
def qa0.at' {w w':AA} {v:AB} (a:qj xA w w'):∀{r:Option Row},qa0 w v r->qa0 w' v r
 |none,h=>h
 |some _,h=>wK.at' h a
def Qy (w:AA) (cs:List AB):Prop:=cs.length=38/\∀k,k<38->qa0 w (cs.getD k undef) (kN k)
def Qy.at' {w w':AA} {cs:List AB} (h:Qy w cs) (a:qj xA w w'):Qy w' cs:=⟨h.1,fun k c=>qa0.at' a (h.2 k c)⟩
theorem qy1:xB Tryz.prog 239=some (98,1):=by kernel_rfl
theorem qyD:jh Tryz.prog 239 1=true:=by kernel_rfl
def qBC {w:AA} {nm vr ty nu fi mo kv:AB} {r:Row} {l:List (Nat->Bool)} (h:RowC w nm vr ty nu fi mo r) (t:xV w kv l) (Z:l.length<4611686018427387904:=by decide):
  Calls Tryz.prog 218 #[.agg (zj nm vr ty nu fi mo r),kv] w fun e w'=>∃v,e=.returned v/\wK w' v (vB r l)/\qc w w':=by
 have j:qm kv=l.length:=by
  rcases t with ⟨rfl,rfl⟩|⟨B,cs,rfl,_⟩<;>rfl
 have a:=t.isl Z;refine qFR fun ρ r0 r1=>?_;simp -implicitDefEqProofs [qsR];refine vC fun X w1 E I o _=>?_;rw [show qd ρ (.tmp 0)=_ from r0,h.cells] at o;simp -implicitDefEqProofs [r0,r1,a,j];refine qD (B:=X) (i:=4) (by simp) o (by simp [zj]) (by simpa [r1] using t.one.1) (by simpa [r1] using t.one.2) qyD fun w2 H Y=>?_;have c:Blk w2 X #[nm,vr,ty,nu,kv,mo,.int .i64 (r.least:Int),.int .i64 (r.most:Int)] 241:=by simpa [zj,r1] using Y
 simp -implicitDefEqProofs;refine qD (B:=X) (i:=6) (by simp) c (by simp) (by simp [Value.cells]) (by simp) vp fun w3 J S=>?_;have q:Blk w3 X #[nm,vr,ty,nu,kv,mo,.int .i64 (l.length:Int),.int .i64 (r.most:Int)] 241:=by simpa using S
 simp -implicitDefEqProofs;refine qD (B:=X) (i:=7) (by simp) q (by simp) (by simp [Value.cells]) (by simp) vp fun U V O=>?_;have z:Blk U X (zj nm vr ty nu kv mo (vB r l)) 241:=by simpa [zj,vB] using O
 have y:qc w U:=V.ext (J.ext (H.ext I E) E) E;simp -implicitDefEqProofs;have g:qj xA w U:=qj.ext y;have k:=h.at' g;exact ⟨⟨X,nm,vr,ty,nu,kv,mo,rfl,z,⟨k.name,k.vr,k.typ,k.n,t.at' g,k.more⟩⟩,y⟩
inductive SC where
 |nm|ty|op|an
def SC.f:SC->Bs->Bool| .nm=>qJ| .ty=>vY| .op=>qbm.contains| .an=>qaX
inductive KC where
 |ex|bl|st|is (k:Nat)
def KC.f:KC->Nat->Bool| .ex=>vJ| .bl=>vQ 20| .st=>qcg| .is k=>vQ k
structure RC where
 name:Option SC:=none
 vr:Option SC:=none
 typ:Option SC:=none
 n:Option Int:=none
 first:List KC:=[]
 more:Option KC:=none
 least:Nat:=0
 most:Nat:=0
def RC.r (c:RC):Row:=⟨c.name.map SC.f,c.vr.map SC.f,c.typ.map SC.f,c.n.map QD,c.first.map KC.f,c.more.map KC.f,c.least,c.most⟩
def qkg (c:RC) (l:List KC):RC:={c with first:=l,least:=l.length,most:=l.length}
def qHX (c:RC) (l:List KC):(qkg c l).r=vB c.r (l.map KC.f):=by simp [qkg,RC.r,vB]
def tyC:RC:={name:=some .nm,typ:=some .ty}
inductive AC where
 |fx|an|num (m:Int)|knd (k:KC)|kids (l:List KC)|rowA (r:RC)|rowP (r:RC)|arr (l:List (Option RC))
def qlm (w:AA) (cs:List AB) (l:List (Option RC)):Prop:=cs.length=38/\l.length=38/\∀k,k<38->qa0 w (cs.getD k undef) ((l.getD k none).map RC.r)
def AC.holds (w:AA) (v:AB):AC->Prop
 | .fx=>v=qS 218 #[]
 | .an=>v=qS 219 #[]
 | .num m=>kW w v (QD m)
 | .knd k=>zF w v k.f
 | .kids l=>xV w v (l.map KC.f)/\l.length<9
 | .rowA r=>qcI w v r.r
 | .rowP r=>wK w v r.r
 | .arr l=>∃cs:List AB,v=.agg cs.toArray/\qlm w cs l
def AC.at' {w w':AA} {v:AB} (c:qj xA w w'):∀{a:AC},a.holds w v->a.holds w' v
 | .fx,h=>h
 | .an,h=>h
 | .num _,h=>kW.at' h c fun _=>by simp [xA]
 | .knd _,h=>zF.at' h c fun _=>by simp [xA]
 | .kids _,h=>⟨xV.at' h.1 c,h.2⟩
 | .rowA _,h=>qcI.at' h c
 | .rowP _,h=>wK.at' h c
 | .arr _,⟨cs,j,g⟩=>⟨cs,j,g.1,g.2.1,fun k o=>qa0.at' c (g.2.2 k o)⟩
def QF (fs:List AC) (ds:List Nat) (t:Nat):Option AC:=bif ds.contains (t - 5)&&Nat.ble 5 t then fs[t - 5]? else none
def kOp (fs:List AC) (ds:List Nat):Operand->Option KC
 | .func 65=>some .ex
 | .func 80=>some .bl
 | .func 222=>some .st
 | .tmp t=>match QF fs ds t with|some (.knd k)=>some k|_=>none
 |_=>none
def sOp (fs:List AC) (ds:List Nat):Operand->Option SC
 | .func 77=>some .nm
 | .func 22=>some .ty
 | .func 221=>some .op
 | .tmp t=>match QF fs ds t with|some .an=>some .an|_=>none
 |_=>none
def nOp (fs:List AC) (ds:List Nat):Operand->Option Int
 | .tmp t=>match QF fs ds t with|some (.num m)=>some m|_=>none
 |_=>none
def lOp (fs:List AC) (ds:List Nat):Operand->Option (List KC)
 | .const (.slice none 0 0)=>some []
 | .tmp t=>match QF fs ds t with|some (.kids l)=>some l|_=>none
 |_=>none
def iOp:Operand->Option Nat
 | .const (.int .i64 (.ofNat n))=>some n
 |_=>none
def pOp (fs:List AC) (ds:List Nat):Operand->Option RC
 | .tmp t=>match QF fs ds t with|some (.rowP r)=>some r|_=>none
 |_=>none
def aOp (fs:List AC) (ds:List Nat):Operand->Option RC
 | .tmp t=>match QF fs ds t with|some (.rowA r)=>some r|_=>none
 |_=>none
def qm2 (fs:List AC) (ds:List Nat) (c:RC) (o:Operand):Nat->Option RC
 |0=>(sOp fs ds o).map fun s=>{c with name:=some s}
 |1=>(sOp fs ds o).map fun s=>{c with vr:=some s}
 |2=>(sOp fs ds o).map fun s=>{c with typ:=some s}
 |3=>(nOp fs ds o).map fun s=>{c with n:=some s}
 |4=>(lOp fs ds o).map fun s=>{c with first:=s}
 |5=>(kOp fs ds o).map fun s=>{c with more:=some s}
 |6=>(iOp o).map fun s=>{c with least:=s}
 |7=>(iOp o).map fun s=>{c with most:=s}
 |_=>none
def qhM (fs:List AC) (ds:List Nat):List (Nat×Operand)->RC->Option RC
 |[],c=>some c
 |p::ps,c=>(qm2 fs ds c p.2 p.1).bind (qhM fs ds ps)
def qgy (fs:List AC) (ds:List Nat):List (Nat×Operand)->List (Option RC)->Option (List (Option RC))
 |[],l=>some l
 |p::ps,l=>bif Nat.blt p.1 38 then (pOp fs ds p.2).bind fun r=>qgy fs ds ps (l.set p.1 (some r)) else none
def qfk (fs:List AC) (ds:List Nat):Nat->List (Nat×Operand)->Option (List KC)
 |_,[]=>some []
 |i,p::ps=>bif Nat.beq p.1 i then (kOp fs ds p.2).bind fun k=>(qfk fs ds (i+1) ps).map (k:: ·) else none
def qg9 (fs:List AC) (ds:List Nat):St->Option AC
 | .asg none _ (.var 1)=>some .fx
 | .asg none _ (.var 3)=>some .an
 | .asg none _ (.op1 (.loadN 8) (.var 2))=>some (.rowA tyC)
 | .eff none (some _) (.call ⟨.value (.func 220),⟨[.const (.int .i64 n)]⟩,_⟩) _=>some (.num n)
 | .eff none (some _) (.call ⟨.value (.func 223),⟨[.const (.int .u8 (.ofNat k))]⟩,_⟩) _=>some (.knd (.is k))
 | .eff none (some _) (.build 241 ps) _=>(qhM fs ds ps.toList {}).map .rowA
 | .eff none (some _) (.call ⟨.value (.tmp f),⟨[a,o]⟩,_⟩) _=>match QF fs ds f with
  |some .fx=>(aOp fs ds a).bind fun r=>(lOp fs ds o).map fun l=> .rowP (qkg r l)
  |_=>none
 | .eff none (some _) (.box 241 a) _=>(aOp fs ds a).map .rowP
 | .eff none (some _) (.buildSlice 239 n ps) _=>(qfk fs ds 0 ps.toList).bind fun l=>bif Nat.beq n l.length&&Nat.blt n 9 then some (.kids l) else none
 | .eff none (some _) (.build 175 ps) _=>(qgy fs ds ps.toList (List.replicate 38 none)).map .arr
 |_=>none
def qvP:St->Option Nat
 | .asg _ d _=>some d
 | .eff _ d _ _=>d
def Jb:List (Option St)->List (List Nat)->List AC->Option (List AC)
 |some s::ss,d::ds,fs=>match qvP s with
  |some t=>bif Nat.beq t (fs.length+5) then (qg9 fs d s).bind fun F=>Jb ss ds (fs++[F]) else none
  |none=>none
 |[],_,fs=>some fs
 |_,_,_=>none
def qvv:∀(ss:List (Option St)) (ds:List (List Nat)) (fs r:List AC),Jb ss ds fs=some r->(∃q,r=fs++q)/\r.length=fs.length+ss.length/\
  ∀i s d,ss[i]? =some (some s)->ds[i]? =some d->∃p q F,r=p++F::q/\p.length=fs.length+i/\qg9 p d s=some F/\qvP s=some (p.length+5)
 |[],_,fs,r,h=>by
  simp only [Jb,ui] at h;subst h;exact ⟨⟨[],by simp⟩,by simp,fun i s d h=>by simp at h⟩
 |none::_,ds,fs,r,h=>by cases ds<;>simp [Jb] at h
 |some s::_,[],fs,r,h=>by simp [Jb] at h
 |some s::ss,d::ds,fs,r,h=>by
  unfold Jb at h;split at h
  ·rename_i t o;cases a:Nat.beq t (fs.length+5) with
   |false=>rw [a] at h;cases h
   |true=>
    rw [a] at h;obtain ⟨F,k,h⟩:=uh.1 h;obtain ⟨⟨q,g⟩,y,I⟩:=qvv ss ds _ r h;have:=um a;subst this;refine ⟨⟨F::q,by simp [g]⟩,by simp at y⊢;omega,fun i J E j c=>?_⟩;cases i with
    |zero=>
     cases j;cases c;exact ⟨fs,q,F,by simp [g],rfl,k,o⟩
    |succ i=>
     obtain ⟨p,q',F',O,H,z⟩:=I i J E j c;exact ⟨p,q',F',O,by simp at H;omega,z⟩
  ·cases h
noncomputable def qap:List (Option St):=(qc5 Tryz.prog 113 qfU (qv qdU 4)).getD []
noncomputable def qcw:List (List Nat):=qkL (qv qdU 4)
noncomputable def qaP:List AC:=(Jb (qap.take 108) qcw []).getD []
def qH2:Jb (qap.take 108) qcw []=some qaP:=by
 have h:(Jb (qap.take 108) qcw []).isSome=true:=by kernel_rfl
 obtain ⟨r,a⟩:=Vl.1 h;unfold qaP;rw [a];rfl
theorem qvt:qaP.length=108:=by kernel_rfl
def qJY:Option AC->List (Option RC)|some (.arr l)=>l|_=>[]
noncomputable def qha:List (Option RC):=qJY qaP[107]?
theorem qH3:qaP[107]? =some (.arr qha):=by kernel_rfl
theorem qya:(List.range 38).map (fun k=>(qha.getD k none).map RC.r)=(List.range 38).map kN:=by kernel_rfl
def qyb {k:Nat} (a:k<38):(qha.getD k none).map RC.r=kN k:=by
 have h:=congrArg (fun l=>l[k]?) qya;simpa [a] using h
structure J144 (w0:AA) (A T:Nat) (L:Nat->Bool) (ρ:qa) (w:AA):Prop where
 ext:qc w0 w
 r0:ρ 0=.pointer (some ⟨A,0,none⟩)
 r1:ρ 1=qS 218 #[]
 r2:ρ 2=.pointer (some ⟨T,0,none⟩)
 r3:ρ 3=qS 219 #[]
 A0:w0.heap.size<=A
 bA:L 108=false->Blk w A (Array.replicate 38 (.pointer none)) 175
 fin:L 108=true->∃cs:List AB,Blk w A cs.toArray 175/\Qy w cs
 ty:wK w (.pointer (some ⟨T,0,none⟩)) tyC.r
 facts:∀(k:Nat) (F:AC),qaP[k]? =some F->L k=true->F.holds w (ρ (k+5))
def qaw (i:Nat) (L:Nat->Bool):Nat->Bool:=fun k=>if k=i then true else L k
def J144.put {w0:AA} {A T:Nat} {L:Nat->Bool} {ρ:qa} {w w':AA} {v:AB} (h:J144 w0 A T L ρ w) (i:Nat) (F:AC) (q:qaP[i]? =some F) (g:qc w w') (t:F.holds w' v):J144 w0 A T (qaw i L) (qx ρ (i+5) v) w':=by
 have E:i<108:=by
  have:=(u4.1 q).1
  rwa [qvt] at this
 have ne:∀k,k<5->qx ρ (i+5) v k=ρ k:=fun k j=>by simp [qx];omega
 have a:qaw i L 108=L 108:=by unfold qaw;rw [q3 (by omega)]
 have o:qj xA w w':=qj.ext g;refine ⟨h.ext.trans' g,by rw [ne 0 (by omega)];exact h.r0,by rw [ne 1 (by omega)];exact h.r1,by rw [ne 2 (by omega)];exact h.r2,by rw [ne 3 (by omega)];exact h.r3,h.A0,fun e=>(h.bA (a▸e)).ext g,fun e=>?_,h.ty.at' o,fun k F' c hL=>?_⟩
 ·obtain ⟨cs,z,y⟩:=h.fin (a▸e);exact ⟨cs,z.ext g,y.at' o⟩
 ·by_cases j:k=i
  ·subst j;rw [q] at c;cases c;simpa [qx] using t
  ·have e:qx ρ (i+5) v (k+5)=ρ (k+5):=by simp [qx,j]
   rw [e];exact AC.at' o (h.facts k F' c (by simpa [qaw,j] using hL))
section
variable {w0:AA} {A T:Nat} {L:Nat->Bool} {ρ:qa} {w:AA} {Q:Ks} {K:qa->AA->Prop} {p:List AC} {ds:List Nat}
def Qw (p:List AC) (ds:List Nat) (ρ:qa) (w:AA):Prop:=∀t a,QF p ds t=some a->a.holds w (ρ t)
theorem qpp (a:Qw p ds ρ w) {o:Operand} {k:KC} (h:kOp p ds o=some k):zF w (qd ρ o) k.f:=by
 unfold kOp at h;split at h<;>first|(cases h;done)|(cases h;first|exact qpo|exact qiy|exact qC5)|skip
 rename_i t;split at h
 ·rename_i g c;cases h;exact a t _ c
 ·cases h
theorem qhC (a:Qw p ds ρ w) {o:Operand} {k:SC} (h:sOp p ds o=some k):xx w (qd ρ o) k.f:=by
 unfold sOp at h;split at h<;>first|(cases h;done)|(cases h;first|exact qm1|exact qm0|exact qzc)|skip
 rename_i t;split at h
 ·rename_i c;cases h;have e:ρ t=qS 219 #[]:=a t _ c;show xx w (ρ t) qaX;rw [e];exact qzd
 ·cases h
theorem qCE (a:Qw p ds ρ w) {o:Operand} {m:Int} (h:nOp p ds o=some m):kW w (qd ρ o) (QD m):=by
 unfold nOp at h;split at h
 ·rename_i t;split at h
  ·rename_i c;cases h;exact a t _ c
  ·cases h
 ·cases h
theorem qpk (a:Qw p ds ρ w) {o:Operand} {l:List KC} (h:lOp p ds o=some l):xV w (qd ρ o) (l.map KC.f)/\l.length<9:=by
 unfold lOp at h;split at h
 ·cases h;exact ⟨.nil,by decide⟩
 ·rename_i t;split at h
  ·rename_i c;cases h;exact a t _ c
  ·cases h
 ·cases h
theorem qB4 (a:Qw p ds ρ w) {o:Operand} {r:RC} (h:pOp p ds o=some r):wK w (qd ρ o) r.r:=by
 unfold pOp at h;split at h
 ·rename_i t;split at h
  ·rename_i c;cases h;exact a t _ c
  ·cases h
 ·cases h
theorem qwW (a:Qw p ds ρ w) {o:Operand} {r:RC} (h:aOp p ds o=some r):qcI w (qd ρ o) r.r:=by
 unfold aOp at h;split at h
 ·rename_i t;split at h
  ·rename_i c;cases h;exact a t _ c
  ·cases h
 ·cases h
theorem qva {o:Operand} {n:Nat} (h:iOp o=some n):qd ρ o=.int .i64 (n:Int):=by
 unfold iOp at h;split at h
 ·cases h;rfl
 ·cases h
theorem qvs {pl:Nat->Option (Nat×Nat)} {cs:List AB} {i:Nat} {v:AB} {rest:List (Nat×AB)} (a:pl i=some (i,1)) (c:v.cells=#[v]) (g:i<cs.length):
  Instr.fill pl cs.toArray ((i,v)::rest)=Instr.fill pl (cs.set i v).toArray rest:=by
 rw [Instr.fill,a];simp [c,show¬cs.length<i+1 by omega]
theorem qnr (O:Qw p ds ρ w) {pl:Nat->Option (Nat×Nat)} (hp:∀i,i<8->pl i=some (i,1)):∀(ps:List (Nat×Operand)) (c r:RC),qhM p ds ps c=some r->∀{nm vr ty nu fi mo:AB},RowC w nm vr ty nu fi mo c.r->
  ∃H z E y J I,Instr.fill pl (zj nm vr ty nu fi mo c.r) (ps.map fun q=>(q.1,qd ρ q.2))=some (zj H z E y J I r.r)/\RowC w H z E y J I r.r
 |[],c,r,h,nm,vr,ty,nu,fi,mo,j=>by
  cases h;exact ⟨nm,vr,ty,nu,fi,mo,rfl,j⟩
 |q::ps,c,r,h,nm,vr,ty,nu,fi,mo,j=>by
  obtain ⟨c1,t,h2⟩:=uh.1 h;obtain ⟨i,o⟩:=q;have go:∀{Z Y ty1 S V U:AB},i<8->(qd ρ o).cells=#[qd ρ o]->RowC w Z Y ty1 S V U c1.r->(zj nm vr ty nu fi mo c.r).toList.set i (qd ρ o)=(zj Z Y ty1 S V U c1.r).toList->
    ∃H z E y J I,Instr.fill pl (zj nm vr ty nu fi mo c.r) (((i,o)::ps).map fun q=>(q.1,qd ρ q.2))=some (zj H z E y J I r.r)/\RowC w H z E y J I r.r:=fun hi hv aa he=>by
   obtain ⟨a,b,d,e,f,g,h3,h4⟩:=qnr O hp ps c1 r h2 aa;refine ⟨a,b,d,e,f,g, ?_,h4⟩;rw [<-h3,List.map_cons];rw [show zj nm vr ty nu fi mo c.r=(zj nm vr ty nu fi mo c.r).toList.toArray from rfl,qvs (hp i hi) hv (by simpa [zj] using hi),he]
  have one:∀{m:Nat},(Value.int .i64 (m:Int)).cells=#[.int .i64 (m:Int)]:=by simp [Value.cells]
  dsimp only at t;unfold qm2 at t;split at t
  ·obtain ⟨s,k,rfl⟩:=uc.1 t;have h:=qhC O k;exact go (by decide) (yH (xi.fnS (w:=w) (o:=some s.f) h)).1 ⟨h,j.vr,j.typ,j.n,j.first,j.more⟩ rfl
  ·obtain ⟨s,k,rfl⟩:=uc.1 t;have h:=qhC O k;exact go (by decide) (yH (xi.fnS (w:=w) (o:=some s.f) h)).1 ⟨j.name,h,j.typ,j.n,j.first,j.more⟩ rfl
  ·obtain ⟨s,k,rfl⟩:=uc.1 t;have h:=qhC O k;exact go (by decide) (yH (xi.fnS (w:=w) (o:=some s.f) h)).1 ⟨j.name,j.vr,h,j.n,j.first,j.more⟩ rfl
  ·obtain ⟨s,k,rfl⟩:=uc.1 t;have h:=qCE O k;exact go (by decide) (yH (xi.fnN (w:=w) (o:=some (QD s)) h)).1 ⟨j.name,j.vr,j.typ,h,j.first,j.more⟩ rfl
  ·obtain ⟨s,k,rfl⟩:=uc.1 t;have h:=(qpk O k).1;exact go (by decide) h.one.1 ⟨j.name,j.vr,j.typ,j.n,h,j.more⟩ rfl
  ·obtain ⟨s,k,rfl⟩:=uc.1 t;have h:=qpp O k;exact go (by decide) (yH (xi.fnK (w:=w) (o:=some s.f) h)).1 ⟨j.name,j.vr,j.typ,j.n,j.first,h⟩ rfl
  ·obtain ⟨s,k,rfl⟩:=uc.1 t;have e:=qva (ρ:=ρ) k;exact go (by decide) (e▸one) ⟨j.name,j.vr,j.typ,j.n,j.first,j.more⟩ (by rw [e];rfl)
  ·obtain ⟨s,k,rfl⟩:=uc.1 t;have e:=qva (ρ:=ρ) k;exact go (by decide) (e▸one) ⟨j.name,j.vr,j.typ,j.n,j.first,j.more⟩ (by rw [e];rfl)
  ·cases t
theorem qww (E:Qw p ds ρ w) {pl:Nat->Option (Nat×Nat)} (z:∀i,i<38->pl i=some (i,1)):∀(ps:List (Nat×Operand)) (l r:List (Option RC)),qgy p ds ps l=some r->∀{cs:List AB},qlm w cs l->
  ∃cs',Instr.fill pl cs.toArray (ps.map fun q=>(q.1,qd ρ q.2))=some cs'.toArray/\qlm w cs' r
 |[],l,r,h,cs,a=>by
  cases h;exact ⟨cs,rfl,a⟩
 |q::ps,l,r,h,cs,a=>by
  obtain ⟨i,o⟩:=q;unfold qgy at h;cases g:Nat.blt i 38 with
  |false=>rw [show Nat.blt (i,o).1 38=false from g] at h;cases h
  |true=>
   rw [show Nat.blt (i,o).1 38=true from g] at h;have t:i<38:=uI g;obtain ⟨c,S,J⟩:=uh.1 h;have y:=qB4 E S;obtain ⟨cs',H,I⟩:=qww E z ps _ r J (cs:=cs.set i (qd ρ o)) ⟨by simp [a.1],by simp [a.2.1],fun k O=>by
    simp only [uH,List.getElem?_set];by_cases e:i=k
    ·subst e;have j:qa0 w (qd ρ (i,o).2) (some c.r):=y;simpa [a.1,a.2.1,t] using j
    ·simpa [e] using a.2.2 k O⟩
   refine ⟨cs', ?_,I⟩;rw [<-H,List.map_cons,qvs (z i t) ?_ (by rw [a.1];exact t)];obtain ⟨X,_,_,_,_,_,_,e,_⟩:=y;rw [show qd ρ (i,o).2=_ from e];rfl
theorem qpn (j:Qw p ds ρ w):∀(ps:List (Nat×Operand)) (i:Nat) (l:List KC),qfk p ds i ps=some l->ps.map (·.1)=List.range' i l.length/\(∀q∈ps,(qd ρ q.2).cells=#[qd ρ q.2])/\jl (zF w) (ps.map fun q=>qd ρ q.2) (l.map KC.f)
 |[],i,l,h=>by
  cases h;exact ⟨rfl,by simp,trivial⟩
 |q::ps,i,l,h=>by
  unfold qfk at h;cases c:Nat.beq q.1 i with
  |false=>rw [c] at h;cases h
  |true=>
   rw [c] at h;obtain ⟨k,H,z⟩:=uh.1 h;obtain ⟨l',t,rfl⟩:=uc.1 z;obtain ⟨y,I,E⟩:=qpn j ps _ l' t;have g:=qpp j H;have e:=um c;refine ⟨by simp [y,e,List.range'_succ],fun x a=>?_,g,E⟩;rcases ug.1 a with rfl|a
   ·exact (yH (xi.fnK (w:=w) (o:=some k.f) g)).1
   ·exact I x a
theorem qlo:jU Tryz.prog 175=some (Array.replicate 38 (.pointer none)):=by kernel_rfl
theorem qHW {ps:List (Nat×Operand)} (h:∀q∈ps,(qd ρ q.2).cells=#[qd ρ q.2]):(ps.flatMap fun q=>(qd ρ q.2).cells.toList)=ps.map fun q=>qd ρ q.2:=by
 induction ps with
 |nil=>rfl
 |cons q ps a=>
  rw [Jt,List.map_cons,h q (by simp),a fun x c=>h x (by simp [c])];rfl
def qeW:Nat->Option (Nat×Nat):=fun i=>(#[(0,1),(1,1),(2,1),(3,1),(4,1),(5,1),(6,1),(7,1)]:Array (Nat×Nat))[i]?
theorem qI2 (l:List (Nat×AB)):Tryz.prog.built 241 l=Instr.fill qeW #[.nilFunc,.nilFunc,.nilFunc,.nilFunc,.slice none 0 0,.nilFunc,.int .i64 0,.int .i64 0] l:=by kernel_rfl
theorem qI3 (l:List (Nat×AB)):Tryz.prog.built 175 l=Instr.fill (fun i=>some (i*1,1)) (Array.replicate 38 (.pointer none)) l:=by kernel_rfl
theorem qyS (i:Nat) (s:St) (hs:(qap.take 108)[i]? =some (some s)) (hd:qcw[i]? =some ds) (hL:∀d∈ds,L d=true) (O:J144 w0 A T L ρ w):s.wp Tryz.prog Q (J144 w0 A T (qaw i L)) ρ w:=by
 obtain ⟨p,q,F,h1,h2,c,o⟩:=(qvv _ _ _ _ qH2).2.2 i s ds hs hd;simp only [List.length_nil,ur] at h2;rw [h2] at o;have hF:qaP[i]? =some F:=by rw [h1,<-h2];simp
 have H:Qw p ds ρ w:=fun t a J=>by
  unfold QF at J;cases g:ds.contains (t - 5)&&Nat.ble 5 t with
  |false=>rw [g] at J;cases J
  |true=>
   rw [g] at J;simp only [km,JJ] at g;have:=uI g.2;have h:=O.facts (t - 5) a (by
    have Y:=(u4.1 J).1;rw [h1,JK Y];exact J) (hL _ g.1)
   rwa [Nat.sub_add_cancel this] at h
 have put:=fun {w':AA} {v:AB}=>O.put (w':=w') (v:=v) i F hF;unfold qg9 at c;split at c
 ·cases c;cases o;simp -implicitDefEqProofs [St.wp,O.r1];exact put (jd _) rfl
 ·cases c;cases o;simp -implicitDefEqProofs [St.wp,O.r3];exact put (jd _) rfl
 ·cases c;cases o;obtain ⟨X,nm,vr,ty,nu,fi,mo,e,y,g⟩:=O.ty;cases e;have z:=xc y;simp [zj] at z;simp -implicitDefEqProofs [St.wp,O.r2,z];exact put (jd _) ⟨nm,vr,ty,nu,fi,mo,rfl,g⟩
 ·cases c;cases o;simp -implicitDefEqProofs [St.wp];refine (qA8 _).mono ?_;rintro _ w1 ⟨v,rfl,I,j⟩;exact put j I
 ·cases c;cases o;simp -implicitDefEqProofs [St.wp];refine (qBw _).mono ?_;rintro _ w1 ⟨v,rfl,I,j⟩;exact put j I
 ·obtain ⟨r,E,rfl⟩:=uc.1 c;cases o;obtain ⟨nm,vr,ty,nu,fi,mo,e,g⟩:=qnr H (pl:=qeW) (fun i hi=>by unfold qeW;match i,hi with|0,_=>rfl|1,_=>rfl|2,_=>rfl|3,_=>rfl|4,_=>rfl|5,_=>rfl|6,_=>rfl|7,_=>rfl|n+8,h=>exact absurd h (by omega)) _ {} r E (nm:=.nilFunc) (vr:=.nilFunc) (ty:=.nilFunc) (nu:=.nilFunc) (fi:=.slice none 0 0) (mo:=.nilFunc) ⟨rfl,rfl,rfl,rfl,.nil,rfl⟩;simp -implicitDefEqProofs only [St.wp,gd,wh];rw [qvL,qI2,Jq];have e':Instr.fill qeW #[.nilFunc,.nilFunc,.nilFunc,.nilFunc,.slice none 0 0,.nilFunc,.int .i64 0,.int .i64 0] _=_:=e;rw [e'];exact put (jd _) ⟨nm,vr,ty,nu,fi,mo,rfl,g⟩
 ·split at c
  ·rename_i hf;obtain ⟨r,E,c⟩:=uh.1 c;obtain ⟨l,Z,rfl⟩:=uc.1 c;cases o;obtain ⟨nm,vr,ty,nu,fi,mo,ea,g⟩:=qwW H E;obtain ⟨V,hlen⟩:=qpk H Z;simp -implicitDefEqProofs only [St.wp,gd,wh];refine xh qIP (fs:=#[]) (caps:=#[]) (H _ .fx hf) ?_;have U:=qBC g V (by rw [uq];omega);rw [<-ea] at U;refine Calls.mono (show Calls Tryz.prog 218 (#[]++Array.map (qd ρ) ⟨[_,_]⟩++ #[]) w _ from by simpa using U) ?_;rintro _ w1 ⟨v,rfl,I,j⟩;exact put j (by rw [<-qHX] at I;exact I)
  ·cases c
 ·obtain ⟨r,E,rfl⟩:=uc.1 c;cases o;obtain ⟨nm,vr,ty,nu,fi,mo,ea,g⟩:=qwW H E;simp -implicitDefEqProofs only [St.wp,gd,wh];refine vC fun X w1 hX j y _=>?_;rw [ea,g.cells] at y;exact put j ⟨X,nm,vr,ty,nu,fi,mo,rfl,y,g.at' (qj.ext j)⟩
 ·rename_i n ps _;obtain ⟨l,Z,c⟩:=uh.1 c;cases y:Nat.beq n l.length&&Nat.blt n 9 with
  |false=>rw [y] at c;cases c
  |true=>
   rw [y] at c;cases c;cases o;simp only [km] at y;have hn:=um y.1;have U:n<9:=uI y.2;subst hn;obtain ⟨k1,k2,k3⟩:=qpn H (ρ:=ρ) _ _ l Z;simp -implicitDefEqProofs only [St.wp,gd,wh];refine jC qy1 (by simp;omega) (by rw [k1,JP]) (fun q hq=>by rw [k2 q hq];rfl) fun B w1 hB j S _=>?_;rw [qHW k2] at S;refine put j ⟨.inr ⟨B,_,by simp,S,k3.imp fun _ _ h=>h.at' (qj.ext (p:=xA) j) fun _=>by simp [xA]⟩,U⟩
 ·obtain ⟨r,E,rfl⟩:=uc.1 c;cases o;obtain ⟨cs,e,g⟩:=qww H (ρ:=ρ) (pl:=fun i=>some (i*1,1)) (fun i _=>by rw [uW]) _ _ r E (cs:=List.replicate 38 (.pointer none)) ⟨List.length_replicate,List.length_replicate,fun k V=>by rw [uH,uH,List.getElem?_replicate,List.getElem?_replicate,j0 V,j0 V];rfl⟩;simp -implicitDefEqProofs only [St.wp,gd,wh];rw [qvL,qI3,Jq];have e':Instr.fill (fun i=>some (i*1,1)) (Array.replicate 38 (.pointer none)) _=_:=e;rw [e'];exact put (jd _) ⟨cs,rfl,g⟩
 ·cases c
theorem qIt:(qcw.getD 108 []).contains 107=true:=by kernel_rfl
theorem qyR (hd:qcw[108]? =some ds) (hL:∀d∈ds,L d=true) (g:J144 w0 A T L ρ w) (Z:L 108=false):(.eff none none (.store 175 (.tmp 0) (.tmp 112)) 0:St).wp Tryz.prog Q (J144 w0 A T (qaw 108 L)) ρ w:=by
 have E:L 107=true:=by
  have h:=qIt;rw [uH,hd] at h;exact hL _ (JJ.1 h)
 obtain ⟨cs,z,J,_,I⟩:=g.facts 107 _ qH3 E;have j:Qy w cs:=⟨J,fun k y=>qyb y▸I k y⟩;have o:∀c∈cs,c.cells=#[c]/\c.oneCell=true:=fun c H=>by
  obtain ⟨k,y,rfl⟩:=List.mem_iff_getElem.1 H;have t:=j.2 k (by rw [<-j.1];exact y);rw [uH,uj y] at t;simp only [Option.getD_some] at t;generalize cs[k]=c at t;cases U:kN k with
  |none=>rw [U] at t;cases t;exact ⟨rfl,rfl⟩
  |some r=>
   rw [U] at t;obtain ⟨X,_,_,_,_,_,_,rfl,_⟩:=t;exact ⟨rfl,rfl⟩
 have q:=qab fun c H=>(o c H).1;have a:qd ρ (.tmp 112)=.agg cs.toArray:=z;simp -implicitDefEqProofs [St.wp];refine jg (B:=A) (by simpa using g.r0) (g.bA Z) (by rw [a,q];simp [j.1]) ?_ (by kernel_rfl) fun W Y V=>?_
 ·rw [a,q];simpa using fun c H=>(o c H).2
 rw [a,q] at V;have hE:qc w0 W:=Y.ext g.ext g.A0;have O:qj xA w W:=(qj.only Y (g.bA Z)).mono fun _ _ h=> .inr h;simp -implicitDefEqProofs;refine ⟨hE,g.r0,g.r1,g.r2,g.r3,g.A0,fun e=>by simp [qaw] at e,fun _=>⟨cs,V,j.at' O⟩,g.ty.at' O,fun k F S hL=>?_⟩;have y:k<108:=by
  have:=(u4.1 S).1
  rwa [qvt] at this
 exact AC.at' O (g.facts k F S (by simpa [qaw,show k≠108 by omega] using hL))
end
theorem qw5:jU Tryz.prog 241=some #[.nilFunc,.nilFunc,.nilFunc,.nilFunc,.slice none 0 0,.nilFunc,.int .i64 0,.int .i64 0]:=by kernel_rfl
theorem qyC:jh Tryz.prog 241 8=true:=by kernel_rfl
theorem qJG:Tryz.prog.built 241 [(0,.func (.func 77) #[] #[]),(2,.func (.func 22) #[] #[])]=some #[qS 77 #[],.nilFunc,qS 22 #[],.nilFunc,.slice none 0 0,.nilFunc,.int .i64 0,.int .i64 0]:=by kernel_rfl
theorem qmB:qap.length=109:=by kernel_rfl
theorem qyL:qap[108]? =some (some (.eff none none (.store 175 (.tmp 0) (.tmp 112)) 0)):=by kernel_rfl
def qyK:qc5 Tryz.prog 113 qfU (qv qdU 4)=some qap:=by
 have h:(qc5 Tryz.prog 113 qfU (qv qdU 4)).isSome=true:=by kernel_rfl
 obtain ⟨r,a⟩:=Vl.1 h;unfold qap;rw [a];rfl
def qBf {w:AA}:Calls Tryz.prog 144 #[] w fun e w'=>∃cs:List AB,e=.returned (.agg cs.toArray)/\Qy w' cs/\qc w w':=by
 refine qGV fun ρ=>?_;simp -implicitDefEqProofs [qt7];refine qQ qlo fun A w1 U c j _=>?_;simp -implicitDefEqProofs [qJG];refine qQ qw5 fun T w2 Z o H _=>?_;simp -implicitDefEqProofs;refine jg (B:=T) (by simp) H (by simp [Value.cells,qS]) (by simp [Value.cells,qS];exact ⟨rfl,rfl,rfl,rfl⟩) (by simpa [Value.cells,qS] using qyC) fun w3 g q=>?_;simp -implicitDefEqProofs [Value.cells,qS] at q;have I:qc w w3:=g.ext (c.trans' o) (by have:=c.size;omega);have z:=g.blk (j.ext o) (by have:=j.lt;omega);simp -implicitDefEqProofs;refine qAk qyK rfl (by kernel_rfl) (by kernel_rfl) (J144 w A T) ?_ ?_ ?_
 ·intro w' E _;exact ⟨I.trans' E,by simp,by simp [qS],by simp,by simp [qS],U,fun _=>z.ext E,fun e=>(by cases e),⟨T,qS 77 #[],.nilFunc,qS 22 #[],.nilFunc,.slice none 0 0,.nilFunc,rfl,(q.ext E),⟨qm1 (w:=w),rfl,qm0 (w:=w),rfl,.nil,rfl⟩⟩,fun k F _ hL=>by cases hL⟩
 ·intro L i s ds y J V hL ρ w a;rcases JA i 108 with h|h
  ·exact qyS i s (by rw [Jw h];exact y) J hL a
  ·have S:=(u4.1 y).1;rw [qmB] at S;obtain rfl:i=108:=by omega
   rw [qyL] at y;cases y;exact qyR J hL a V
 ·intro L ρ Y hL a;obtain ⟨cs,O,t⟩:=a.fin (hL 108 (by rw [qmB];decide));simp -implicitDefEqProofs [qt6];refine qY (by simpa using a.r0) O (by simp [t.1]) ?_;exact ⟨cs,by simp,t,a.ext⟩
end Go.L02
namespace Go.Eng
open Go.RowKit
section
variable {P:Program} {Q:Ks} {d:Option Nat} {ty:TypeId} {K:qa->AA->Prop} {ρ:qa} {w:AA}
def yG:AB->Bool| .nilFunc=>true|_=>false
def fnT (P:Program) (t:TypeId):Bool:=match P.underlying t with|some (.func ..)=>true|_=>false
theorem qni {t:TypeId} {v:AB} (c:fnT P t=true) (g:v=.nilFunc\/∃F a b,v=.func F a b):(Op.equal t v .nilFunc).run P w=.ok (yG v) w:=by
 unfold fnT at c;split at c
 ·rename_i j;have h:∀d:Nat,(Op.equalIn (d+1) t v .nilFunc).run P w=.ok (yG v) w:=fun d=>by
   rcases g with rfl|⟨F,a,b,rfl⟩<;>simp [Op.equalIn,run_underlying j,yG]
  simp [Op.equal,Op.maxDepth,h 9999]
 ·cases c
theorem qvH {t g:TypeId} {x:Operand} {v:AB} (j:fnT P t=true) (k:qd ρ x=v) (c:v=.nilFunc\/∃F a b,v=.func F a b) (h:K (qp ρ d (.bool (yG v))) w):qB P Q d (.binOp .eql t x (.const .nilFunc) g) ty K ρ w:=by
 refine jN (v:=.bool (yG v)) (w':=w) ?_ h;have:=qni (w:=w) j c;rcases c with rfl|⟨F,a,b,rfl⟩<;>simp [execOp,qR,k,eqGuard,binOp,this]
theorem qvD {t g:TypeId} {x:Operand} {v:AB} (j:fnT P t=true) (k:qd ρ x=v) (c:v=.nilFunc\/∃F a b,v=.func F a b) (h:K (qp ρ d (.bool (!yG v))) w):qB P Q d (.binOp .neq t x (.const .nilFunc) g) ty K ρ w:=by
 refine jN (v:=.bool (!yG v)) (w':=w) ?_ h;have:=qni (w:=w) j c;rcases c with rfl|⟨F,a,b,rfl⟩<;>simp [execOp,qR,k,eqGuard,binOp,this]
end
end Go.Eng
namespace Go.L02
open Go Go.Eng Go.RowKit
open Go.Proofs hiding encI
open Go.L01 (Bs Own.same Tok qJ qW qY qi)
set_option maxRecDepth 100000
set_option maxHeartbeats 2000000
structure Rd (w:AA) (v:AB) (xs:List NV):Prop where
 cells:Cells w v 6 (jY xs)
 kids:∀x∈xs,Cells w x.kv 1 (x.nd.kids.map encI)
def _root_.Go.Eng.Cells.ext {w w':AA} {v:AB} {sz:Nat} {xs:List AB} (h:Cells w v sz xs) (c:qc w w'):Cells w' v sz xs:=⟨h.is,h.len,fun j a=>c.cell (h.cell j a)⟩
def Rd.ext {w w':AA} {v:AB} {xs:List NV} (h:Rd w v xs) (a:qc w w'):Rd w' v xs:=⟨h.cells.ext a,fun x c=>(h.kids x c).ext a⟩
def qCx {xs:List NV} {k j:Nat} (a:k<xs.length) (g:j<6):(jY xs)[k*6+j]? =(qe xs[k])[j]? :=by
 induction xs generalizing k with
 |nil=>simp at a
 |cons x xs c=>
  have e:jY (x::xs)=qe x++jY xs:=rfl;have h:(qe x).length=6:=rfl;rw [e];cases k with
  |zero=>rw [JK (by omega)];simp
  |succ k=>
   rw [JL (by omega),show (k+1)*6+j - (qe x).length=k*6+j by omega];simpa using c (k:=k) (by simpa using a)
section
variable {w:AA} {v:AB} {xs:List NV}
theorem Rd.len (h:Rd w v xs):qm v=xs.length:=by have:=h.cells.len;rw [wo] at this;omega
theorem Rd.cell (h:Rd w v xs) {k j:Nat} (g:k<xs.length) (c:j<6):w.cell? (qN v (k*6+j))=(qe xs[k])[j]? :=by
 have a:k*6+j<(jY xs).length:=by rw [wo];omega
 rw [h.cells.cell _ a,<-uj a,qCx g c]
theorem Rd.row (h:Rd w v xs) {k:Nat} (o:k<xs.length):Eng.q4 w (qN v (k*6)) 0 6=some (qe xs[k]):=by
 have:=wE (w:=w) (a:=qN v (k*6)) (l:=qe xs[k]) (i:=0) fun j g=>by
  have c:j<6:=g;rw [qba,ur,h.cell o c,uj g]
 exact this
end
structure DOk (d:D):Prop where
 kind:d.kind<256
 name:d.name.length<4294967281
 vr:d.vr.length<4294967281
 typ:d.typ.length<4294967281
theorem qvj:fnT Tryz.prog 34=true:=by kernel_rfl
theorem qvk:fnT Tryz.prog 238=true:=by kernel_rfl
def qwY (F:FuncId) (c:Array AB):qS F c=.nilFunc\/∃F' a b,qS F c=.func F' a b:=.inr ⟨_,_,_,rfl⟩
def qig {w:AA} (k:L01.G w) {v:AB} {o:Option (Bs->Bool)} (s:Bs) (j:s.length<4294967281) (h:xi (xx w) v o):Calls Tryz.prog 225 #[.string (qb s),v] w fun e w'=>e=.returned (.bool (kJ s o))/\qc w w':=by
 have q:(⟨#[]⟩:ByteArray)=qb []:=rfl;refine qFD fun ρ r0 r1=>?_;simp -implicitDefEqProofs [qsG,r0,r1];cases o with
 |none=>
  cases h;refine qvH qvj (v:=.nilFunc) (by simp) (.inl rfl) ?_;simp -implicitDefEqProofs [yG,r0,q,vv,kJ];exact jd _
 |some f=>
  obtain ⟨F,caps,rfl,a,c⟩:=xx.fn h k;refine qvH qvj (v:=qS F caps) (by simp) (qwY _ _) ?_;simp -implicitDefEqProofs [yG,qS,qsF,r0,r1];refine xh a (t:=9) (fs:=#[]) (caps:=caps) (by simp) ?_;simp -implicitDefEqProofs;refine (c s j).mono ?_;rintro _ w1 ⟨rfl,g⟩;simp -implicitDefEqProofs [kJ];exact g
def qz3:∀(k:Nat) (r:Row),kN k=some r->r.more=none->r.most<=r.first.length:=by
 intro k r h a;unfold kN qde at h;rcases k with _|_|_|_|_|_|_|_|_|_|_|_|_|_|_|_|_|_|_|_|_|_|_|_|_|_|_|_|_|_|_|_|_|_|_|_|_|_|k<;>
  simp [Option.join] at h<;>subst h<;>first|(simp [vB];done)|(simp at a;done)|(simp;done)
theorem qlD:Tryz.prog.underlying 175=some (.array 38 174):=by kernel_rfl
theorem qlE:Tryz.prog.underlying 174=some (.pointer 241):=by kernel_rfl
def qHA:∃inf,Tryz.prog.info? 174=some inf/\inf.size=1:=by
 have:(match Tryz.prog.info? 174 with|some inf=>inf.size==1|none=>false)=true:=by kernel_rfl
 cases h:Tryz.prog.info? 174 with
 |none=>rw [h] at this;cases this
 |some inf=>rw [h] at this;exact ⟨inf,rfl,by simpa using this⟩
def qz4 {k:Nat} (h:38<=k):kN k=none:=by
 unfold kN;have:qde[k]? =none:=yt (by show qde.length<=k;exact h);rw [this];rfl
def qiD {v:AB} (h:qA v=true):qm v<=qI v:=by
 rcases xF h with ⟨b,o,n,c,rfl,a⟩|rfl|⟨b,o,s,rfl⟩
 ·exact a
 ·exact kh _
 ·exact kh _
def qkU {w:AA} {v:AB} {xs:List AB} (h:Cells w v 1 xs) (l:Nat) (o:l<=xs.length):Cells w (q8 v 1 l (qm v) (qI v)) 1 (xs.drop l):=by
 have g:=h.len;have c:=qiD h.is;refine ⟨qbq h.is 1 l _ _ (by omega) c (kh _),by rw [qht _ _ _ _ h.is];simp;omega,fun j k=>?_⟩;have a:l+j<xs.length:=by simp at k;omega
 rw [qhu 1 l _ _ j h.is (by omega) (by omega),uW,h.cell (l+j) a];simp
def qz2:∀(k:Nat) (r:Row),kN k=some r->r.most<=400:=by
 intro k r h;unfold kN qde at h;rcases k with _|_|_|_|_|_|_|_|_|_|_|_|_|_|_|_|_|_|_|_|_|_|_|_|_|_|_|_|_|_|_|_|_|_|_|_|_|_|k<;>
  simp [Option.join] at h<;>subst h<;>first|(simp [vB];done)|(simp;done)
def RB (w:AA) (b:Bool) (e:Ending) (w':AA):Prop:=e=.returned (.bool b)/\qc w w'
structure RtS (w W:AA) (lv:AB) (xs:List NV) (x:NV) (X Rw:Nat) (nm vr ty nu fi mo:AB) (r:Row):Prop where
 ext:qc w W
 rd:Rd W lv xs
 bX:Blk W X (qe x).toArray 44
 bR:Blk W Rw (zj nm vr ty nu fi mo r) 241
 rc:RowC W nm vr ty nu fi mo r
 kv:Cells W x.kv 1 (x.nd.kids.map encI)
 g:L01.G W
 m:xI W
structure RtK (ρ:qa) (lv:AB) (X Rw:Nat):Prop where
 r0:ρ 0=lv
 r4:ρ 4=.pointer (some ⟨X,0,none⟩)
 r7:ρ 7=.pointer (some ⟨Rw,0,none⟩)
structure RtH (xs:List NV) (x:NV) (r:Row):Prop where
 d:DOk x.nd.d
 ds:∀y∈xs,DOk y.nd.d
 len:xs.length<=400
 hin:∀k∈x.nd.kids,0<=k/\k<xs.length
 row:kN x.nd.d.kind=some r
section
variable {w W W':AA} {lv:AB} {xs:List NV} {x:NV} {X Rw:Nat} {nm vr ty nu fi mo:AB} {r:Row} {ρ:qa}
theorem RtS.to (h:RtS w W lv xs x X Rw nm vr ty nu fi mo r) (a:qc W W'):RtS w W' lv xs x X Rw nm vr ty nu fi mo r:=
 ⟨h.ext.trans' a,h.rd.ext a,h.bX.ext a,h.bR.ext a,h.rc.at' (qj.ext a),h.kv.ext a,h.g.ext a,h.m.ext a⟩
theorem RtS.cX (h:RtS w W lv xs x X Rw nm vr ty nu fi mo r):W.cell? ⟨X,0,none⟩=some (.int .u8 (x.nd.d.kind:Int))/\W.cell? ⟨X,1,none⟩=some (.string (qb x.nd.d.name))/\W.cell? ⟨X,2,none⟩=some (.string (qb x.nd.d.vr))/\W.cell? ⟨X,3,none⟩=some (.string (qb x.nd.d.typ))/\W.cell? ⟨X,4,none⟩=some (.int .i64 x.nd.d.n)/\W.cell? ⟨X,5,none⟩=some x.kv:=
 ⟨by rw [h.bX.cell];rfl,by rw [h.bX.cell];rfl,by rw [h.bX.cell];rfl,by rw [h.bX.cell];rfl,by rw [h.bX.cell];rfl,by rw [h.bX.cell];rfl⟩
theorem RtS.cR (h:RtS w W lv xs x X Rw nm vr ty nu fi mo r):W.cell? ⟨Rw,0,none⟩=some nm/\W.cell? ⟨Rw,1,none⟩=some vr/\W.cell? ⟨Rw,2,none⟩=some ty/\W.cell? ⟨Rw,3,none⟩=some nu/\W.cell? ⟨Rw,4,none⟩=some fi/\W.cell? ⟨Rw,5,none⟩=some mo/\W.cell? ⟨Rw,6,none⟩=some (.int .i64 (r.least:Int))/\W.cell? ⟨Rw,7,none⟩=some (.int .i64 (r.most:Int)):=
 ⟨by rw [h.bR.cell];rfl,by rw [h.bR.cell];rfl,by rw [h.bR.cell];rfl,by rw [h.bR.cell];rfl,by rw [h.bR.cell];rfl,by rw [h.bR.cell];rfl,by rw [h.bR.cell];rfl,by rw [h.bR.cell];rfl⟩
theorem RtS.row (h:RtS w W lv xs x X Rw nm vr ty nu fi mo r):Eng.q4 W ⟨X,0,none⟩ 0 6=some (qe x):=by
 have:=xc h.bX;simpa [qe] using this
theorem RtS.kl (h:RtS w W lv xs x X Rw nm vr ty nu fi mo r):qm x.kv=x.nd.kids.length:=by have:=h.kv.len;simpa using this.symm
theorem qC3 {k:Int} (h:0<=k/\k<xs.length):qce (xs.map (·.nd)) k=(xs[k.toNat]'(by omega)).nd.d.name:=by
 unfold qce;rw [J4,uj (by omega)];rfl
theorem qC4 {k:Int} (h:0<=k/\k<xs.length):qcf (xs.map (·.nd)) k=(xs[k.toNat]'(by omega)).nd.d.kind:=by
 unfold qcf;rw [J4,uj (by omega)];rfl
theorem qzZ (hh:RtH xs x r) (h:RtS w W lv xs x X Rw nm vr ty nu fi mo r) (a:RtK ρ lv X Rw) (h32:x.nd.d.kind=32->1<=x.nd.kids.length) (hkl:x.nd.kids.length<=400):
  qcl.wp ⟨Tryz.prog,178,kT,[]⟩ (qz [.tmp 6] (RB w (xo (xs.map (·.nd)) x.nd))) (qM [.tmp 6] (RB w (xo (xs.map (·.nd)) x.nd))) ρ W:=by
 obtain ⟨c0,c1,c2,c3,c4,c5⟩:=h.cX;have e0:(⟨#[]⟩:ByteArray)=qb []:=rfl;have en:(⟨#[110,111,116]⟩:ByteArray)=qb [110,111,116]:=rfl;have hl:=h.kl;simp -implicitDefEqProofs [qcl,a.r4,c0];by_cases k5:x.nd.d.kind=5
 ·have es:xo (xs.map (·.nd)) x.nd=qgm x.nd.d:=by unfold xo;rw [j0 k5]
  rw [es];simp -implicitDefEqProofs [k5,a.r4,h.row];refine (qBL (x:=x) h.g h.m h.kv.is hh.d.name hh.d.vr hh.d.typ).mono ?_;rintro _ w2 ⟨rfl,hE⟩;simp -implicitDefEqProofs [RB];exact h.ext.trans' hE
 ·by_cases k6:x.nd.d.kind=6
  ·have es:xo (xs.map (·.nd)) x.nd=(decide (x.nd.d.name=[110,111,116])==decide (x.nd.kids.length=1)):=by unfold xo;rw [q3 k5,j0 k6]
   rw [es];simp -implicitDefEqProofs [k6,a.r4,c1,c5,h.kv.is,hl,en,vv,RB];refine ⟨?_,h.ext⟩;congr 1;rw [uR];simp;omega
  ·by_cases S:x.nd.d.kind=32
   ·have es:xo (xs.map (·.nd)) x.nd=qa3 (xs.map (·.nd)) x.nd.kids.length 0 (x.nd.kids.drop 1):=by unfold xo;rw [q3 k5,q3 k6,j0 S]
    have h1:=h32 S;rw [es];have U:=qbq h.kv.is 1 1 (qm x.kv) (qI x.kv) (by rw [hl];exact h1) (qiD h.kv.is) (kh _);have t:=qkU h.kv 1 (by simpa using h1);generalize Z:qa3 (xs.map (·.nd)) x.nd.kids.length 0 (x.nd.kids.drop 1)=b;have h1':(1:Int)<=(x.nd.kids.length:Int):=by omega
    rw [hl] at U t;simp -implicitDefEqProofs [S,a.r4,c5,h.kv.is,hl,h1',U];generalize hkv:q8 x.kv 1 1 x.nd.kids.length (qI x.kv)=kv at U t;obtain ⟨I,hI⟩:∃I:Nat->qa->AA->Prop,∀j H w',I j H w'↔(RtK H lv X Rw/\H 150=kv/\H 151=.int .i64 ((x.nd.kids.length - 1:Nat):Int)/\RtS w w' lv xs x X Rw nm vr ty nu fi mo r/\qa3 (xs.map (·.nd)) x.nd.kids.length j ((x.nd.kids.drop 1).drop j)=b):=⟨_,fun _ _ _=>Iff.rfl⟩;refine zH 152 (x.nd.kids.length - 1) I (by simp) ((hI _ _ _).2 ⟨⟨by simp [a.r0],by simp [a.r4],by simp [a.r7]⟩,by simp,by simp,h,Z⟩) ?_;clear a Z h c0 c1 c2 c3 c4 c5 t;rintro j H w' hj rj hIw;obtain ⟨a,O,y,h,Z⟩:=(hI _ _ _).1 hIw;obtain ⟨c0,c1,c2,c3,c4,c5⟩:=h.cX;have t:=qkU h.kv 1 (by simpa using h1);rw [hl,hkv] at t;have hkl1:qm kv=x.nd.kids.length - 1:=by have:=t.len;simpa using this.symm
    by_cases E:j<x.nd.kids.length - 1
    ·have hjl:j<(x.nd.kids.drop 1).length:=by simpa using E
     have hj1:j+1<x.nd.kids.length:=by omega
     have q:=t.cell j (by simpa using E);have hget:(List.drop 1 (List.map encI x.nd.kids))[j]'(by simpa using E)=encI (x.nd.kids[j+1]):=by simp
     rw [hget] at q;have hin:=hh.hin x.nd.kids[j+1] (uo _);have hdr:(x.nd.kids.drop 1).drop j=x.nd.kids[j+1]::(x.nd.kids.drop 1).drop (j+1):=by
      rw [uM hjl];simp [Jj]
     rw [hdr] at Z;have c:((qJ (qce (xs.map (·.nd)) x.nd.kids[j+1])|| !(!decide (qce (xs.map (·.nd)) x.nd.kids[j+1]=[])||decide (j+2<x.nd.kids.length)))&&qa3 (xs.map (·.nd)) x.nd.kids.length (j+1) ((x.nd.kids.drop 1).drop (j+1)))=b:=Z;rw [qC3 hin] at c;generalize hk:x.nd.kids[j+1]=k at q hin c;have hkn:k.toNat<xs.length:=by omega
     have hkz:((k.toNat:Nat):Int)=k:=by omega
     have cn:w'.cell? (qN lv (k.toNat*6+1))=some (.string (qb (xs[k.toNat]).nd.d.name)):=by rw [h.rd.cell hkn (by omega)];rfl
     have J:(j:Int)<((x.nd.kids.length - 1:Nat):Int):=by omega
     simp -implicitDefEqProofs [qjS,rj,y,J,qt1,O,U,hkl1,E,q,encI,a.r0,h.rd.cells.is,h.rd.len,hin.1,hin.2,cn];refine (L01.yp h.g _).mono ?_;rintro _ w2 ⟨rfl,hE⟩;have h2:=h.to hE;obtain ⟨_,_,_,_,_,c5'⟩:=h2.cX;have V:∀o:qa,o 0=lv->o 4=.pointer (some ⟨X,0,none⟩)->o 7=.pointer (some ⟨Rw,0,none⟩)->o 150=kv->o 151=.int .i64 ((x.nd.kids.length - 1:Nat):Int)->qa3 (xs.map (·.nd)) x.nd.kids.length (j+1) ((x.nd.kids.drop 1).drop (j+1))=b->I (j+1) o w2:=
      fun o a0 a4 a7 a150 a151 hb2=>(hI _ _ _).2 ⟨⟨a0,a4,a7⟩,a150,a151,h2,hb2⟩
     have hw:IntKind.i64.wrap ((x.nd.kids.length:Int) - 2)=(x.nd.kids.length:Int) - 2:=q7 (by omega);have hwj:IntKind.i64.wrap ((j:Int)+1)=(j:Int)+1:=q7 (by omega);generalize (xs[k.toNat]'hkn).nd.d.name=nm at c cn;cases hn:qJ nm with
     |true=>
      rw [hn] at c;simp -implicitDefEqProofs [qjV,rj,hwj];exact V _ (by simp [a.r0]) (by simp [a.r4]) (by simp [a.r7]) (by simp [O]) (by simp [y]) (by simpa using c)
     |false=>
      rw [hn] at c;by_cases Y:nm=[]
      ·subst Y;by_cases hj2:j+2<x.nd.kids.length
       ·have z:(j:Int)<(x.nd.kids.length:Int) - 2:=by omega
        simp -implicitDefEqProofs [e0,a.r4,c5',h.kv.is,hl,hw,z,RB];refine ⟨?_,h2.ext⟩;rw [<-c];simp [hj2]
       ·have z:¬(j:Int)<(x.nd.kids.length:Int) - 2:=by omega
        simp -implicitDefEqProofs [e0,a.r4,c5',h.kv.is,hl,hw,z,qjV,rj,hwj];exact V _ (by simp [a.r0]) (by simp [a.r4]) (by simp [a.r7]) (by simp [O]) (by simp [y]) (by simpa [hj2] using c)
      ·simp -implicitDefEqProofs [e0,vv,Y,RB];refine ⟨?_,h2.ext⟩;rw [<-c];simp [Y]
    ·have J:¬(j:Int)<((x.nd.kids.length - 1:Nat):Int):=by omega
     have hd0:(x.nd.kids.drop 1).drop j=[]:=by rw [Jk];simp;omega
     rw [hd0] at Z;simp -implicitDefEqProofs [qjS,rj,y,J,E,qjU,RB];exact ⟨Z.symm,h.ext⟩
   ·have es:xo (xs.map (·.nd)) x.nd=true:=by unfold xo;rw [q3 k5,q3 k6,q3 S]
    rw [es];have k5':¬(x.nd.d.kind:Int)=5:=by omega
    have k6':¬(x.nd.d.kind:Int)=6:=by omega
    have k32':¬(x.nd.d.kind:Int)=32:=by omega
    simp -implicitDefEqProofs [k5',k6',k32',qjU,RB];exact h.ext
theorem qC2 {w:AA} {v:AB} {l:List (Nat->Bool)} (h:xV w v l) {i:Nat} (a:i<l.length):qA v=true/\qm v=l.length/\∃u,w.cell? (qN v i)=some u/\zF w u l[i]:=by
 rcases h with ⟨_,rfl⟩|⟨B,cs,rfl,g,c⟩
 ·simp at a
 ·have j:=c.len;refine ⟨by simp [qA],rfl,cs[i]'(by omega), ?_,c.get i (by omega) a⟩;simp only [qN,ur];rw [g.cell];simp [j,a]
theorem qC1 {w:AA} {v:AB} {l:List (Nat->Bool)} (h:xV w v l):qA v=true/\qm v=l.length:=by
 rcases h with ⟨rfl,rfl⟩|⟨B,cs,rfl,c,a⟩
 ·exact ⟨rfl,rfl⟩
 ·exact ⟨by simp [qA],rfl⟩
theorem qz1 (hh:RtH xs x r) (h:RtS w W lv xs x X Rw nm vr ty nu fi mo r) (a:RtK ρ lv X Rw) (h1:r.least<=x.nd.kids.length) (h2:x.nd.kids.length<=r.most):
  qjT.wp ⟨Tryz.prog,178,kT,[]⟩ (qz [.tmp 6] (RB w (yF (xs.map (·.nd)) r 0 x.nd.kids&&xo (xs.map (·.nd)) x.nd))) (qM [.tmp 6] (RB w (yF (xs.map (·.nd)) r 0 x.nd.kids&&xo (xs.map (·.nd)) x.nd))) ρ W:=by
 obtain ⟨c0,c1,c2,c3,c4,c5⟩:=h.cX;have hl:=h.kl;have hmost:r.most<=400:=qz2 _ _ hh.row;have h32:x.nd.d.kind=32->1<=x.nd.kids.length:=fun e=>by
  have:=hh.row;rw [e] at this;have hr:r.least=2:=by
   have h3:kN 32=some {first:=[vQ 20],more:=some (vQ 33),least:=2,most:=400}:=rfl;rw [h3] at this;cases this;rfl
  omega
 generalize Y:(yF (xs.map (·.nd)) r 0 x.nd.kids&&xo (xs.map (·.nd)) x.nd)=b;simp -implicitDefEqProofs [qjT,a.r4,c5,h.kv.is,hl];obtain ⟨I,hI⟩:∃I:Nat->qa->AA->Prop,∀j S w',I j S w'↔(RtK S lv X Rw/\S 97=x.kv/\S 98=.int .i64 (x.nd.kids.length:Int)/\RtS w w' lv xs x X Rw nm vr ty nu fi mo r/\(yF (xs.map (·.nd)) r j (x.nd.kids.drop j)&&xo (xs.map (·.nd)) x.nd)=b):=⟨_,fun _ _ _=>Iff.rfl⟩;refine zH 99 x.nd.kids.length I (by simp) ((hI _ _ _).2 ⟨⟨by simp [a.r0],by simp [a.r4],by simp [a.r7]⟩,by simp,by simp,h,Y⟩) ?_;clear a Y h c0 c1 c2 c3 c4 c5;rintro j S w' hj rj hIw;obtain ⟨a,U,J,h,Y⟩:=(hI _ _ _).1 hIw;obtain ⟨d0,d1,d2,d3,d4,d5,d6,d7⟩:=h.cR;have hwj:IntKind.i64.wrap ((j:Int)+1)=(j:Int)+1:=q7 (by omega);by_cases y:j<x.nd.kids.length
 ·have c:=h.kv.cell j (by simpa using y);have hget:(List.map encI x.nd.kids)[j]'(by simpa using y)=encI (x.nd.kids[j]):=by simp
  rw [hget] at c;have hin:=hh.hin x.nd.kids[j] (uo _);rw [uM y] at Y;have q:(((match r.first[j]? with|some f=>f (qcf (xs.map (·.nd)) x.nd.kids[j])|none=>(match r.more with|some f=>f (qcf (xs.map (·.nd)) x.nd.kids[j])|none=>false))&&yF (xs.map (·.nd)) r (j+1) (x.nd.kids.drop (j+1)))&&xo (xs.map (·.nd)) x.nd)=b:=Y;rw [qC4 hin] at q;generalize hk:x.nd.kids[j]=k at c hin q;have Z:k.toNat<xs.length:=by omega
  have hkz:((k.toNat:Nat):Int)=k:=by omega
  have hrow:=h.rd.row Z;obtain ⟨hfi,hfl⟩:=qC1 h.rc.first;have z:(j:Int)<(x.nd.kids.length:Int):=by omega
  have go:∀(g:qa) (u:AB) (f:Nat->Bool),RtK g lv X Rw->g 97=x.kv->g 98=.int .i64 (x.nd.kids.length:Int)->g 99=.int .i64 (j:Int)->g 10=.int .i64 k->g 11=u->zF w' u f->((f (xs[k.toNat]'Z).nd.d.kind&&yF (xs.map (·.nd)) r (j+1) (x.nd.kids.drop (j+1)))&&xo (xs.map (·.nd)) x.nd)=b->
    qjZ.wp ⟨Tryz.prog,178,kT,[]⟩ (qfT.wp ⟨Tryz.prog,178,kT,[]⟩ (fun o aa=>o 99=.int .i64 ((j:Int)+1)/\I (j+1) o aa) (((qM [.tmp 6] (RB w b)).blk 0 (qcl.wp ⟨Tryz.prog,178,kT,[]⟩ (qz [.tmp 6] (RB w b)) (qM [.tmp 6] (RB w b)))))) ((((qM [.tmp 6] (RB w b)).blk 0 (qcl.wp ⟨Tryz.prog,178,kT,[]⟩ (qz [.tmp 6] (RB w b)) (qM [.tmp 6] (RB w b))))).blk 1 (qfT.wp ⟨Tryz.prog,178,kT,[]⟩ (fun o aa=>o 99=.int .i64 ((j:Int)+1)/\I (j+1) o aa) (((qM [.tmp 6] (RB w b)).blk 0 (qcl.wp ⟨Tryz.prog,178,kT,[]⟩ (qz [.tmp 6] (RB w b)) (qM [.tmp 6] (RB w b))))))) g w':=by
   intro g u f E a97 a98 a99 a10 a11 hu H;obtain ⟨F,caps,rfl,hcb,hc⟩:=hu.fn;simp -implicitDefEqProofs [qjZ,a11,qS,E.r0,a10,h.rd.cells.is,h.rd.len,hin.1,hin.2,hrow];refine xh hcb (t:=122) (fs:=#[]) (caps:=caps) (by simp) ?_;simp -implicitDefEqProofs;refine (hc w' (jd _) xs[k.toNat] (h.rd.kids _ (uo _)).is (hh.ds _ (uo _)).kind).mono ?_;rintro _ w2 ⟨rfl,hE⟩;have h2:=h.to hE;cases hf:f (xs[k.toNat]'Z).nd.d.kind with
   |false=>
    rw [hf] at H;simp -implicitDefEqProofs [RB];exact ⟨by rw [<-H];rfl,h2.ext⟩
   |true=>
    rw [hf] at H;simp -implicitDefEqProofs [qfT,a99,hwj,y];exact (hI _ _ _).2 ⟨⟨by simp [E.r0],by simp [E.r4],by simp [E.r7]⟩,by simp [a97],by simp [a98],h2,by simpa using H⟩
  by_cases V:j<r.first.length
  ·have O:(j:Int)<(r.first.length:Int):=by omega
   obtain ⟨_,_,u,hu,hku⟩:=qC2 h.rc.first V;have e1:r.first[j]? =some r.first[j]:=uj V;rw [e1] at q;simp -implicitDefEqProofs [qfQ,rj,J,U,z,y,qjW,h.kv.is,hl,c,encI,a.r7,d4,d5,hfi,hfl,O,V,hu];exact go _ u _ ⟨by simp [a.r0],by simp [a.r4],by simp [a.r7]⟩ (by simp [U]) (by simp [J]) (by simp [rj]) (by simp) (by simp) hku q
  ·have O:¬(j:Int)<(r.first.length:Int):=by omega
   have e1:r.first[j]? =none:=yt (by omega);rw [e1] at q;cases hm:r.more with
   |none=>
    have:=qz3 _ _ hh.row hm;omega
   |some f=>
    rw [hm] at q;have hmo:=h.rc.more;rw [hm] at hmo;simp -implicitDefEqProofs [qfQ,rj,J,U,z,y,qjW,h.kv.is,hl,c,encI,a.r7,d4,d5,hfi,hfl,O,V];exact go _ mo f ⟨by simp [a.r0],by simp [a.r4],by simp [a.r7]⟩ (by simp [U]) (by simp [J]) (by simp [rj]) (by simp) (by simp) hmo q
 ·have z:¬(j:Int)<(x.nd.kids.length:Int):=by omega
  have hd0:x.nd.kids.drop j=[]:=Jk.2 (by omega);rw [hd0] at Y;have H:xo (xs.map (·.nd)) x.nd=b:=by simpa [yF] using Y
  simp -implicitDefEqProofs [qfQ,rj,J,z,y];rw [<-H];exact qzZ hh h ⟨by simp [a.r0],by simp [a.r4],by simp [a.r7]⟩ h32 (by omega)
theorem qno {num:Bool} (H:RtH xs x r) (h:RtS w W lv xs x X Rw nm vr ty nu fi mo r) (c:RtK ρ lv X Rw) (r8:ρ 8=.bool num) {b:Bool}
  (k:(kJ x.nd.d.name r.name&&kJ x.nd.d.vr r.vr&&kJ x.nd.d.typ r.typ&&num&&(decide (r.least<=x.nd.kids.length)&&decide (x.nd.kids.length<=r.most))&&yF (xs.map (·.nd)) r 0 x.nd.kids&&xo (xs.map (·.nd)) x.nd)=b):
  qjY.wp ⟨Tryz.prog,178,kT,[]⟩ (qz [.tmp 6] (RB w b)) (qM [.tmp 6] (RB w b)) ρ W:=by
 obtain ⟨c0,c1,c2,c3,c4,c5⟩:=h.cX;obtain ⟨S,O,U,d3,d4,d5,Z,d7⟩:=h.cR;have J:=h.kl;have fin:∀(o:qa) (W2:AA),qc W W2->o 95=.bool true->b=false->qfS.wp ⟨Tryz.prog,178,kT,[]⟩ (qz [.tmp 6] (RB w b)) (qM [.tmp 6] (RB w b)) o W2:=by
  intro o W2 q V Y;subst Y;simp -implicitDefEqProofs [qfS,V,RB];exact h.ext.trans' q
 simp -implicitDefEqProofs [-jj,xr,xu,xq,qjY,c.r4,c.r7,c1,S];refine qb5 (.bool (kJ x.nd.d.name r.name)) qkV (fun w' a=>?_) ?_
 ·simp;refine (qig (h.to a).g _ H.d.name (h.to a).rc.name).mono ?_;rintro _ w2 ⟨rfl,q⟩;exact ⟨rfl,a.trans' q⟩
 cases t:kJ x.nd.d.name r.name with
 |false=>
  rw [t] at k;simp -implicitDefEqProofs [-jj,xr,xu,xq];intro W2 j;exact fin _ W2 j (by simp) (by rw [<-k];rfl)
 |true=>
 simp -implicitDefEqProofs [-jj,xr,xu,xq,c.r4,c.r7,c2,O];refine qb5 (.bool (kJ x.nd.d.vr r.vr)) qkV (fun w' a=>?_) ?_
 ·simp;refine (qig (h.to a).g _ H.d.vr (h.to a).rc.vr).mono ?_;rintro _ w2 ⟨rfl,q⟩;exact ⟨rfl,a.trans' q⟩
 cases z:kJ x.nd.d.vr r.vr with
 |false=>
  rw [t,z] at k;simp -implicitDefEqProofs [-jj,xr,xu,xq];intro W2 j;exact fin _ W2 j (by simp) (by rw [<-k];rfl)
 |true=>
 simp -implicitDefEqProofs [-jj,xr,xu,xq,c.r4,c.r7,c3,U];refine qb5 (.bool (kJ x.nd.d.typ r.typ)) qkV (fun w' a=>?_) ?_
 ·simp;refine (qig (h.to a).g _ H.d.typ (h.to a).rc.typ).mono ?_;rintro _ w2 ⟨rfl,q⟩;exact ⟨rfl,a.trans' q⟩
 cases E:kJ x.nd.d.typ r.typ with
 |false=>
  rw [t,z,E] at k;simp -implicitDefEqProofs [-jj,xr,xu,xq];intro W2 j;exact fin _ W2 j (by simp) (by rw [<-k];rfl)
 |true=>
 cases num with
 |false=>
  rw [t,z,E] at k;simp -implicitDefEqProofs [-jj,xr,xu,xq,r8];intro W2 j;exact fin _ W2 j (by simp) (by rw [<-k];rfl)
 |true=>
 simp -implicitDefEqProofs [-jj,xr,xu,xq,r8,c.r4,c.r7,c5,h.kv.is,J,Z,d7];refine qb5 (.bool (decide (r.least<=x.nd.kids.length)&&decide (x.nd.kids.length<=r.most))) qIQ (fun w' a=>?_) ?_
 ·simp;refine (qbl w' _ _ _).mono ?_;rintro _ _ ⟨rfl,rfl⟩;refine ⟨?_,a⟩;simp
 cases y:(decide (r.least<=x.nd.kids.length)&&decide (x.nd.kids.length<=r.most)) with
 |false=>
  rw [t,z,E,y] at k;simp -implicitDefEqProofs [-jj,xr,xu,xq];intro W2 j;exact fin _ W2 j (by simp) (by rw [<-k];rfl)
 |true=>
  rw [t,z,E,y] at k;simp only [km,ue] at y;simp -implicitDefEqProofs [-jj,xr,xu,xq];intro W2 j;have I:(yF (xs.map (·.nd)) r 0 x.nd.kids&&xo (xs.map (·.nd)) x.nd)=b:=k;simp -implicitDefEqProofs [qfS];rw [<-I];exact qz1 H (h.to j) ⟨by simp [c.r0],by simp [c.r4],by simp [c.r7]⟩ y.1 y.2
theorem qz0 (j:RtH xs x r) (h:RtS w W lv xs x X Rw nm vr ty nu fi mo r) (a:RtK ρ lv X Rw):
  qjX.wp ⟨Tryz.prog,178,kT,[]⟩ (qz [.tmp 6] (RB w (yy (xs.map (·.nd)) x.nd))) (qM [.tmp 6] (RB w (yy (xs.map (·.nd)) x.nd))) ρ W:=by
 obtain ⟨c0,c1,c2,c3,c4,c5⟩:=h.cX;obtain ⟨S,O,U,I,V,J,Z,d7⟩:=h.cR;generalize k:yy (xs.map (·.nd)) x.nd=b;unfold yy at k;rw [j.row] at k;simp -implicitDefEqProofs [qjX,a.r4,a.r7,c4,I];cases hn:r.n with
 |none=>
  have c:=h.rc.n;rw [hn] at c;cases c;refine qvD qvk (v:=.nilFunc) (by simp) (.inl rfl) ?_;simp -implicitDefEqProofs [yG];refine qno (num:=decide (x.nd.d.n=0)) j h ⟨by simp [a.r0],by simp [a.r4],by simp [a.r7]⟩ (by simp;rw [uR];simp) ?_;simpa [hn] using k
 |some f=>
  have c:=h.rc.n;rw [hn] at c;obtain ⟨F,caps,rfl,q,E⟩:=kW.fn c;refine qvD qvk (v:=qS F caps) (by simp) (qwY _ _) ?_;simp -implicitDefEqProofs [yG,qS];refine js qGN (fun W'=>Blk W' X (qe x).toArray 44/\Blk W' Rw (zj nm vr ty (qS F caps) fi mo r) 241) fun w3 g _=>⟨⟨h.bX.ext g,h.bR.ext g⟩, ?_⟩;have o:=h.to g;have H:∀W',(Blk W' X (qe x).toArray 44/\Blk W' Rw (zj nm vr ty (qS F caps) fi mo r) 241)->W'.cell? ⟨X,4,none⟩=some (.int .i64 x.nd.d.n)/\W'.cell? ⟨Rw,3,none⟩=some (qS F caps):=fun W' j=>⟨by rw [j.1.cell];rfl,by rw [j.2.cell];rfl⟩;have y:Blk w3 X (qe x).toArray 44/\Blk w3 Rw (zj nm vr ty (qS F caps) fi mo r) 241:=⟨o.bX,o.bR⟩;simp+contextual -implicitDefEqProofs [qtZ,H,y,a.r4,a.r7];refine xh q (t:=45) (fs:=#[]) (caps:=caps) (by simp [qS]) ?_;simp -implicitDefEqProofs;refine (E w3 g x.nd.d.n).mono ?_;rintro _ Y ⟨rfl,z⟩;simp -implicitDefEqProofs;refine qno (num:=f x.nd.d.n) j (o.to z) ⟨by simp [a.r0],by simp [a.r4],by simp [a.r7]⟩ (by simp) ?_;simpa [hn] using k
end
section
variable {w:AA} {lv:AB} {xs:List NV} {x:NV} {A:Nat} {cs:List AB} {R:Ending->AA->Prop}
theorem qBh (hG:L01.G w) (hM:xI w) (hR:Rd w lv xs) (hx:Cells w x.kv 1 (x.nd.kids.map encI)) (hd:DOk x.nd.d) (hds:∀y∈xs,DOk y.nd.d) (S:xs.length<=400) (hin:∀k∈x.nd.kids,0<=k/\k<xs.length) (hA:Blk w A cs.toArray 175) (hT:Qy w cs):
  Calls Tryz.prog 147 #[lv,xE x,.pointer (some ⟨A,0,none⟩)] w (RB w (yy (xs.map (·.nd)) x.nd)):=by
 generalize H:RB w (yy (xs.map (·.nd)) x.nd)=R;have E:=hd.kind;refine qGQ fun ρ r0 r1 r2=>?_;simp -implicitDefEqProofs [qt3];refine vC fun X w1 hX j I _=>?_;rw [show qd ρ (.tmp 1)=xE x by simp [r1],qbp hx.is] at I;simp -implicitDefEqProofs;refine js qGP (fun W=>Blk W X (qe x).toArray 44) fun w2 c _=>⟨I.ext c, ?_⟩;have z:=I.ext c;have O:=hA.ext (j.trans' c);have cX:∀W,Blk W X (qe x).toArray 44->W.cell? ⟨X,0,none⟩=some (.int .u8 (x.nd.d.kind:Int)):=fun W h=>by rw [h.cell];rfl
 by_cases hk:38<=x.nd.d.kind
 ·have t:(38:Int)<=(x.nd.d.kind:Int):=by omega
  simp+contextual -implicitDefEqProofs [qjR,cX,z,k8 E,t,r2,qfR];rw [<-H];refine ⟨?_,j.trans' c⟩;simp [yy,qz4 hk]
 ·have t:¬(38:Int)<=(x.nd.d.kind:Int):=by omega
  obtain ⟨inf,aa,U⟩:=qHA;simp+contextual -implicitDefEqProofs [qjR,cX,z,k8 E,t,r2];refine qgb qlD aa U (B:=A) (o:=0) (k:=x.nd.d.kind) (by simp) (by simp;rfl) (by omega) ?_;have Y:x.nd.d.kind<cs.length:=by rw [hT.1];omega
  have cA:∀W,Blk W A cs.toArray 175->W.cell? ⟨A,x.nd.d.kind,none⟩=some (cs.getD x.nd.d.kind undef):=fun W h=>by
   rw [h.cell,uH,uj Y];simp [Y]
  have g:=hT.2 x.nd.d.kind (by omega);simp -implicitDefEqProofs [cA w2 O];cases hr:kN x.nd.d.kind with
  |none=>
   rw [hr] at g;have e:cs.getD x.nd.d.kind undef=.pointer none:=g;refine qvE qlE (p:=none) (by simp;simpa using e) ?_;simp -implicitDefEqProofs [qfR];rw [<-H];refine ⟨?_,j.trans' c⟩;simp [yy,hr]
  |some r=>
   rw [hr] at g;obtain ⟨Rw,nm,vr,ty,nu,fi,mo,e,hbR,hRC⟩:=g;refine qvE qlE (p:=some ⟨Rw,0,none⟩) (by simp;simpa using e) ?_;simp -implicitDefEqProofs [qfR,qt2];refine js qGO (fun W=>Blk W X (qe x).toArray 44) fun w3 q _=>⟨z.ext q, ?_⟩;have V:=z.ext q;have hA3:=O.ext q;simp+contextual -implicitDefEqProofs [qt0,cX,V,k8 E,t,r2];refine qgb qlD aa U (B:=A) (o:=0) (k:=x.nd.d.kind) (by simp) (by simp;rfl) (by omega) ?_;have Z:=cA w3 hA3;rw [e] at Z;have J:=hbR.ext (((j.trans' c).trans' q));have a:=(j.trans' c).trans' q;simp -implicitDefEqProofs [Z];rw [<-H];exact qz0 ⟨hd,hds,S,hin,hr⟩ ⟨a,hR.ext a,V,J,hRC.at' (qj.ext a),hx.ext a,hG.ext a,hM.ext a⟩ ⟨by simp [r0],by simp,by simp⟩
end
@[simp] theorem qIS:qk Tryz.prog 50=true:=by kernel_rfl
@[simp] theorem qNe:qk Tryz.prog 26=true:=by kernel_rfl
def qBE {w:AA} {a b:AB} {xs ys:List Int} (E:Cells w a 1 (xs.map encI)) (H:Cells w b 1 (ys.map encI)) (aa:xs.length<4611686018427387904):Calls Tryz.prog 50 #[a,b] w fun e w'=>e=.returned (.bool (decide (xs=ys)))/\qc w w':=by
 have o:qm a=xs.length:=by simpa using E.len.symm
 have q:qm b=ys.length:=by simpa using H.len.symm
 refine qD2 fun ρ r0 r1=>?_;simp -implicitDefEqProofs [qqP,r0,r1,E.is,H.is,o,q];by_cases t:xs.length=ys.length
 ·simp -implicitDefEqProofs [t,qqL,r0,E.is,o];obtain ⟨I,S⟩:∃I:Nat->qa->AA->Prop,∀j c w',I j c w'↔(c 0=a/\c 1=b/\c 12=.int .i64 (ys.length:Int)/\qc w w'/\xs.take j=ys.take j):=⟨_,fun _ _ _=>Iff.rfl⟩;refine zH 13 ys.length I (by simp) ((S _ _ _).2 ⟨by simp [r0],by simp [r1],by simp,jd _,by simp⟩) ?_;rintro j c w' hj U V;obtain ⟨r0,r1,k,z,h⟩:=(S _ _ _).1 V;have O:IntKind.i64.wrap ((j:Int)+1)=(j:Int)+1:=q7 (by omega);by_cases g:j<ys.length
  ·have Y:=(E.ext z).cell j (by simpa [t] using g);have Z:=(H.ext z).cell j (by simpa using g);simp only [Jx,encI] at Y Z;simp -implicitDefEqProofs [qiX,U,k,g,qqN,r0,r1,E.is,o,H.is,q,t,Y,Z];intro w2 y;by_cases J:xs[j]=ys[j]
   ·simp -implicitDefEqProofs [qiY,qqO,J,U,O];refine (S _ _ _).2 ⟨by simp [r0],by simp [r1],by simp [k],z.trans' y, ?_⟩;rw [uO (by omega),uO (by omega),h,J]
   ·simp -implicitDefEqProofs [qiY,J];exact ⟨fun e=>J (by simp [e]),z.trans' y⟩
  ·simp -implicitDefEqProofs [qiX,U,k,g,qqM];refine ⟨?_,z⟩;rw [uz (by omega),uz (by omega)] at h;exact h
 ·simp -implicitDefEqProofs [t];exact ⟨fun e=>t (by rw [e]),jd _⟩
def qCf {base e:Nat} {w:AA} {v:AB} {xs:List AB} (h:Own base e 1 w v xs) (l:Nat) (k:l<=xs.length):Own base e 1 w (q8 v 1 0 l l) (xs.take l):=by
 rcases h with ⟨rfl,rfl⟩|⟨g,off,n,cap,cur,rfl,o,j,a,q,y,t,c⟩
 ·have:l=0:=by simpa using k
  subst this;exact .inl ⟨by simp [q8],rfl⟩
 ·have hn:n=xs.length:=by omega
  have es:q8 (.slice (some ⟨g,off,none⟩) n cap) 1 0 l l=.slice (some ⟨g,off,none⟩) l l:=by
   simp [q8]
  rw [es];refine .inr ⟨g,off,l,l,cur,rfl,o,j,by simp;omega,kh _,by omega,by omega, ?_⟩;rw [<-c,List.take_take];congr 1;omega
def y9:Option (List Int)->Bool|some o=>decide (o.length=1)|none=>false
theorem qw4:jU Tryz.prog 44=some #[.int .u8 0,.string ⟨#[]⟩,.string ⟨#[]⟩,.string ⟨#[]⟩,.int .i64 0,.slice none 0 0]:=by kernel_rfl
def qBj {w:AA} {lv:AB} {xs:List NV} (hR:Rd w lv xs) (hlen:xs.length<=1000000) (hkl:∀x∈xs,x.nd.kids.length<=1000000):Calls Tryz.prog 98 #[lv] w fun e w'=>e=.returned (.bool (qaE (xs.map (·.nd))))/\qc w w':=by
 have hl:=hR.len;have his:=hR.cells.is;generalize O:QL (xs.map (·.nd)) 0 []=b;have hp:qaE (xs.map (·.nd))=y9 b:=by unfold qaE;rw [O];cases b<;>rfl
 rw [hp];clear hp;refine qDj fun ρ r0=>?_;simp -implicitDefEqProofs [qpM,r0,his,hl];generalize V:(fun (e:Ending) (w':AA)=>e=.returned (.bool (y9 b))/\qc w w')=R;obtain ⟨I,hI⟩:∃I:Nat->qa->AA->Prop,∀j g w',I j g w'↔(g 7=lv/\g 8=.int .i64 (xs.length:Int)/\∃os:List Int,Own w.heap.size 3 1 w' (g 3) (os.map encI)/\os.length<=j/\qc w w'/\QL ((xs.drop j).map (·.nd)) j os=b):=⟨_,fun _ _ _=>Iff.rfl⟩;refine zH 9 xs.length I (by simp) ((hI _ _ _).2 ⟨by simp,by simp,[],by simpa using Own.nil _ _ _ _,kh _,jd _,O⟩) ?_;clear O r0;rintro j g w' hj rj hIw;obtain ⟨r7,r8,os,S,hol,hE,O⟩:=(hI _ _ _).1 hIw;have aa:=hR.ext hE;generalize H:g 3=v3 at S;have E:=S.isl;have hoc:=L01.jw S;have o:qm v3=os.length:=by simpa using hoc.len.symm
 have hwj:IntKind.i64.wrap ((j:Int)+1)=(j:Int)+1:=q7 (by omega);by_cases q:j<xs.length
 ·rw [uM q] at O;have U:=aa.row q;have hk:=aa.kids xs[j] (uo _);have hkL:qm xs[j].kv=xs[j].nd.kids.length:=by simpa using hk.len.symm
  have hklj:=hkl xs[j] (uo _);have z:=qn hk.is;have hko:=jf hk.is;generalize xs[j]=x at U hk hkL hklj z hko O;have a:(if x.nd.kids.length<=os.length/\os.drop (os.length - x.nd.kids.length)=x.nd.kids then QL ((xs.drop (j+1)).map (·.nd)) (j+1) (os.take (os.length - x.nd.kids.length)++[(j:Int)]) else none)=b:=O;have y:(j:Int)<(xs.length:Int):=by omega
  simp -implicitDefEqProofs [qiF,rj,r8,y,q,qpJ,r7,aa.cells.is,hl,U];refine qQ qw4 fun X w1 hX hE1 hb1 _=>?_;simp -implicitDefEqProofs;refine jg (B:=X) (by simp) hb1 (by simp [Value.cells,qe,z]) (by simp [Value.cells,qe,z,hko]) (by simpa [Value.cells,qe,z] using qyB) fun w2 hO2 hb2=>?_;simp -implicitDefEqProofs [Value.cells,qe,z] at hb2;have k:qc w' w2:=hO2.ext hE1 hX;have c5:w2.cell? ⟨X,5,none⟩=some x.kv:=by rw [hb2.cell];rfl
  have hw:IntKind.i64.wrap ((os.length:Int) - (x.nd.kids.length:Int))=(os.length:Int) - (x.nd.kids.length:Int):=q7 (by omega);simp -implicitDefEqProofs [-jj,xr,xu,xq,H,E,o,c5,hk.is,hkL,hw];by_cases t:x.nd.kids.length<=os.length
  ·have hn:¬((os.length:Int) - (x.nd.kids.length:Int)<0):=by omega
   have hn0:(0:Int)<=(os.length:Int) - (x.nd.kids.length:Int):=by omega
   have hn1:(os.length:Int) - (x.nd.kids.length:Int)<=(os.length:Int):=by omega
   have hnn:((os.length:Int) - (x.nd.kids.length:Int)).toNat=os.length - x.nd.kids.length:=by omega
   simp -implicitDefEqProofs [-jj,xr,xu,xq,t,hn,H,E,o,hn0,hn1,hnn,c5];refine qb5 (.bool (decide (os.drop (os.length - x.nd.kids.length)=x.nd.kids))) qIS (fun w3 Y=>?_) ?_
   ·simp;have hd:=qkU (hoc.ext (k.trans' Y)) (os.length - x.nd.kids.length) (by simp);rw [o,<-List.map_drop] at hd;refine (qBE hd (hk.ext (k.trans' Y)) (by simp;omega)).mono ?_;rintro _ w4 ⟨rfl,J⟩;exact ⟨rfl,Y.trans' J⟩
   by_cases he:os.drop (os.length - x.nd.kids.length)=x.nd.kids
   ·rw [j0 ⟨t,he⟩] at a;simp -implicitDefEqProofs [-jj,xr,xu,xq,he];intro w3 c;have hE03:=(hE.trans' k).trans' c;have ho3:=qCf ((S.ext k).ext c) (os.length - x.nd.kids.length) (by simp);have hcap:=qiD E;rw [o] at hcap;have hn2:(os.length:Int) - (x.nd.kids.length:Int)<=(qI v3:Int):=by omega
    simp -implicitDefEqProofs [qfs,qpL,H,E,t,hn0,hnn,hn2];refine jC qbb (by decide) (by decide) (by simp [Value.cells]) fun Z w4 hZ J hb4 _=>?_;simp -implicitDefEqProofs [Value.cells] at hb4⊢;refine qkp qeK (W0:=w) (hE03.trans' J) (sv:=q8 v3 1 0 (os.length - x.nd.kids.length) (os.length - x.nd.kids.length)) (xv:=.slice (some ⟨Z,0,none⟩) 1 1) (by simp) (by simp) (ho3.ext J) (Blk.cells (cs:=[encI (j:Int)]) (by simpa [encI] using hb4) rfl) (by simp [encI,Value.oneCell']) (by simp;omega) (by simp;omega) fun v' w5 hE5 ho5 _ _=>?_;simp -implicitDefEqProofs [qpK,rj,hwj,q];exact (hI _ _ _).2 ⟨by simp [r7],by simp [r8],os.take (os.length - x.nd.kids.length)++[(j:Int)],by simpa [List.map_take] using ho5,by simp;omega,hE5,a⟩
   ·rw [q3 (fun h=>he h.2)] at a;subst a;simp -implicitDefEqProofs [-jj,xr,xu,xq,he];intro w3 c;simp -implicitDefEqProofs [qfs];rw [<-V];exact ⟨rfl,(hE.trans' k).trans' c⟩
  ·rw [q3 (fun h=>t h.1)] at a;subst a;have hn:((os.length:Int) - (x.nd.kids.length:Int)<0):=by omega
   simp -implicitDefEqProofs [-jj,xr,xu,xq,hn,t];intro w3 c;simp -implicitDefEqProofs [qfs];rw [<-V];exact ⟨rfl,(hE.trans' k).trans' c⟩
 ·have hd0:xs.drop j=[]:=Jk.2 (by omega);rw [hd0] at O;have a:some os=b:=O;subst a;have y:¬(j:Int)<(xs.length:Int):=by omega
  simp -implicitDefEqProofs [qiF,rj,r8,y,q,qpI,H,E,o];rw [<-V];refine ⟨?_,hE⟩;simp only [y9];congr 2;rw [uR];simp;omega
def qBz {w:AA} {lv:AB} {xs:List NV} (O:Rd w lv xs) (Z:xs.length<=1000000) {F:FuncId} {caps:Array AB} (J:qk Tryz.prog F=true) {p:NV->Bool} (hc:∀W,qc w W->∀x∈xs,Calls Tryz.prog F (#[xE x]++caps) W fun e w'=>e=.returned (.bool (p x))/\qc W w'):
  Calls Tryz.prog 224 #[lv,qS F caps] w fun e w'=>∃n:Int,e=.returned (.int .i64 n)/\decide (0<=n)=xs.any p/\qc w w':=by
 have V:=O.len;refine qFF fun ρ r0 r1=>?_;simp -implicitDefEqProofs [qsK,r0,O.cells.is,V];generalize k:(fun (e:Ending) (w':AA)=>∃n:Int,e=.returned (.int .i64 n)/\decide (0<=n)=xs.any p/\qc w w')=R;obtain ⟨I,H⟩:∃I:Nat->qa->AA->Prop,∀j g w',I j g w'↔(g 0=lv/\g 1=qS F caps/\g 7=.int .i64 (xs.length:Int)/\qc w w'/\(xs.take j).any p=false):=⟨_,fun _ _ _=>Iff.rfl⟩;refine zH 8 xs.length I (by simp) ((H _ _ _).2 ⟨by simp [r0],by simp [r1],by simp,jd _,by simp⟩) ?_;clear r0 r1;rintro j g w' hj S U;obtain ⟨r0,r1,r7,q,c⟩:=(H _ _ _).1 U;have E:IntKind.i64.wrap ((j:Int)+1)=(j:Int)+1:=q7 (by omega);have z:=O.ext q;by_cases a:j<xs.length
 ·have h:(j:Int)<(xs.length:Int):=by omega
  have y:=z.row a;simp -implicitDefEqProofs [qjx,S,r7,h,a,qsI,r0,r1,z.cells.is,V,y];refine xh J (t:=11) (fs:=#[]) (caps:=caps) (by simp [qS]) ?_;simp -implicitDefEqProofs;refine (hc w' q xs[j] (uo _)).mono ?_;rintro _ w2 ⟨rfl,o⟩;cases Y:p xs[j] with
  |true=>
   simp -implicitDefEqProofs;rw [<-k];refine ⟨j,rfl, ?_,q.trans' o⟩;rw [List.any_eq_true.2 ⟨xs[j],uo _,Y⟩];simp
  |false=>
   simp -implicitDefEqProofs [qsJ,S,E,a];refine (H _ _ _).2 ⟨by simp [r0],by simp [r1],by simp [r7],q.trans' o, ?_⟩;rw [uO a,List.any_append,c];simp [Y]
 ·have h:¬(j:Int)<(xs.length:Int):=by omega
  rw [uz (by omega)] at c;simp -implicitDefEqProofs [qjx,S,r7,h,a,qsH];rw [<-k];exact ⟨-1,rfl,by rw [c];rfl,q⟩
def qBG {w:AA} {lv:AB} {xs:List NV} (j:Rd w lv xs) (a:xs.length<=1000000) {F:FuncId} {caps:Array AB} (c:qk Tryz.prog F=true) {p:NV->Bool} (g:∀W,qc w W->∀x∈xs,Calls Tryz.prog F (#[xE x]++caps) W fun e w'=>e=.returned (.bool (p x))/\qc W w'):
  Calls Tryz.prog 145 #[lv,qS F caps] w fun e w'=>e=.returned (.bool (xs.any p))/\qc w w':=by
 refine qGT fun ρ r0 r1=>?_;simp -implicitDefEqProofs [qt5,r0,r1];refine (qBz j a c g).mono ?_;rintro _ w2 ⟨n,rfl,hn,h⟩;simp -implicitDefEqProofs;exact ⟨hn,h⟩
def qod:∀(l:List Nd) (i:Nat) (o:List Int),(∀k∈o,0<=k/\k<i)->QL l i o≠none->∀x∈l,∀k∈x.kids,0<=k/\k<i+l.length
 |[],_,_,_,_,x,c,_,_=>by cases c
 |y::l,i,o,g,h,x,c,k,a=>by
  rw [qyV] at h;split at h
  ·rename_i j;rcases ug.1 c with rfl|c
   ·rw [<-j.2] at a;have:=g k (Va a);simp;omega
   ·have:=qod l (i+1) _ (fun k a=>by
     rcases uv.1 a with a|a
     ·have:=g k (Jy a);omega
     ·rw [uu.1 a];omega) h x c k a
    simp;omega
  ·exact absurd rfl h
def qAX {l:List Nd} (h:qaE l=true):∀x∈l,∀k∈x.kids,0<=k/\k<(l.length:Int):=by
 intro x c k g;have a:QL l 0 []≠none:=fun e=>by unfold qaE at h;rw [e] at h;cases h
 have:=qod l 0 [] (by simp) a x c k g;omega
def qBg {w:AA} {lv:AB} {xs:List NV} {x:NV} {A Lb:Nat} {cs:List AB} (S:L01.G w) (J:xI w) (E:Rd w lv xs) (q:Blk w Lb #[lv] 29) (t:x∈xs) (o:∀y∈xs,DOk y.nd.d) (c:xs.length<=400) (I:qaE (xs.map (·.nd))=true) (O:Blk w A cs.toArray 175) (U:Qy w cs):
  Calls Tryz.prog 146 #[xE x,.pointer (some ⟨Lb,0,none⟩),.pointer (some ⟨A,0,none⟩)] w fun e w'=>e=.returned (.bool (!yy (xs.map (·.nd)) x.nd))/\qc w w':=by
 have j:=E.kids x t;refine qGR fun ρ r0 r1 r2=>?_;simp -implicitDefEqProofs [qt4];refine vC fun X w1 Y a h _=>?_;rw [show qd ρ (.tmp 0)=xE x by simp [r0],qbp j.is] at h;have H:w1.cell? ⟨Lb,0,none⟩=some lv:=by rw [(q.ext a).cell];rfl
 have g:Eng.q4 w1 ⟨X,0,none⟩ 0 6=some (qe x):=by
  have:=xc h;simpa [qe] using this
 simp -implicitDefEqProofs [r1,r2,H,g];refine (qBh (S.ext a) (J.ext a) (E.ext a) (j.ext a) (o x t) o c (fun k V=>?_) (O.ext a) (U.at' (qj.ext a))).mono ?_
 ·have:=qAX I x.nd (uw.2 ⟨x,t,rfl⟩) k V;simpa using this
 rintro _ w2 ⟨rfl,z⟩;simp -implicitDefEqProofs;exact a.trans' z
def Qy.cells {w:AA} {cs:List AB} (g:Qy w cs):∀c∈cs,c.cells=#[c]/\c.oneCell=true:=fun c o=>by
 obtain ⟨k,j,rfl⟩:=List.mem_iff_getElem.1 o;have a:=g.2 k (by rw [<-g.1];exact j);rw [uH,uj j] at a;simp only [Option.getD_some] at a;generalize cs[k]=c at a;cases h:kN k with
 |none=>rw [h] at a;cases a;exact ⟨rfl,rfl⟩
 |some r=>
  rw [h] at a;obtain ⟨X,_,_,_,_,_,_,rfl,_⟩:=a;exact ⟨rfl,rfl⟩
def qok {w:AA} {lv rv:AB} {xs:List NV} {root:Nat->Bool} (hG:L01.G w) (hM:xI w) (V:Rd w lv xs) (hds:∀y∈xs,DOk y.nd.d) (hkl:∀x∈xs,x.nd.kids.length<=1000000) (hr:zF w rv root):
  Calls Tryz.prog 64 #[lv,rv] w fun e w'=>e=.returned (.bool (whole (xs.map (·.nd)) root))/\qc w w':=by
 have hl:=V.len;have ab:=V.cells.is;obtain ⟨F,caps,hrv,hcb,hc⟩:=hr.fn;refine qDG fun ρ r0 r1=>?_;simp -implicitDefEqProofs [qp9];refine vC fun B w1 hB S hb1 _=>?_;have O:Blk w1 B #[lv] 29:=by simpa [r0,qn ab] using hb1
 have cB:∀W,qc w1 W->W.cell? ⟨B,0,none⟩=some lv:=fun W hE=>by rw [(O.ext hE).cell];rfl
 simp -implicitDefEqProofs [cB w1 (jd _),ab,hl];refine (qbl w1 _ 1 400).mono ?_;rintro _ w1' ⟨rfl,hw1⟩;obtain rfl:=hw1.symm;generalize o:whole (xs.map (·.nd)) root=b;unfold whole at o;rw [uq] at o;have hin:((decide (1<=(xs.length:Int))&&decide ((xs.length:Int)<=400)):Bool)=(decide (1<=xs.length)&&decide (xs.length<=400)):=by
  congr 1<;>exact Jh.2 (by omega)
 cases aa:(decide (1<=xs.length)&&decide (xs.length<=400)) with
 |false=>
  rw [aa] at o hin;subst o;simp -implicitDefEqProofs [hin];exact S
 |true=>
 rw [aa] at hin;have h:=aa;simp only [km,ue] at h;rw [h.1|>decide_eq_true,h.2|>decide_eq_true] at o;simp -implicitDefEqProofs [hin,cB w1 (jd _)];refine (qBj (V.ext S) (by omega) hkl).mono ?_;rintro _ w2 ⟨rfl,E⟩;have j:=S.trans' E;cases hp:qaE (xs.map (·.nd)) with
 |false=>
  rw [hp] at o;have U:b=false:=by rw [<-o];rfl
  subst U;simp -implicitDefEqProofs;exact j
 |true=>
 rw [hp] at o;have hrow:=(V.ext j).row (k:=xs.length - 1) (by omega);have hwl:IntKind.i64.wrap ((xs.length:Int) - 1)=((xs.length - 1:Nat):Int):=by rw [q7 (by omega)];omega
 have hltl:((xs.length - 1:Nat):Int)<(xs.length:Int):=by omega
 have a:xs.length - 1<xs.length:=by omega
 simp -implicitDefEqProofs [r1,hrv,cB w2 E,ab,hl,hwl,hltl,a,hrow];refine xh hcb (t:=16) (fs:=#[]) (caps:=caps) (by simp [qS]) ?_;simp -implicitDefEqProofs;have J:=uo a;refine (hc w2 j xs[xs.length - 1] (V.kids _ J).is (hds _ J).kind).mono ?_;rintro _ w3 ⟨rfl,Y⟩;have I:=j.trans' Y;have hrk:qhT (xs.map (·.nd))=(xs[xs.length - 1]'a).nd.d.kind:=by
  unfold qhT;rw [List.getLast?_eq_getElem?,uq,J4,uj a];rfl
 cases hro:root (xs[xs.length - 1]'a).nd.d.kind with
 |false=>
  rw [hrk,hro] at o;have U:b=false:=by rw [<-o];rfl
  subst U;simp -implicitDefEqProofs;exact I
 |true=>
 rw [hrk,hro] at o;simp -implicitDefEqProofs [qp8];refine qBf.mono ?_;rintro _ w4 ⟨cs,rfl,hT,Z⟩;simp -implicitDefEqProofs;refine qQ qlo fun A w5 hA hE5 hbA _=>?_;simp -implicitDefEqProofs;have H:=hT.cells;have q:=qab fun c hc=>(H c hc).1;refine jg (B:=A) (by simp) hbA (by simp [q,hT.1]) ?_ (by simp [q,hT.1];kernel_rfl) fun w6 hO6 hb6=>?_
 ·simp only [qd,qp,qx];simpa [q] using fun c hc=>(H c hc).2
 have hb6':Blk w6 A cs.toArray 175:=by simpa [q] using hb6
 have z:qc w4 w6:=hO6.ext hE5 hA;have g:=(I.trans' Z).trans' z;have cB6:=cB w6 (((E.trans' Y).trans' Z).trans' z);have hB6:=O.ext (((E.trans' Y).trans' Z).trans' z);simp -implicitDefEqProofs [cB6];refine (qBG (p:=fun y=> !yy (xs.map (·.nd)) y.nd) (F:=146) (caps:=#[.pointer (some ⟨B,0,none⟩),.pointer (some ⟨A,0,none⟩)]) (V.ext g) (by omega) (by kernel_rfl) fun W hW y hy=>?_).mono ?_
 ·simpa using qBg (hG.ext (g.trans' hW)) (hM.ext (g.trans' hW)) (V.ext (g.trans' hW)) (hB6.ext hW) hy hds h.2 hp (hb6'.ext hW) (hT.at' (qj.ext (z.trans' hW)))
 rintro _ w7 ⟨rfl,hE7⟩;simp -implicitDefEqProofs;refine ⟨?_,g.trans' hE7⟩;rw [<-o];simp [List.all_map,Function.comp_def];rw [List.any_eq_not_all_not];simp
def qBX {w:AA} {lv:AB} {xs:List NV} (k:L01.G w) (h:xI w) (j:Rd w lv xs) (a:∀y∈xs,DOk y.nd.d) (c:∀x∈xs,x.nd.kids.length<=1000000):
  Calls Tryz.prog 26 #[lv] w fun e w'=>e=.returned (.int .i64 (if qgk (xs.map (·.nd)) then 0 else 21))/\qc w w':=by
 refine qE2 fun ρ r0=>?_;simp -implicitDefEqProofs [qsf,r0];refine (qok k h j a c (qiy (w:=w))).mono ?_;rintro _ w2 ⟨rfl,g⟩;unfold qgk;cases whole (xs.map (·.nd)) (vQ 20) with
 |false=>
  simp -implicitDefEqProofs;exact g
 |true=>
  simp -implicitDefEqProofs [qrX];exact g
end Go.L02
namespace Go.L02
open Go.Eng
open Go.L01 (Bs Tok)
def Sh (s:Bs):Prop:=s.length<=1000000
structure DS (d:D):Prop where
 kind:d.kind<=37
 name:Sh d.name
 vr:Sh d.vr
 typ:Sh d.typ
inductive TOk:T->Prop
 |mk {d:D} {ks:List T}:DS d->(∀t∈ks,TOk t)->TOk (T.mk d ks)
def wm:Sh []:=by simp [Sh]
def Al {α:Type} (P:α->Prop) (m:M α):Prop:=∀i f a j f',m i f=.ok a j f'->P a
section
variable {L:List Tok} {α β:Type} {P:α->Prop} {Q:β->Prop}
theorem qwT {m:M α}:Al (fun _=>True) m:=fun _ _ _ _ _ _=>trivial
theorem jt {a:α} (h:P a):Al P (ret a):=fun i f b j c e=>by
 simp only [ret,Rs.ok.injEq] at e;obtain ⟨rfl,_,_⟩:=e;exact h
theorem qaa:Al P (oof:M α):=fun i f b j a e=>by cases e
theorem qU {m:M α} {k:α->M β} (o:Al P m) (q:∀a,P a->Al Q (k a)):Al Q (bnd m k):=by
 intro i f b j t h;cases c:m i f with
 |oof=>rw [vc c] at h;cases h
 |no g=>rw [jT c] at h;cases h
 |ok a l g=>
  rw [jS c] at h;exact q a (o _ _ _ _ _ c) _ _ _ _ _ h
theorem vE {m:M α} {k:α->M β} (c:∀a,Al Q (k a)):Al Q (bnd m k):=qU qwT fun a _=>c a
theorem vS {s:Bs} {x y:M β} (c:Al Q x) (a:Al Q y):Al Q (qt L s x y):=by
 intro i f b j g h;unfold qt at h;split at h
 ·exact c _ _ _ _ _ h
 ·exact a _ _ _ _ _ h
theorem qea {p:Nat->Prop} [DecidablePred p] {x y:M α} (k:Al P x) (g:Al P y):Al P (fun i f=>if p i then x i f else y i f):=by
 intro i f a j o h;by_cases c:p i
 ·simp only [c,wh] at h;exact k _ _ _ _ _ h
 ·simp only [c,ud] at h;exact g _ _ _ _ _ h
end
section
variable {L:List Tok} (hL:jJ L) (hn:L.length<=20000)
include hL in
theorem ql9 (i:Nat):(tk L i).text.length<=20:=by
 unfold tk;rw [uH];by_cases h:i<L.length
 ·rw [uj h];exact hL _ (uo h)
 ·rw [yt (by omega)];simp
include hL in
theorem qet (i:Nat):Sh (tk L i).text:=Nat.le_trans (ql9 hL i) (by omega)
include hL in
theorem qk8:Al (fun s:Bs=>s.length<=20) (name L):=by
 intro i f a j c h;unfold name at h;split at h
 ·simp only [Rs.ok.injEq] at h;obtain ⟨rfl,_,_⟩:=h;exact ql9 hL i
 ·cases h
include hL in
theorem qbF:Al Sh (name L):=fun i f a j c h=>Nat.le_trans (qk8 hL i f a j c h) (by omega)
theorem qpF:∀(l:List Tok),(∀t∈l,t.text.length<=20)->(z6 l).length<=20*l.length
 |[],_=>by simp [z6]
 |t::l,h=>by
  have g:=qpF l fun t a=>h t (by simp [a]);have c:=h t (by simp);have e:z6 (t::l)=t.text++z6 l:=by simp [z6]
  rw [e,ky,List.length_cons];omega
include hL hn in
theorem qaZ (n:Nat):Al Sh (vN L n):=by
 intro i f a j o h;unfold vN at h;cases c:kind L n i f with
 |oof=>rw [c] at h;cases h
 |no g=>rw [c] at h;cases h
 |ok u l g=>
  rw [c] at h;simp only [Rs.andThen,Rs.ok.injEq] at h;obtain ⟨rfl,_,_⟩:=h;have y:(wt L i l).length<=20000:=by simp [wt];omega
  have q:=qpF (wt L i l) fun t k=>hL t (Jy (Va k));unfold Sh;omega
include hL hn in
theorem qwL (n:Nat):Al Sh (ve L n):=qU (qaZ hL hn n) fun _ h=>vE fun _=>jt h
include hL in
theorem qKb:Al Sh (op L):=by
 intro i f a j g h;unfold op at h;split at h
 ·simp only [Rs.ok.injEq] at h;obtain ⟨rfl,_,_⟩:=h;exact qet hL i
 ·refine qU (Q:=Sh) (qk8 hL) (fun s k=>vS (qU (qk8 hL) fun u c=>jt ?_) (jt ?_)) _ _ _ _ _ h
  ·unfold Sh;simp;omega
  ·unfold Sh;omega
def xT (l:List T):Prop:=∀t∈l,TOk t
theorem kZ:xT []:=by simp [xT]
theorem wR {t:T} (h:TOk t):xT [t]:=by simpa [xT] using h
theorem yV {t:T} {l:List T} (h:TOk t) (c:xT l):xT (t::l):=by
 intro u a;rcases ug.1 a with rfl|a
 ·exact h
 ·exact c u a
theorem xK {t u:T} (h:TOk t) (a:TOk u):xT [t,u]:=yV h (wR a)
theorem ts3 {t u v:T} (h:TOk t) (c:TOk u) (a:TOk v):xT [t,u,v]:=yV h (xK c a)
theorem tok {d:D} {ks:List T} (h:DS d) (a:xT ks):TOk (T.mk d ks):=.mk h a
theorem TOk.ks {t:T} (h:TOk t):xT t.kids:=by cases h with|mk c a=>exact a
theorem TOk.ds {t:T} (h:TOk t):DS t.d:=by cases h with|mk a c=>exact a
theorem zR {k:Nat} (h:k<=37:=by decide) {n:Int}:DS {kind:=k,n:=n}:=⟨h,wm,wm,wm⟩
theorem dsN {k:Nat} {s:Bs} (a:Sh s) (h:k<=37:=by decide):DS {kind:=k,name:=s}:=⟨h,a,wm,wm⟩
theorem qvQ {k:Nat} {s t:Bs} (c:Sh s) (a:Sh t) (h:k<=37:=by decide):DS {kind:=k,name:=s,typ:=t}:=⟨h,c,wm,a⟩
section
variable {e b s:M T} {p:M (T×Nat)}
theorem qwN (c:Al TOk e):∀n,Al xT (more L e n)
 |0=>qaa
 |n+1=>vS (qU c fun a h=>qU (qwN c n) fun _ g=>jt (yV h g)) (jt kZ)
theorem qlb (c:Al TOk e) (n:Nat):Al xT (vh L n e):=vE fun _=>vS (jt kZ) (qU (qU c fun a j=>qU (qwN c n) fun _ g=>jt (yV j g)) fun _ h=>vE fun _=>jt h)
include hL hn in
theorem qwO (c:Al TOk e) (n:Nat):Al TOk (Qb L n e):=qU (qbF hL) fun _ g=>vS (qU (qaZ hL hn n) fun _ h=>vE fun _=>qU (qlb c n) fun _ a=>jt (tok ⟨by simp,g,wm,h⟩ a))
 (qU (qlb c n) fun _ a=>jt (tok ⟨by simp,g,wm,wm⟩ a))
include hL in
theorem qwM (a:Al TOk e) (n:Nat) {o:Bs} (c:Sh o):Al TOk (zX L n e o):=qU (qKb hL) fun _ h=>qU (qlb a n) fun _ g=>jt (tok ⟨by simp,h,c,wm⟩ g)
include hL hn in
theorem qwK (a:Al TOk e) (n:Nat):Al TOk (bnd (ve L n) (zX L n e)):=qU (qwL hL hn n) fun _ h=>qwM hL a n h
include hL hn in
theorem qKf (a:Al TOk e) (n:Nat):Al TOk (yg L n e):=qea (p:=fun i=>(tk L i).kind=1/\((tk L (i+1)).text=[40]\/(tk L (i+1)).text=[123])) (qwO hL hn a n) (qwK hL hn a n)
theorem qgB {b:Bool} {m:M T} (h:Al TOk m):Al (fun x:T×Bool=>TOk x.1) (xJ b m):=qU h fun _ h=>jt h
include hL hn in
theorem qKc (o:Al TOk e) (n:Nat):Al (fun x:T×Bool=>TOk x.1) (yb L n e):=by
 have vr:∀i,TOk (T.mk {kind:=4,name:=(tk L i).text} []):=fun i=>tok (dsN (qet hL i)) kZ;intro i f a j q h;unfold yb at h;split at h
 ·exact qgB (qwO hL hn o n) _ _ _ _ _ h
 ·split at h
  ·cases c:ve L n i f with
   |oof=>rw [c] at h;cases h
   |no g=>rw [c] at h;simp only [Rs.ok.injEq] at h;obtain ⟨rfl,_,_⟩:=h;exact vr i
   |ok s k g=>
    rw [c] at h;exact qgB (b:=true) (qwM hL o n (qwL hL hn n _ _ _ _ _ c)) _ _ _ _ _ h
  ·split at h
   ·simp only [Rs.ok.injEq] at h;obtain ⟨rfl,_,_⟩:=h;exact vr i
   ·exact qgB (qwK hL hn o n) _ _ _ _ _ h
include hL hn in
theorem qKa (c:Al TOk e) (n:Nat):Al (fun x:T×Bool=>TOk x.1) (ki L n e):=by
 intro i f a j q h;unfold ki at h;split at h
 ·simp only [Rs.ok.injEq] at h;obtain ⟨rfl,_,_⟩:=h;exact tok zR kZ
 ·refine vS (Q:=fun x:T×Bool=>TOk x.1) (jt (tok zR kZ)) (vS (jt (tok zR kZ)) (vS (jt (tok zR kZ)) ?_)) _ _ _ _ _ h;intro i f a j q h;by_cases k:qo L i [[117,112],[100,111,119,110]]=true
  ·simp only [k,wh] at h;have o:xJ false (qa4 L e) i f=bnd (needs L [[40]]) (fun _=>bnd e fun t=>bnd (needs L [[41]]) fun _=>ret (T.mk {kind:=if qo L i [[100,111,119,110]] then 10 else 9} [t],false)) (i+1) f:=by
    show bnd (bnd _ _) _ (i+1) f=_;simp only [sq,kU,yh]
   rw [o] at h;refine vE (Q:=fun x:T×Bool=>TOk x.1) (fun _=>qU c fun t g=>vE fun _=>jt (tok ⟨?_,wm,wm,wm⟩ (wR g))) _ _ _ _ _ h;show (if _ then 10 else 9)<=37;split<;>decide
  ·simp only [k,uk,ud] at h;exact vS (Q:=fun x:T×Bool=>TOk x.1) (qgB (qU c fun _ g=>vE fun _=>jt g)) (qKc hL hn c n) _ _ _ _ _ h
include hL in
theorem qk7 (a:Al TOk e):∀n t g,TOk t->Al (fun x:T×Nat=>TOk x.1) (wf L e n t g)
 |0,_,_,_=>qaa
 |n+1,t,g,c=>vS (qU a fun k j=>vE fun _=>qk7 a n _ _ (tok zR (xK c j))) (vS (qU (qbF hL) fun s h=>qk7 a n _ _ (tok (dsN h) (wR c))) (jt c))
include hL hn in
theorem qwJ (a:Al TOk e) (n:Nat):Al (fun x:T×Nat=>TOk x.1) (yC L n e):=qU (qKa hL hn a n) fun p c=>qk7 hL a n _ _ c
include hL in
theorem qKe (g:Al (fun x:T×Nat=>TOk x.1) p):Al TOk (Jc L p):=vS (qU g fun x c=>jt (tok (dsN (by simp [Sh])) (wR c))) (qU g fun x c=>by
 intro i f a j q h;by_cases k:qo L i QT=true
 ·simp only [k,wh] at h;exact qU (Q:=TOk) g (fun y o=>jt (tok (dsN (qet hL i)) (xK c o))) _ _ _ _ _ h
 ·simp only [k,uk,ud,Rs.ok.injEq] at h;obtain ⟨rfl,_,_⟩:=h;exact c)
include hL hn in
theorem qk9:∀n,Al TOk (Qm L n)
 |0=>qaa
 |n+1=>qKe hL (qwJ hL hn (qk9 n) n)
theorem qwH (c:Al TOk s):∀n,Al xT (xL L s n)
 |0=>qaa
 |n+1=>vS (qU c fun a h=>qU (qwH c n) fun _ g=>jt (yV h g)) (jt kZ)
theorem qwR (c:Al TOk s) (n:Nat):Al TOk (wv L n s):=qea (p:=fun i=>yu L i=true) (x:=bnd s fun x=>bnd (xL L s n) fun xs=>ret (T.mk {kind:=20} (x::xs))) (y:=ret (T.mk {kind:=20} []))
 (qU c fun a h=>qU (qwH c n) fun _ g=>jt (tok zR (yV h g))) (jt (tok zR kZ))
theorem qwQ (j:Al TOk e) (a:Al TOk b):∀n,Al TOk (Qp L e b n)
 |0=>qaa
 |n+1=>qU j fun x h=>vE fun _=>qU a fun q g=>vS (qU (qwQ j a n) fun c o=>jt (tok zR (ts3 h g (tok zR (wR o)))))
   (vS (qU a fun r k=>vE fun _=>jt (tok zR (ts3 h g k))) (vE fun _=>jt (tok zR (xK h g))))
include hL in
theorem qwP (a:Al TOk b):∀n first,Al xT (yd L b n first)
 |0,_=>qaa
 |n+1,first=>qea (p:=fun i=>(qo L i [[119,104,101,110]] ||first)=true) (vE fun _=>vS (vE fun _=>qU a fun q c=>jt (wR (tok zR (wR c))))
   (qU (qbF hL) fun s h=>vE fun _=>qU a fun q c=>qU (qwP a n false) fun j g=>jt (yV (tok (dsN h) (wR c)) g))) (jt kZ)
include hL in
theorem qKd (a:Al TOk b) (n:Nat):Al TOk (Q5 L n b):=qU a fun q c=>vE fun _=>qU (qwP hL a n true) fun h g=>vE fun _=>jt (tok zR (yV c g))
include hL hn in
theorem qwS (a:Al TOk b) (k:Nat):∀n first,Al xT (yP L k b n first)
 |0,_=>qaa
 |n+1,first=>qea (p:=fun i=>(qo L i [[116,97,103]] ||first)=true) (vE fun _=>qU (qbF hL) fun s o=>vE fun _=>qU (qbF hL) fun v g=>vE fun _=>qU (qaZ hL hn k) fun t h=>vE fun _=>
   qU a fun q c=>qU (qwS a k n false) fun y j=>jt (yV (tok ⟨by simp,o,g,h⟩ (wR c)) j)) (jt kZ)
include hL hn in
theorem qKh (a:Al TOk e) (c:Al TOk b) (n:Nat):Al TOk (Je L n e b):=qU a fun x h=>qU (qwS hL hn c n n true) fun j g=>vE fun _=>jt (tok zR (yV h g))
theorem qlJ {l:List T} {t:T} (c:xT l) (h:TOk t):xT (l++[t]):=by
 intro u a;rcases uv.1 a with a|a
 ·exact c u a
 ·rw [uu.1 a];exact h
include hL in
theorem qJ8 (k:Al TOk e) (z:Al (fun x:T×Nat=>TOk x.1) p) (n:Nat):Al TOk (kX L n e p):=by
 intro i f a j E h;unfold kX at h;split at h
 ·exact qU (Q:=TOk) k (fun x c=>jt (tok (dsN (qet hL i)) (wR c))) _ _ _ _ _ h
 ·refine qU (Q:=TOk) z (fun x c=>?_) _ _ _ _ _ h;intro i f a j E h;by_cases t:x.2=1/\qo L i [[58,61]]=false
  ·simp only [j0 t,Rs.ok.injEq] at h;obtain ⟨rfl,_,_⟩:=h;exact tok zR (wR c)
  ·simp only [q3 t] at h;by_cases q:x.2=2/\qo L i [[58,61]]=true
   ·simp only [j0 q] at h;exact qU (Q:=TOk) k (fun y g=>jt (tok zR (qlJ c.ks g))) _ _ _ _ _ h
   ·simp only [q3 q] at h;by_cases o:x.2=3/\qo L i [[58,61]]=true
    ·simp only [j0 o] at h;exact qU (Q:=TOk) k (fun y g=>jt (tok (dsN c.ds.name) (qlJ c.ks g))) _ _ _ _ _ h
    ·simp only [q3 o] at h;cases h
include hL hn in
theorem qla (n:Nat):Al (fun x:Bs×Bs=>Sh x.1/\Sh x.2) (x7 L n):=qU (qbF hL) fun _ c=>vE fun _=>qU (qaZ hL hn n) fun _ a=>jt ⟨c,a⟩
include hL hn in
theorem qJ9 (g:Al TOk e) (t:Al (fun x:T×Nat=>TOk x.1) p) (h:Al TOk b) (n:Nat):Al TOk (QJ L n e p b):=by
 have j:∀(d:D),DS d->Al TOk (bnd e fun y=>ret (T.mk d [y])):=fun d o=>qU g fun y z=>jt (tok o (wR z));refine vS ?_ (vS (j _ zR) (vS (qwQ g h n) (vS ?_ (vS ?_ (vS ?_ (vS (j _ zR) (vS ?_ (vS (jt (tok zR kZ)) (vS (qKd hL h n) (vS (qKh hL hn g h n) (qJ8 hL g t n)))))))))))
 ·exact qU (qla hL hn n) fun x a=>vE fun _=>j _ (qvQ a.1 a.2)
 ·exact qU g fun x a=>vE fun _=>qU h fun q k=>vE fun _=>jt (tok zR (xK a k))
 ·exact qU (qla hL hn n) fun x a=>vE fun _=>qU (qKf hL hn g n) fun c E=>vE fun _=>qU h fun q k=>vE fun _=>jt (tok (qvQ a.1 a.2) (xK E k))
 ·exact qea (p:=fun i=>kV L i=true) (x:=bnd e fun x=>ret (T.mk {kind:=29} [x])) (y:=ret (T.mk {kind:=29} [])) (j _ zR) (jt (tok zR kZ))
 ·exact qU (qbF hL) fun s H=>jt (tok (dsN H) kZ)
include hL hn in
theorem qwI:∀n,Al TOk (QK L n)
 |0=>qaa
 |n+1=>qJ9 hL hn (qk9 hL hn n) (qwJ hL hn (qk9 hL hn n) n) (qwR (qwI n) n) n
include hL hn in
theorem qKg (n:Nat):Al TOk (block L n):=qwR (qwI hL hn n) n
end
mutual
theorem ql7:∀(t:T) (b:Nat),TOk t->∀x∈t.flat b,DS x.d
 | .mk d ks,b,h,x,a=>by
  simp only [T.flat,uv,uu] at a;rcases a with a|rfl
  ·exact tok_flats ks b h.ks x a
  ·exact h.ds
theorem tok_flats:∀(c:List T) (b:Nat),xT c->∀x∈flats b c,DS x.d
 |[],_,_,x,a=>by simp [flats] at a
 |t::c,b,h,x,a=>by
  simp only [flats,uv] at a;rcases a with a|a
  ·exact ql7 t b (h t (by simp)) x a
  ·exact tok_flats c _ (fun u g=>h u (by simp [g])) x a
end
mutual
theorem qpl:∀(t:T) (b:Nat),∀x∈t.flat b,x.kids.length<t.size
 | .mk d ks,b,x,a=>by
  simp only [T.flat,uv,uu] at a;rcases a with a|rfl
  ·have:=kids_flats ks b x a;simp only [T.size];omega
  ·have:(qg b ks).length<=sizes ks:=roots_sizes ks b;simp only [T.size];omega
theorem kids_flats:∀(c:List T) (b:Nat),∀x∈flats b c,x.kids.length<sizes c
 |[],_,x,a=>by simp [flats] at a
 |t::c,b,x,a=>by
  simp only [flats,uv] at a;simp only [sizes];rcases a with a|a
  ·have:=qpl t b x a;omega
  ·have:=kids_flats c _ x a;omega
theorem roots_sizes:∀(a:List T) (b:Nat),(qg b a).length<=sizes a
 |[],_=>by simp [qg]
 |t::a,b=>by
  have:=roots_sizes a (b+t.size);have:=t.size_pos;simp only [qg,sizes,List.length_cons];omega
end
end
end Go.L02
namespace Go.L02
open Go Go.Eng Go.RowKit
open Go.Proofs hiding encI
open Go.L01 (Bd Bs Own.same SlK Tok fV jM jQ jR jW jZ jp qC qH qW qY qcH qi vA vw)
set_option maxRecDepth 100000
set_option maxHeartbeats 2000000
theorem qyE:jh Tryz.prog 23 1=true:=by kernel_rfl
theorem qy2:xB Tryz.prog 23=some (66,7):=by kernel_rfl
theorem qAe:xM Tryz.prog 23=some (66,7,112):=by kernel_rfl
def Qa (L:List Tok) (n:Nat):Bool:=match jL L n n 0 0 with| .ok _ _ _=>true|_=>false
def yI (L:List Tok) (n:Nat):Nat:=match jL L n n 0 0 with| .no g=>g| .ok _ _ g=>g| .oof=>0
def Src (L:List Tok) (n:Nat) (m:Mod):Prop:=∃i f j g,xC L n i f=.ok m j g/\j<=L.length
def qli (L:List Tok) (n B:Nat) (tv:AB) (Ln Ou:Nat) (w2:AA):Prop:=(∃(i f:Nat) (nv:AB) (xs:List NV),PSt B B w2 tv nv L i f xs)/\∀ms j g,jL L n n 0 0=.ok ms j g->
 ∃lv rv css,Blk w2 Ln #[lv] 40/\Blk w2 Ou #[rv] 23/\Own 0 3 1 w2 lv ((ms.map (·.1)).map encI)/\Own 0 66 7 w2 rv (List.flatten css)/\jl (kI (ka (fun _=>True) w2) w2) css (ms.map (·.2))/\(∀m∈ms.map (·.2),Src L n m)
structure PaS (L:List Tok) (n:Nat) (B P Lv Ln Ou:Nat) (w:AA) (tv:AB) (i f:Nat) (nv lv rv:AB) (xs:List NV) (css:List (List AB)) (ls:List Int) (ms:List Mod) (w':AA):Prop where
 st:PSt B B w' tv nv L i f xs
 ln:xs.length<=2*i+2
 sp:jF lv xs
 bP:Blk w' P #[.pointer (some ⟨B,0,none⟩)] 83
 bL:Blk w' Lv #[tv] 48
 bN:Blk w' Ln #[lv] 40
 bO:Blk w' Ou #[rv] 23
 ol:Own w.heap.size 3 1 w' lv (ls.map encI)
 oo:Own w.heap.size 66 7 w' rv css.flatten
 all:jl (kI (xy (fun k=>lv.ownBlock≠some k) w' nv xs) w') css ms
 sm:qj (fun k T=>qcW k T/\k<w.heap.size) w w'
 bl:Below B w w'
 src:∀m∈ms,Src L n m
section
variable {L:List Tok} {n B P Lv Ln Ou:Nat} {w w1 w2 w3:AA} {tv nv lv lv' rv rv':AB} {i f:Nat} {xs:List NV} {css:List (List AB)} {ls:List Int} {ms:List Mod}
theorem PaS.ext (h:PaS L n B P Lv Ln Ou w tv i f nv lv rv xs css ls ms w1) (a:qc w1 w2):PaS L n B P Lv Ln Ou w tv i f nv lv rv xs css ls ms w2:=by
 have c:qj (fun _ _=>True) w1 w2:=qj.ext a;refine ⟨h.st.ext a,h.ln,h.sp,h.bP.ext a,h.bL.ext a,h.bN.ext a,h.bO.ext a,h.ol.ext a,h.oo.ext a, ?_,h.sm.trans (qj.ext a),h.bl.trans (qki a (Jo h.st.blk.lt)),h.src⟩;exact h.all.imp fun _ _ h=>h.at' c (fun _=>trivial) (fun _=>trivial) (fun _=>trivial) (fun _=>trivial) fun _ _ h=>h.at' c (fun _=>trivial) fun _ _=>trivial
theorem PaS.line (h:PaS L n B P Lv Ln Ou w tv i f nv lv rv xs css ls ms w1) {x:Int} (q:w1.grownBy w2 lv.ownBlock) (Y:Own w.heap.size 3 1 w2 lv' ((ls++[x]).map encI)) (O:lv'.ownBlock=lv.ownBlock\/lv'.ownBlock=some w1.heap.size) (V:B<=Ln) (Z:B<=w.heap.size) (H:Only Ln w2 w3) (U:Blk w3 Ln #[lv'] 40):
  PaS L n B P Lv Ln Ou w tv i f nv lv' rv xs css (ls++[x]) ms w3:=by
 have a:=qj.grown h.ol q;have o:=h.bN.at' a (.inr (by decide));have c:=qj.only H o;have j:=h.st.kidLt;have J:∀k,k<w1.heap.size->lv.ownBlock≠some k->(lv.ownBlock≠some k/\lv'.ownBlock≠some k):=fun k g t=>⟨t,fun e=>by
  rcases O with E|E
  ·exact t (E▸e)
  ·rw [E] at e;cases e;omega⟩
 refine ⟨(h.st.grown h.ol q h.sp (by decide) (by decide) (by decide)).only (cs:=#[lv]) (T:=40) H (fun _=>o.heap) (by decide) (by decide) (by decide) (by decide),h.ln,fun y I k g=>(J k (j y I k g) (h.sp y I k g)).2,
  (h.bP.at' a (.inr (by decide))).at' c (.inr (by decide)),(h.bL.at' a (.inr (by decide))).at' c (.inr (by decide)),U,(h.bO.at' a (.inr (by decide))).at' c (.inr (by decide)),
  Y.at' c fun k _=> .inr (by decide),(h.oo.at' a fun k _=> .inr (by decide)).at' c fun k _=> .inr (by decide), ?_, ?_,(h.bl.trans (qkf (v:=lv) q (fun k g=>Nat.le_trans Z (h.ol.blk k g).1) (Jo h.st.blk.lt))).trans (kq H V),h.src⟩
 ·refine h.all.imp fun _ _ hm=>?_;have t:kI (xy (fun k=>lv.ownBlock≠some k/\lv'.ownBlock≠some k) w2 nv xs) w2 _ _:=hm.at' a (fun _=> .inr (by decide)) (fun _=> .inr (by decide)) (fun _=> .inr (by decide)) (fun _=> .inr (by decide)) fun v l z=>
   (xy.mono (q':=fun k=>lv.ownBlock≠some k/\lv'.ownBlock≠some k) z j J).at2 a (fun k g=> .inl g.1) fun k _=> .inr (by decide)
  exact t.at' c (fun _=> .inr (by decide)) (fun _=> .inr (by decide)) (fun _=> .inr (by decide)) (fun _=> .inr (by decide)) fun v l z=>
   (z.mono (fun x S k g=>uT (j x S k g) q.size) fun k _ g=>g.2).at2 c (fun k _=> .inr (by decide)) fun k _=> .inr (by decide)
 ·refine (h.sm.trans ((a.mono fun k T g=>?_).trans (c.mono fun k T g=>?_)))
  ·exact .inl fun e=>by have:=(h.ol.blk k e).1;have:=g.2;omega
  ·rcases g.1 with rfl|rfl|rfl<;>exact .inr (by decide)
theorem PaS.read (h:PaS L n B P Lv Ln Ou w tv i f nv lv rv xs css ls ms w1) {j g:Nat} {o:AB} {ys:List NV} (a:Cm B B w1 tv nv L xs w2 o j g ys):PaS L n B P Lv Ln Ou w tv j g o lv rv ys css ls ms w2:=by
 have sm:=a.same h.st;have q:∀k,lv.ownBlock=some k->k<w1.heap.size:=fun k c=>(h.ol.blk k c).2;refine ⟨a.st,a.ln,fun y E k c e=>?_,h.bP.at' sm ⟨by decide,by decide⟩,h.bL.at' sm ⟨by decide,by decide⟩,h.bN.at' sm ⟨by decide,by decide⟩,h.bO.at' sm ⟨by decide,by decide⟩,h.ol.at' sm fun _ _=>⟨by decide,by decide⟩,h.oo.at' sm fun _ _=>⟨by decide,by decide⟩, ?_, ?_,h.bl.trans a.tn.below,h.src⟩
 ·rcases a.fr y E with t|t
  ·exact h.sp y t k c e
  ·have:=t k c;have:=q k e;omega
 ·exact h.all.imp fun _ _ h=>h.at' sm (fun _=>⟨by decide,by decide⟩) (fun _=>⟨by decide,by decide⟩) (fun _=>⟨by decide,by decide⟩) (fun _=>⟨by decide,by decide⟩) fun v l z=>a.nd _ v l z
 ·refine h.sm.trans (sm.mono fun k T c=>?_);rcases c.1 with rfl|rfl|rfl<;>exact ⟨by decide,by decide⟩
theorem PaS.mod (h:PaS L n B P Lv Ln Ou w tv i f nv lv rv xs css ls ms w1) {c:List AB} {m:Mod} (g:Src L n m) (J:kI (xy (fun k=>lv.ownBlock≠some k) w1 nv xs) w1 c m) (z:w1.grownBy w2 rv.ownBlock) (U:Own w.heap.size 66 7 w2 rv' (css.flatten++c)) (S:B<=Ou) (V:B<=w.heap.size) (H:Only Ou w2 w3) (O:Blk w3 Ou #[rv'] 23):
  PaS L n B P Lv Ln Ou w tv i f nv lv rv' xs (css++[c]) ls (ms++[m]) w3:=by
 have t:qj (fun _ T=>T≠66) w1 w2:=(qj.grown h.oo z).mono fun _ _ h=> .inr h;have j:=h.bO.at' t (by decide);have y:qj (fun _ T=>T≠23) w2 w3:=(qj.only H j).mono fun _ _ h=> .inr h;have a:qj (fun _ T=>T≠66/\T≠23) w1 w3:=(t.mono fun _ _ h=>h.1).trans (y.mono fun _ _ h=>h.2);refine ⟨(h.st.grown h.oo z (h.st.sep h.oo (by decide)) (by decide) (by decide) (by decide)).only (cs:=#[rv]) (T:=23) H (fun _=>j.heap) (by decide) (by decide) (by decide) (by decide),h.ln,h.sp,h.bP.at' a ⟨by decide,by decide⟩,h.bL.at' a ⟨by decide,by decide⟩,h.bN.at' a ⟨by decide,by decide⟩,O,
  h.ol.at' a fun _ _=>⟨by decide,by decide⟩, ?_, ?_, ?_,(h.bl.trans (qkf (v:=rv) z (fun k I=>Nat.le_trans V (h.oo.blk k I).1) (Jo h.st.blk.lt))).trans (kq H S),fun q o=>by
  rcases uv.1 o with o|o
  ·exact h.src q o
  ·rw [uu.1 o];exact g⟩
 ·simp only [Ju,List.flatten_cons,List.flatten_nil,ua];exact U.at' y fun _ _=>by decide
 ·refine jl.snoc ?_ (h.all.imp fun _ _ J=>?_)
  ·exact J.at' a (fun _=>⟨by decide,by decide⟩) (fun _=>⟨by decide,by decide⟩) (fun _=>⟨by decide,by decide⟩) (fun _=>⟨by decide,by decide⟩) fun v l E=>E.at' a (fun _=>⟨by decide,by decide⟩) fun _ _=>⟨by decide,by decide⟩
  ·exact J.at' a (fun _=>⟨by decide,by decide⟩) (fun _=>⟨by decide,by decide⟩) (fun _=>⟨by decide,by decide⟩) (fun _=>⟨by decide,by decide⟩) fun v l E=>E.at' a (fun _=>⟨by decide,by decide⟩) fun _ _=>⟨by decide,by decide⟩
 ·refine h.sm.trans (a.mono fun k T I=>?_);rcases I.1 with rfl|rfl|rfl<;>exact ⟨by decide,by decide⟩
end
def qJ2 {L:List Tok} {n k i f:Nat} {β:Type} {K:List (Int×Mod)->M β} (h:i<L.length):bnd (jL L n (k+1)) K i f=bnd (xC L n) (fun m=>bnd (jL L n k) fun a=>K (((tk L i).line,m)::a)) i f:=by
 have e:jL L n (k+1) i f=bnd (xC L n) (fun m=>bnd (jL L n k) fun ms=>ret (((tk L i).line,m)::ms)) i f:=by
  show (if i<L.length then _ else _)=_;rw [j0 h]
 have c:bnd (jL L n (k+1)) K i f=bnd (bnd (xC L n) (fun m=>bnd (jL L n k) fun ms=>ret (((tk L i).line,m)::ms))) K i f:=by
  unfold bnd at e⊢;rw [e]
 rw [c,kU];simp only [kU,yh]
def qJ1 {L:List Tok} {n k i f:Nat} {β:Type} {K:List (Int×Mod)->M β} (h:¬i<L.length):bnd (jL L n (k+1)) K i f=K [] i f:=by
 unfold bnd;have e:jL L n (k+1) i f=.ok [] i f:=by
  show (if i<L.length then _ else _)=_;rw [q3 h]
 rw [e];rfl
theorem qBZ {L:List Tok} (hL:jJ L) (hNum:wO L) (n:Nat) (Y:jL L n n 0 0≠ .oof) {B P Lv Ln Ou:Nat} {w:AA} {tv:AB} (hS:PSt B B w tv (.slice none 0 0) L 0 0 []) (hP:Blk w P #[.pointer (some ⟨B,0,none⟩)] 83) (hLv:Blk w Lv #[tv] 48) (hLn:Blk w Ln #[.slice none 0 0] 40) (hOu:Blk w Ou #[.slice none 0 0] 23) (hBN:B<=Ln) (hBO:B<=Ou):
  Calls Tryz.prog 55 #[.pointer (some ⟨P,0,none⟩),.pointer (some ⟨Lv,0,none⟩),.pointer (some ⟨Ln,0,none⟩),.pointer (some ⟨Ou,0,none⟩)] w (qa2 B tv w (Qa L n) (yI L n) (qli L n B tv Ln Ou)):=by
 have hBw:B<=w.heap.size:=Jo hS.blk.lt;have hLnw:=hLn.lt;have hOuw:=hOu.lt;have hPw:=hP.lt;have hLvw:=hLv.lt;generalize hR:qa2 B tv w (Qa L n) (yI L n) (qli L n B tv Ln Ou)=R;generalize hr:jL L n n 0 0=r at Y;have ab:∀e w2,(∃(i f:Nat) (nv:AB) (xs:List NV),PSt B B w2 tv nv L i f xs/\qj (fun k T=>qcW k T/\k<w.heap.size) w w2/\Below B w w2/\
   ((e=.returned (.tuple #[])/\∃(ms:List (Int×Mod)) (j g:Nat),r=.ok ms j g/\∃lv rv css,Blk w2 Ln #[lv] 40/\Blk w2 Ou #[rv] 23/\Own 0 3 1 w2 lv ((ms.map (·.1)).map encI)/\Own 0 66 7 w2 rv (List.flatten css)/\jl (kI (ka (fun _=>True) w2) w2) css (ms.map (·.2))/\(∀m∈ms.map (·.2),Src L n m))
    \/(e=.panicked yr/\r=.no f)))->R e w2:=by
  rintro e w2 ⟨i,f,nv,xs,E,hsm,hbl,h⟩;have hsm':qj qcW w w2:=fun k cs T z O h2=>hsm k cs T z O ⟨h2,(ul.1 O).1⟩;rw [<-hR];refine ⟨hsm',hbl, ?_⟩;rcases h with ⟨rfl,ms,j,g,rfl,h⟩|⟨rfl,rfl⟩
  ·refine .inl ⟨by simp [Qa,hr],rfl,⟨i,f,nv,xs,E⟩,fun ms' j' g' e=>?_⟩;rw [hr] at e;cases e;exact h
  ·refine .inr ⟨by simp [Qa,hr],rfl,i,nv,by simpa [yI,hr] using E.blk,E.own.isl,⟨i,f,nv,xs,E⟩,fun ms' j' g' e=>?_⟩;rw [hr] at e;cases e
 refine qDU fun ρ r0 r1 r2 r3=>?_;obtain ⟨I,hI⟩:∃I:qa->AA->Prop,∀J w',I J w'↔∃(i f n':Nat) (nv lv rv:AB) (xs:List NV) (css:List (List AB)) (ls:List Int) (ms:List Mod),J 0=.pointer (some ⟨P,0,none⟩)/\J 1=.pointer (some ⟨Lv,0,none⟩)/\J 2=.pointer (some ⟨Ln,0,none⟩)/\J 3=.pointer (some ⟨Ou,0,none⟩)/\
   PaS L n B P Lv Ln Ou w tv i f nv lv rv xs css ls ms w'/\ls.length=ms.length/\ls.length<=i/\bnd (jL L n n') (fun us=>ret (ls.zip ms++us)) i f=r:=⟨_,fun _ _=>Iff.rfl⟩
 have h0:I ρ w:=(hI _ _).2 ⟨0,0,n,.slice none 0 0,.slice none 0 0,.slice none 0 0,[],[],[],[],r0,r1,r2,r3,
  ⟨hS,by simp,fun x hx=>(by cases hx),hP,hLv,hLn,hOu,Own.nil _ _ _ _,Own.nil _ _ _ _,trivial,fun _ _ _ _ _ _=>rfl,Below.refl _ _,by simp⟩,rfl,by simp,by
   have:bnd (jL L n n) (fun us=>ret us) 0 0=r:=by rw [kO,hr]
   simpa using this⟩
 clear hS hP hLv hLn hOu r0 r1 r2 r3;simp only [qqy,qxi];refine kr I (fun _ w'=>L.length - atOf B w') h0 ?_;intro J w' hIw;obtain ⟨i,f,n',nv,lv,rv,xs,css,ls,ms,r0,r1,r2,r3,hs,hlm,hli,t⟩:=(hI _ _).1 hIw;have hat:=hs.st.atOf;have hK:=hs.st.slk;have cP:w'.cell? ⟨P,0,none⟩=some (.pointer (some ⟨B,0,none⟩)):=by rw [hs.bP.cell];rfl
 have cL:w'.cell? ⟨Lv,0,none⟩=some tv:=by rw [hs.bL.cell];rfl
 have htl:=hs.st.tl;have hil:=hs.st.il;simp -implicitDefEqProofs [qqv,r0,r1,cP,cL,hs.st.blk.cell,hK.is,hK.len];intro w1 hE1;have a:=hs.ext hE1;by_cases y:i<L.length
 ·cases n' with
  |zero=>exact absurd t.symm (by simpa [bnd,jL,oof,Rs.andThen] using Y)
  |succ n'=>
   rw [qJ2 y] at t;simp -implicitDefEqProofs [qiR,qqw,y];generalize hS1:(fun W:AA=>Blk W P #[.pointer (some ⟨B,0,none⟩)] 83/\Blk W B #[tv,.int .i64 (i:Int),.int .i64 (f:Int),nv] 85/\Blk W Lv #[tv] 48/\Blk W Ln #[lv] 40/\Own 0 53 3 W tv (qH L))=S1;have mk:∀{W:AA},PaS L n B P Lv Ln Ou w tv i f nv lv rv xs css ls ms W->S1 W:=fun h=>by rw [<-hS1];exact ⟨h.bP,h.st.blk,h.bL,h.bN,h.st.tok⟩
   refine js qDT S1 fun w2 hE2 _=>⟨mk (a.ext hE2), ?_⟩;have hs2:=a.ext hE2;have hSS:=mk hs2;have c1:∀W,S1 W->W.cell? ⟨P,0,none⟩=some (.pointer (some ⟨B,0,none⟩))/\W.cell? ⟨Lv,0,none⟩=some tv/\W.cell? ⟨Ln,0,none⟩=some lv/\W.cell? ⟨B,1,none⟩=some (.int .i64 (i:Int))/\W.cell? (qN tv (i*3+2))=some (.int .i64 (tk L i).line):=fun W h=>by
    rw [<-hS1] at h;refine ⟨by rw [h.1.cell];rfl,by rw [h.2.2.1.cell];rfl,by rw [h.2.2.2.1.cell];rfl,by rw [h.2.1.cell];rfl, ?_⟩;have hcell:=(L01.jw h.2.2.2.2).cell (i*3+2) (by rw [jp];omega);have hg:=(jM L i y).2.2;rw [uj (by rw [jp];omega)] at hg;rw [hcell,Jp hg,tk,uH,uj y];rfl
   simp+contextual -implicitDefEqProofs [qqu,c1,hSS,r0,r1,r2,hK.is,hK.len,y];refine jC qbb (by decide) (by decide) (by simp [Value.cells]) fun Z w3 hZ hE3 hb3 _=>?_;simp [Value.cells] at hb3;have H:=hs2.ext hE3;refine ⟨mk H, ?_⟩;have hw3:w.heap.size<=w3.heap.size:=H.bl.size;refine yf qeK (base:=w.heap.size) (sv:=lv) (xv:=.slice (some ⟨Z,0,none⟩) 1 1) (xs:=ls.map encI) (news:=[encI (tk L i).line]) hw3 (by simp) (by simp) H.ol (Blk.cells (by simpa [encI] using hb3) rfl) (by simp [encI,Value.oneCell']) (by simp;omega) (by simp;omega) fun lv' w4 hO4 hg4 hr4=>?_;have smg:=qj.grown H.ol hg4;have bN4:=H.bN.at' smg (.inr (by decide));simp -implicitDefEqProofs [r2];refine qD (B:=Ln) (i:=0) (by simp [r2]) bN4 (by simp) (by simpa using qn hO4.isl) (by simpa using jf hO4.isl) xm fun w5 hO5 hb5=>?_;simp at hb5;have hs5:=H.line hg4 (x:=(tk L i).line) (by simpa using hO4) hr4 hBN hBw hO5 hb5;simp -implicitDefEqProofs [qqx];generalize E:(fun W:AA=>Blk W P #[.pointer (some ⟨B,0,none⟩)] 83/\Blk W Ou #[rv] 23)=S2;refine js qDS S2 fun w6 hE6 _=>?_;have q:=hs5.ext hE6;have mk2:∀{W:AA},Blk W P #[.pointer (some ⟨B,0,none⟩)] 83->Blk W Ou #[rv] 23->S2 W:=fun O h2=>by rw [<-E];exact ⟨O,h2⟩
   have ae:=mk2 q.bP q.bO;refine ⟨ae, ?_⟩;have c2:∀W,S2 W->W.cell? ⟨P,0,none⟩=some (.pointer (some ⟨B,0,none⟩))/\W.cell? ⟨Ou,0,none⟩=some rv:=fun W h=>by
    rw [<-E] at h;exact ⟨by rw [h.1.cell];rfl,by rw [h.2.cell];rfl⟩
   simp+contextual -implicitDefEqProofs [qqt,c2,ae,r0,r3];have af:xC L n i f≠ .oof:=fun e=>Y (by rw [<-t,vc e]);refine (qBo hL hNum n q.st q.ln af).mono ?_;intro e w7 hp;cases hm:xC L n i f with
   |oof=>exact absurd hm af
   |no g=>
    rw [hm] at hp;obtain ⟨rfl,j,V,xs7,hS7,hT7⟩:=hp;simp -implicitDefEqProofs;refine ab _ _ ⟨j,g,V,xs7,hS7, ?_,q.bl.trans hT7.below,.inr ⟨rfl,by rw [<-t,jT hm]⟩⟩;refine q.sm.trans fun k cs T z O h2=>hT7.block k (ul.1 O).1 (q.st.blkNe O ?_) (q.st.rowNe O ?_)
    ·rcases h2.1 with rfl|rfl|rfl<;>decide
    ·rcases h2.1 with rfl|rfl|rfl<;>decide
   |ok m j g=>
    rw [hm] at hp;rw [jS hm] at t;obtain ⟨v,rfl,cs,V,ys,rfl,hM7,ad⟩:=hp;obtain ⟨U,aa⟩:=ad.row;have hcc:=qab fun c hc=>(aa c hc).1;have S:=q.read hM7;have hij:=(qv0 n i f m j g hm).1;simp -implicitDefEqProofs;refine ⟨mk2 S.bP S.bO, ?_⟩;refine jC qy2 (by decide) (by decide) (by simp [hcc,U]) fun Z w8 hZ hE8 hb8 _=>?_;simp [hcc] at hb8;have o:=S.ext hE8;refine ⟨mk2 o.bP o.bO, ?_⟩;have hrl:=o.all.len;have hcsl:=Q8 (n:=7) (jl.left (P:=fun c=>c.length=7) (fun _ _ h=>h.row.1) o.all);have hw8:w.heap.size<=w8.heap.size:=o.bl.size;have hlm':=hlm;have hjl:=o.st.il;refine yf qAe (base:=w.heap.size) (sv:=rv) (xv:=.slice (some ⟨Z,0,none⟩) 1 1) (xs:=css.flatten) (news:=cs) hw8 (by simp) (by simp) o.oo (Blk.cells (by simpa using hb8) (by simp [U])) (fun u hu=>?_) (by rw [hcsl,U];omega) (by rw [hcsl,U];omega) fun rv' w9 hO9 hg9 hr9=>?_
    ·obtain ⟨O,h2⟩:=aa u hu
     revert O h2
     cases u<;>simp [Value.oneCell',Value.oneCell,Value.cells]
    have smg9:qj (fun _ T=>T≠66) w8 w9:=(qj.grown o.oo hg9).mono fun _ _ h=> .inr h;have bO9:=o.bO.at' smg9 (by decide);simp -implicitDefEqProofs [r3];refine qD (B:=Ou) (i:=0) (by simp [r3]) bO9 (by simp) (by simpa using qn hO9.isl) (by simpa using jf hO9.isl) qyE fun w10 hO10 ag=>?_;simp at ag;have hlv5:∀k,lv'.ownBlock=some k->k<w6.heap.size:=fun k hk=>(q.ol.blk k hk).2;have hmod8:kI (xy (fun k=>lv'.ownBlock≠some k) w8 V ys) w8 cs m:=ad.at' (qj.ext (p:=fun _ _=>True) hE8) (fun _=>trivial) (fun _=>trivial) (fun _=>trivial) (fun _=>trivial) fun v l hv=>
     (hv.mono S.st.kidLt fun k _ hk e=>by have:=hlv5 k e;omega).at' (qj.ext (p:=fun _ _=>True) hE8) (fun _=>trivial) fun _ _=>trivial
    have ac:=o.mod ⟨i,f,j,g,hm,hM7.st.il⟩ hmod8 hg9 hO9 hBO hBw hO10 ag;simp -implicitDefEqProofs;refine ⟨(hI _ _).2 ⟨j,g,n',V,lv',rv',ys,_,_,_,by simp [r0],by simp [r1],by simp [r2],by simp [r3],ac,by simp [hlm],by simp;omega, ?_⟩, ?_⟩
    ·rw [<-t];have:(ls++[(tk L i).line]).zip (ms++[m])=ls.zip ms++[((tk L i).line,m)]:=by rw [List.zip_append hlm];rfl
     rw [this];simp
    ·rw [ac.st.atOf,hat];omega
 ·simp -implicitDefEqProofs [qiR,y];refine ab _ _ ⟨i,f,nv,xs,a.st,a.sm,a.bl,.inl ⟨rfl,ls.zip ms,i,f, ?_,lv,rv,css,a.bN,a.bO, ?_,Own.down a.oo (uf _), ?_, ?_⟩⟩
  ·cases n' with
   |zero=>exact absurd t.symm (by simpa [bnd,jL,oof,Rs.andThen] using Y)
   |succ n'=>rw [<-t,qJ1 y];simp [ret]
  ·rw [List.map_fst_zip (by omega)];exact Own.down a.ol (uf _)
  ·rw [List.map_snd_zip (by omega)];refine a.all.imp fun _ _ h=>h.at' (qj.ext (p:=fun _ _=>True) (jd _)) (fun _=>trivial) (fun _=>trivial) (fun _=>trivial) (fun _=>trivial) fun v l hv=>?_;rcases hv with ⟨rfl,rfl,_⟩|⟨O,_⟩
   ·exact ⟨xs,rfl,Own.down a.st.own (uf _),fun x hx=>⟨a.st.kid x hx,fun _ _=>trivial⟩⟩
   ·exact O.mono fun _ _ _=>trivial
  ·rw [List.map_snd_zip (by omega)];exact a.src
@[simp] theorem qMt:qk Tryz.prog 15=true:=by kernel_rfl
def qf4 (e l:Int):AB:=.agg #[.int .i64 e,.int .i64 l]
def RdN (w:AA) (v:AB) (l:List Nd):Prop:=∃xs:List NV,xs.map (·.nd)=l/\Rd w v xs
def RdO (w:AA) (v:AB) (l:List Nd):Prop:=∃(xs:List NV) (b b':Nat),xs.map (·.nd)=l/\Own b 44 6 w v (jY xs)/\∀x∈xs,Own b' 3 1 w x.kv (x.nd.kids.map encI)
def RdO.at' {w w':AA} {v:AB} {l:List Nd} {p:Nat->TypeId->Prop} (h:RdO w v l) (c:qj p w w') (a:∀k,p k 44) (o:∀k,p k 3):RdO w' v l:=by
 obtain ⟨xs,b,j,y,q,t⟩:=h;exact ⟨xs,b,j,y,q.at' c fun k _=>a k,fun x g=>(t x g).at' c fun k _=>o k⟩
def RdO.ext {w w':AA} {v:AB} {l:List Nd} (h:RdO w v l) (a:qc w w'):RdO w' v l:=by
 obtain ⟨xs,b,c,j,g,o⟩:=h;exact ⟨xs,b,c,j,g.ext a,fun x k=>(o x k).ext a⟩
def NOk (l:List Nd):Prop:=(∀x∈l,DOk x.d)/\∀x∈l,x.kids.length<=1000000
def DS.ok {d:D} (h:DS d):DOk d:=by
 obtain ⟨j,c,a,g⟩:=h;unfold Sh at c a g;exact ⟨by omega,by omega,by omega,by omega⟩
def qCz {t:T} (h:TOk t) (c:t.size<=1000000):NOk (t.flat 0):=⟨fun x a=>(ql7 t 0 h x a).ok,fun x a=>by have:=qpl t 0 x a;omega⟩
def NOk.ds {xs:List NV} {l:List Nd} (h:NOk l) (e:xs.map (·.nd)=l):∀y∈xs,DOk y.nd.d:=fun y a=>h.1 y.nd (by rw [<-e];exact uw.2 ⟨y,a,rfl⟩)
def NOk.kl {xs:List NV} {l:List Nd} (h:NOk l) (e:xs.map (·.nd)=l):∀y∈xs,y.nd.kids.length<=1000000:=fun y a=>h.2 y.nd (by rw [<-e];exact uw.2 ⟨y,a,rfl⟩)
def qAi {w:AA} {v:AB} {b a:Nat} {xs:List NV} (h:Own b 44 6 w v (jY xs)) (g:∀x∈xs,Own a 3 1 w x.kv (x.nd.kids.map encI)):Rd w v xs:=⟨L01.jw h,fun x c=>L01.jw (g x c)⟩
theorem z26:jU Tryz.prog 26=some #[.int .i64 0,.int .i64 0]:=by kernel_rfl
theorem QH:jh Tryz.prog 26 2=true:=by kernel_rfl
theorem qwk:Tryz.prog.built 26 []=some #[.int .i64 0,.int .i64 0]:=by kernel_rfl
theorem qJF (a:Int):Tryz.prog.built 26 [(0,.int .i64 a)]=some #[.int .i64 a,.int .i64 0]:=by kernel_rfl
theorem qwj (a b:Int):Tryz.prog.built 26 [(0,.int .i64 a),(1,.int .i64 b)]=some #[.int .i64 a,.int .i64 b]:=by kernel_rfl
def qa2.more {B P:Nat} {tv:AB} {W w2:AA} {ok:Bool} {g:Nat} {Ok:AA->Prop} {e:Ending} {L:List Tok} {cs:Array AB} (o:∀w2,Ok w2->∃(i f:Nat) (nv:AB) (ys:List NV),PSt B B w2 tv nv L i f ys) (I:Blk W P cs 83) (h:qa2 B tv W ok g Ok e w2):
  qa2 B tv W ok g (fun w2=>Ok w2/\Blk w2 P cs 83/\(ok=false->g<=L.length)) e w2:=by
 obtain ⟨z,J,E⟩:=h;have k:=I.at' z (.inr (.inr rfl));refine ⟨z,J, ?_⟩;rcases E with ⟨a,b,c⟩|⟨a,b,j,q,t,O,c⟩
 ·exact .inl ⟨a,b,c,k,fun e=>by rw [a] at e;cases e⟩
 ·refine .inr ⟨a,b,j,q,t,O,c,k,fun _=>?_⟩;obtain ⟨i,f,nv,ys,y⟩:=o w2 c;have e:=y.blk.heap;rw [t.heap] at e;simp only [ui,Obj.cells.injEq] at e;have H:=congrArg (fun a:Array AB=>a[2]?) e.1;simp at H;have:=y.fl;omega
end Go.L02
namespace Go.Eng
def qlq {P:Program} {Q:Ks} {K:qa->AA->Prop} (r:List St):∀l:List St,jr P Q (l++r) K=jr P Q l (jr P Q r K)
 |[]=>rfl
 |s::l=>by
  funext ρ w;cases s<;>simp only [List.cons_append,jr,qlq r l]
end Go.Eng
namespace Go.L02
open Go Go.Eng Go.RowKit
open Go.Proofs hiding encI
open Go.L01 (Bs Own.same Tok qJ qW qY qi)
set_option maxRecDepth 100000
set_option maxHeartbeats 2000000
@[simp] theorem qMv:qk Tryz.prog 51=true:=by kernel_rfl
@[simp] theorem qMu:qk Tryz.prog 93=true:=by kernel_rfl
@[simp] theorem qMw:qk Tryz.prog 186=true:=by kernel_rfl
@[simp] theorem qMy:qk Tryz.prog 126=true:=by kernel_rfl
@[simp] theorem qMx:qk Tryz.prog 128=true:=by kernel_rfl
@[simp] theorem qIR:qk Tryz.prog 130=true:=by kernel_rfl
def qoz {w:AA} {a b:AB} {xs ys:List Bs} (E:Cells w a 1 (xs.map qi)) (H:Cells w b 1 (ys.map qi)) (aa:xs.length<4611686018427387904):Calls Tryz.prog 51 #[a,b] w fun e w'=>e=.returned (.bool (decide (xs=ys)))/\qc w w':=by
 have o:qm a=xs.length:=by simpa using E.len.symm
 have q:qm b=ys.length:=by simpa using H.len.symm
 refine qD0 fun ρ r0 r1=>?_;simp -implicitDefEqProofs [qqK,r0,r1,E.is,H.is,o,q];by_cases t:xs.length=ys.length
 ·simp -implicitDefEqProofs [t,qqG,r0,E.is,o];obtain ⟨I,S⟩:∃I:Nat->qa->AA->Prop,∀j c w',I j c w'↔(c 0=a/\c 1=b/\c 12=.int .i64 (ys.length:Int)/\qc w w'/\xs.take j=ys.take j):=⟨_,fun _ _ _=>Iff.rfl⟩;refine zH 13 ys.length I (by simp) ((S _ _ _).2 ⟨by simp [r0],by simp [r1],by simp,jd _,by simp⟩) ?_;rintro j c w' hj U V;obtain ⟨r0,r1,k,z,h⟩:=(S _ _ _).1 V;have O:IntKind.i64.wrap ((j:Int)+1)=(j:Int)+1:=q7 (by omega);by_cases g:j<ys.length
  ·have Y:=(E.ext z).cell j (by simpa [t] using g);have Z:=(H.ext z).cell j (by simpa using g);simp only [Jx,qi] at Y Z;simp -implicitDefEqProofs [qiV,U,k,g,qqI,r0,r1,E.is,o,H.is,q,t,Y,Z];intro w2 y;by_cases J:xs[j]=ys[j]
   ·simp -implicitDefEqProofs [qiW,qqJ,J,U,O];refine (S _ _ _).2 ⟨by simp [r0],by simp [r1],by simp [k],z.trans' y, ?_⟩;rw [uO (by omega),uO (by omega),h,J]
   ·simp -implicitDefEqProofs [qiW,vv,J];exact ⟨fun e=>J (by simp [e]),z.trans' y⟩
  ·simp -implicitDefEqProofs [qiV,U,k,g,qqH];refine ⟨?_,z⟩;rw [uz (by omega),uz (by omega)] at h;exact h
 ·simp -implicitDefEqProofs [t];exact ⟨fun e=>t (by rw [e]),jd _⟩
def qlf (w:AA) (v:AB) (l:List Bs) (p:Bs->Bool):Prop:=∃F,v=qS F #[]/\qk Tryz.prog F=true/\∀W,qc w W->∀s∈l,Calls Tryz.prog F #[.string (qb s)] W fun e w'=>e=.returned (.bool (p s))/\qc W w'
def qoC {w:AA} {lv U:AB} {xs:List Bs} (z:Cells w lv 1 (xs.map qi)) (Z:xs.length<=1000000) {p:Bs->Bool} (hf:qlf w U xs p):
  Calls Tryz.prog 93 #[lv,U] w fun e w'=>e=.returned (.bool (xs.any p))/\qc w w':=by
 have V:qm lv=xs.length:=by simpa using z.len.symm
 obtain ⟨F,rfl,J,hc⟩:=hf;have key:Calls Tryz.prog 186 #[lv,qS F #[]] w fun e w'=>∃n:Int,e=.returned (.int .i64 n)/\decide (0<=n)=xs.any p/\qc w w':=by
  refine qGf fun ρ r0 r1=>?_;simp -implicitDefEqProofs [qtk,r0,z.is,V];generalize q:(fun (e:Ending) (w':AA)=>∃n:Int,e=.returned (.int .i64 n)/\decide (0<=n)=xs.any p/\qc w w')=R;obtain ⟨I,H⟩:∃I:Nat->qa->AA->Prop,∀j h w',I j h w'↔(h 0=lv/\h 1=qS F #[]/\h 7=.int .i64 (xs.length:Int)/\qc w w'/\(xs.take j).any p=false):=⟨_,fun _ _ _=>Iff.rfl⟩;refine zH 8 xs.length I (by simp) ((H _ _ _).2 ⟨by simp [r0],by simp [r1],by simp,jd _,by simp⟩) ?_;clear r0 r1;rintro j h w' hj O S;obtain ⟨r0,r1,r7,o,g⟩:=(H _ _ _).1 S;have E:IntKind.i64.wrap ((j:Int)+1)=(j:Int)+1:=q7 (by omega);by_cases c:j<xs.length
  ·have k:(j:Int)<(xs.length:Int):=by omega
   have a:=(z.ext o).cell j (by simpa using c);simp only [Jx,qi] at a;simp -implicitDefEqProofs [qjD,O,r7,k,c,qti,r0,r1,z.is,V,a];refine xh J (t:=11) (fs:=#[]) (caps:=#[]) (by simp [qS]) ?_;simp -implicitDefEqProofs;refine (hc w' o xs[j] (uo _)).mono ?_;rintro _ w2 ⟨rfl,y⟩;cases Y:p xs[j] with
   |true=>
    simp -implicitDefEqProofs;rw [<-q];refine ⟨j,rfl, ?_,o.trans' y⟩;rw [List.any_eq_true.2 ⟨xs[j],uo _,Y⟩];simp
   |false=>
    simp -implicitDefEqProofs [qtj,O,E,c];refine (H _ _ _).2 ⟨by simp [r0],by simp [r1],by simp [r7],o.trans' y, ?_⟩;rw [uO c,List.any_append,g];simp [Y]
  ·have k:¬(j:Int)<(xs.length:Int):=by omega
   rw [uz (by omega)] at g;simp -implicitDefEqProofs [qjD,O,r7,k,c,qth];rw [<-q];exact ⟨-1,rfl,by rw [g];rfl,o⟩
 refine qDl fun ρ r0 r1=>?_;simp -implicitDefEqProofs [qpN,r0,r1];refine key.mono ?_;rintro _ w2 ⟨n,rfl,hn,o⟩;simp -implicitDefEqProofs;exact ⟨hn,o⟩
def qd7:Option Bs->List Bs->Bool
 |_,[]=>true
 |p,s::l=>(qJ s&&(match p with|none=>true|some q=>Op.bytesLess q s))&&qd7 (some s) l
def qcF (l:List Bs):Bool:=qd7 none l
def qbh (l:List Bs) (j:Nat):Option Bs:=if j=0 then none else l[j - 1]?
def qoK {w:AA} {lv:AB} {xs:List Bs} (hG:L01.G w) (J:Cells w lv 1 (xs.map qi)) (af:xs.length<=1000000):Calls Tryz.prog 128 #[lv] w fun e w'=>e=.returned (.bool (qcF xs))/\qc w w':=by
 have U:qm lv=xs.length:=by simpa using J.len.symm
 generalize E:qcF xs=b;refine qHa fun ρ r0=>?_;simp -implicitDefEqProofs [quC,r0,J.is,U];obtain ⟨I,V⟩:∃I:Nat->qa->AA->Prop,∀j y w',I j y w'↔(y 0=lv/\y 5=lv/\y 6=.int .i64 (xs.length:Int)/\qc w w'/\qd7 (qbh xs j) (xs.drop j)=b):=⟨_,fun _ _ _=>Iff.rfl⟩;refine zH 7 xs.length I (by simp) ((V _ _ _).2 ⟨by simp [r0],by simp,by simp,jd _,E⟩) ?_;clear r0 E;rintro j y w' hj Z ae;obtain ⟨r0,r5,r6,Y,E⟩:=(V _ _ _).1 ae;have aa:IntKind.i64.wrap ((j:Int)+1)=(j:Int)+1:=q7 (by omega);by_cases h:j<xs.length
 ·have o:=(J.ext Y).cell j (by simpa using h);simp only [Jx,qi] at o;rw [uM h] at E;have a:((qJ xs[j] &&(match qbh xs j with|none=>true|some q=>Op.bytesLess q xs[j]))&&qd7 (some xs[j]) (xs.drop (j+1)))=b:=E;have t:qbh xs (j+1)=some xs[j]:=by simp [qbh,h]
  simp -implicitDefEqProofs [qj5,Z,r6,h,quB,r5,J.is,U,o];refine (L01.yp (hG.ext Y) _).mono ?_;rintro _ w2 ⟨rfl,ac⟩;have g:=Y.trans' ac;cases hn:qJ xs[j] with
  |false=>
   rw [hn] at a;simp -implicitDefEqProofs;exact ⟨by rw [<-a];rfl,g⟩
  |true=>
   rw [hn] at a;cases j with
   |zero=>
    simp -implicitDefEqProofs [qj6,Z,h];have ab:IntKind.i64.wrap 1=1:=q7 (by omega);refine ⟨by simpa using ab,(V _ _ _).2 ⟨by simp [r0],by simp [r5],by simp [r6],g, ?_⟩⟩;rw [t];simpa [qbh] using a
   |succ j=>
    have H:qbh xs (j+1)=some (xs[j]'(by omega)):=by
     unfold qbh;rw [q3 (by omega),Nat.add_sub_cancel,uj]
    rw [H] at a;have z:j<xs.length:=by omega
    replace a:((true&&Op.bytesLess (xs[j]'z) xs[j+1])&&qd7 (some xs[j+1]) (xs.drop (j+1+1)))=b:=a
    have c:=(J.ext g).cell j (by simp;omega);simp only [Jx,qi] at c;have S:IntKind.i64.wrap (j:Int)=(j:Int):=q7 (by omega);have O:(0:Int)<(j:Int)+1:=by omega
    cases k:Op.bytesLess (xs[j]'z) xs[j+1] with
    |false=>
     rw [k] at a;simp -implicitDefEqProofs [S,r0,J.is,U,z,c,qaq,qb,O,k];exact ⟨by rw [<-a];rfl,g⟩
    |true=>
     rw [k] at a;simp -implicitDefEqProofs [S,r0,J.is,U,z,c,qaq,qb,O,k,qj6,Z,h];refine ⟨by simpa using aa,(V _ _ _).2 ⟨by simp [r0],by simp [r5],by simp [r6],g, ?_⟩⟩;rw [t];simpa using a
 ·have ad:xs.drop j=[]:=Jk.2 (by omega);rw [ad] at E;simp -implicitDefEqProofs [qj5,Z,r6,h,quA];exact ⟨E.symm,Y⟩
def xU {α:Type} (sz:Nat) (C:List AB->α->Prop) (w:AA) (v:AB) (l:List α):Prop:=∃css:List (List AB),Cells w v sz css.flatten/\jl C css l
def x9 (w:AA) (cs:List AB) (s:Sig):Prop:=∃av sv,cs=[.bool s.iter,av,.string (qb s.result),sv]/\Cells w av 1 (s.args.map qi)/\Cells w sv 1 (s.signals.map qi)
def qbK (w:AA) (cs:List AB) (n:Need):Prop:=∃c,cs=.string (qb n.op)::c/\x9 w c n.sig
def qbJ (w:AA) (cs:List AB) (o:Opn):Prop:=∃c,cs=.string (qb o.name)::c/\x9 w c o.sig
def qbI (w:AA) (cs:List AB) (r:Rout):Prop:=∃c pv ndv,cs=.string (qb r.name)::(c++[pv,ndv])/\x9 w c r.sig/\Cells w pv 1 (r.params.map qi)/\RdN w ndv r.nodes
def qa1 (w:AA) (cs:List AB) (m:Mod):Prop:=∃needv opv rv,cs=[.string (qb m.face.name),.int .u8 (m.face.kind:Int),.bool m.face.param,needv,opv,.string (qb m.rep),rv]/\xU 5 (qbK w) w needv m.face.needs/\xU 5 (qbJ w) w opv m.face.ops/\xU 7 (qbI w) w rv m.routs
section
variable {w w':AA} {cs:List AB} {v:AB}
theorem x9.ext {s:Sig} (h:x9 w cs s) (a:qc w w'):x9 w' cs s:=by
 obtain ⟨c,sv,e,j,g⟩:=h;exact ⟨c,sv,e,j.ext a,g.ext a⟩
theorem qbK.ext {s:Need} (h:qbK w cs s) (a:qc w w'):qbK w' cs s:=by
 obtain ⟨c,e,g⟩:=h;exact ⟨c,e,g.ext a⟩
theorem qbJ.ext {s:Opn} (h:qbJ w cs s) (a:qc w w'):qbJ w' cs s:=by
 obtain ⟨c,e,g⟩:=h;exact ⟨c,e,g.ext a⟩
theorem RdN.ext {l:List Nd} (h:RdN w v l) (a:qc w w'):RdN w' v l:=by
 obtain ⟨xs,e,h⟩:=h;exact ⟨xs,e,h.ext a⟩
theorem qbI.ext {s:Rout} (h:qbI w cs s) (g:qc w w'):qbI w' cs s:=by
 obtain ⟨c,pv,a,e,o,k,j⟩:=h;exact ⟨c,pv,a,e,o.ext g,k.ext g,j.ext g⟩
theorem xU.ext {α:Type} {sz:Nat} {C C':List AB->α->Prop} {l:List α} (h:xU sz C w v l) (k:qc w w') (o:∀c a,C c a->C' c a):xU sz C' w' v l:=by
 obtain ⟨css,j,g⟩:=h;exact ⟨css,j.ext k,g.imp o⟩
theorem qa1.ext {m:Mod} (h:qa1 w cs m) (g:qc w w'):qa1 w' cs m:=by
 obtain ⟨a,b,c,e,o,k,j⟩:=h;exact ⟨a,b,c,e,o.ext g fun _ _ h=>h.ext g,k.ext g fun _ _ h=>h.ext g,j.ext g fun _ _ h=>h.ext g⟩
end
structure SgOk (s:Sig):Prop where
 res:s.result.length<4294967281
 args:∀t∈s.args,t.length<4294967281
 al:s.args.length<=1000000
 sl:s.signals.length<=1000000
def qav (s:Sig):Bool:=((decide (s.result=[])&& !s.iter)||vY s.result)&&decide (s.args.length<=6)&& !(s.args.any fun t=> !vY t)&&decide (s.signals.length<=6)&&qcF s.signals
def qx6 {w:AA} (c:L01.G w) {l:List Bs} (j:∀t∈l,t.length<4294967281):qlf w (qS 211 #[]) l fun t=> !vY t:=by
 refine ⟨211,rfl,by kernel_rfl,fun W g s h=>?_⟩;refine qFT fun ρ r0=>?_;simp -implicitDefEqProofs [qsS,r0];refine (qaF (c.ext g) s (by have:=j s h;omega)).mono ?_;rintro _ w2 ⟨rfl,a⟩;simp -implicitDefEqProofs;exact a
def qx7 {w:AA} (c:L01.G w) {l:List Bs}:qlf w (qS 129 #[]) l fun t=> !qJ t:=by
 refine ⟨129,rfl,by kernel_rfl,fun W g s h=>?_⟩;refine qG8 fun ρ r0=>?_;simp -implicitDefEqProofs [quz,r0];refine (L01.yp (c.ext g) s).mono ?_;rintro _ w2 ⟨rfl,a⟩;simp -implicitDefEqProofs;exact a
def x9.len {w:AA} {cs:List AB} {s:Sig} (h:x9 w cs s):cs.length=4:=by obtain ⟨a,sv,rfl,_⟩:=h;rfl
def sg2:List St:=[.asg none 24 (.ite (.var 3) (.op2 (.ibin .leq .i64) (.op1 .lenS (.op1 .load1 (.op1 (.fadr 1) (.var 1)))) (.const (.int .i64 6))) (.const (.bool false))),
   .asg (some (24,true)) 26 (.op1 .load1 (.op1 (.fadr 1) (.var 1))),
   .eff (some (24,true)) (some 27) (.call {callee:=.value (.func 93),args:=#[(.tmp 26),(.func 211)],argTypes:=#[51,34]}) 4,
   .asg none 36 (.ite (.ite (.var 24) (.op1 .not (.var 27)) (.const (.bool false))) (.op2 (.ibin .leq .i64) (.op1 .lenS (.op1 .load1 (.op1 (.fadr 3) (.var 1)))) (.const (.int .i64 6))) (.const (.bool false))),
   .asg (some (36,true)) 38 (.op1 .load1 (.op1 (.fadr 3) (.var 1))),
   .eff (some (36,true)) (some 39) (.call {callee:=.value (.func 128),args:=#[(.tmp 38)],argTypes:=#[51]}) 4,
   .asg none 2 (.ite (.var 36) (.var 39) (.const (.bool false)))]
def qoo {w:AA} {cs:List AB} {s:Sig} (hG:L01.G w) (h:x9 w cs s) (hs:SgOk s):Calls Tryz.prog 126 #[.agg cs.toArray] w fun e w'=>e=.returned (.bool (qav s))/\qc w w':=by
 obtain ⟨av,sv,rfl,Y,k⟩:=h;have J:qm av=s.args.length:=by simpa using Y.len.symm
 have aa:qm sv=s.signals.length:=by simpa using k.len.symm
 have e0:(⟨#[]⟩:ByteArray)=qb []:=rfl;generalize j:qav s=b;refine qHe fun ρ r0=>?_;have e:quE=.seq (.reg ([.eff none (some 1) (.box 80 (.tmp 0)) 0,
   .asg none 2 (.const (.bool false)),
   .asg none 12 (.ite (.op2 (.sbin .eql) (.op1 .load1 (.op1 (.fadr 2) (.var 1))) (.const (.string ⟨#[]⟩))) (.op1 .not (.op1 .load1 (.op1 (.fadr 0) (.var 1)))) (.const (.bool false))),
   .asg (some (12,false)) 14 (.op1 .load1 (.op1 (.fadr 2) (.var 1))),
   .eff (some (12,false)) (some 15) (.call {callee:=.value (.func 22),args:=#[(.tmp 14)],argTypes:=#[9]}) 4,
   .asg none 3 (.ite (.var 12) (.const (.bool true)) (.var 15))]++sg2)) .ret:=rfl
 rw [e];simp -implicitDefEqProofs only [qlr,qxh,qlq];generalize hK:jr Tryz.prog (qM [.tmp 2] (fun e w'=>e=.returned (.bool b)/\qc w w')) sg2 (IR.ret.wp ⟨Tryz.prog,41,quD,[]⟩ (qz [.tmp 2] (fun e w'=>e=.returned (.bool b)/\qc w w')) (qM [.tmp 2] (fun e w'=>e=.returned (.bool b)/\qc w w')))=K;simp -implicitDefEqProofs;refine vC fun X w1 hX S hb1 _=>?_;have O:Blk w1 X #[.bool s.iter,av,.string (qb s.result),sv] 80:=by simpa [r0,Value.cells,qn Y.is,qn k.is] using hb1
 have cc:∀W,qc w1 W->W.cell? ⟨X,0,none⟩=some (.bool s.iter)/\W.cell? ⟨X,1,none⟩=some av/\W.cell? ⟨X,2,none⟩=some (.string (qb s.result))/\W.cell? ⟨X,3,none⟩=some sv:=fun W U=>by
  have:=O.ext U;exact ⟨by rw [this.cell];rfl,by rw [this.cell];rfl,by rw [this.cell];rfl,by rw [this.cell];rfl⟩
 have c1:=cc w1 (jd _);unfold qav at j;have rest:∀(y:qa) (W:AA),qc w1 W->y 1=.pointer (some ⟨X,0,none⟩)->∀(res:Bool),y 3=.bool res->(res&&decide (s.args.length<=6)&& !(s.args.any fun t=> !vY t)&&decide (s.signals.length<=6)&&qcF s.signals)=b->
   K y W:=by
  intro y W U Z res e3 j;rw [<-hK];unfold sg2;have c:=cc W U;have a:=S.trans' U;cases res with
  |false=>
   simp -implicitDefEqProofs [e3,Z];exact ⟨by rw [<-j];rfl,a⟩
  |true=>
  by_cases h6:s.args.length<=6
  ·have E:(s.args.length:Int)<=6:=by omega
   simp -implicitDefEqProofs [e3,Z,c,Y.is,J,E,h6];refine (qoC (Y.ext a) hs.al (qx6 (hG.ext a) hs.args)).mono ?_;rintro _ w3 ⟨rfl,g⟩;have c3:=cc w3 (U.trans' g);cases z:s.args.any fun t=> !vY t with
   |true=>
    rw [z] at j;simp -implicitDefEqProofs;exact ⟨by rw [<-j];simp,a.trans' g⟩
   |false=>
   by_cases q:s.signals.length<=6
   ·have o:(s.signals.length:Int)<=6:=by omega
    simp -implicitDefEqProofs [Z,c3,k.is,aa,o,q];refine (qoK (hG.ext (a.trans' g)) (k.ext (a.trans' g)) hs.sl).mono ?_;rintro _ w4 ⟨rfl,hE4⟩;simp -implicitDefEqProofs;refine ⟨?_,(a.trans' g).trans' hE4⟩;rw [z] at j;rw [<-j];simp [h6,q]
   ·have o:¬(s.signals.length:Int)<=6:=by omega
    simp -implicitDefEqProofs [Z,c3,k.is,aa,o,q];exact ⟨by rw [<-j];simp [q],a.trans' g⟩
  ·have E:¬(s.args.length:Int)<=6:=by omega
   simp -implicitDefEqProofs [e3,Z,c,Y.is,J,E,h6];exact ⟨by rw [<-j];simp [h6],a⟩
 have V:=hG.ext S;by_cases I:s.result=[]
 ·cases hi:s.iter with
  |false=>
   rw [hi] at c1;simp -implicitDefEqProofs [c1,e0,vv,I];exact rest _ w1 (jd _) (by simp) true (by simp) (by rw [<-j,I,hi];simp)
  |true=>
   rw [hi] at c1;simp -implicitDefEqProofs [c1,e0,vv,I];refine (qaF V _ (by simp)).mono ?_;rintro _ w2 ⟨rfl,H⟩;simp -implicitDefEqProofs;exact rest _ w2 H (by simp) (vY []) (by simp) (by rw [<-j,I,hi];simp)
 ·simp -implicitDefEqProofs [c1,e0,vv,I];refine (qaF V _ (by have:=hs.res;omega)).mono ?_;rintro _ w2 ⟨rfl,H⟩;simp -implicitDefEqProofs;exact rest _ w2 H (by simp) (vY s.result) (by simp) (by rw [<-j];simp [I])
def x9.row {w:AA} {cs:List AB} {s:Sig} (h:x9 w cs s):∀c∈cs,c.cells=#[c]/\c.oneCell=true:=by
 obtain ⟨k,sv,rfl,j,a⟩:=h;intro c g;simp only [ug,uN,uQ] at g;rcases g with rfl|rfl|rfl|rfl
 ·exact ⟨rfl,rfl⟩
 ·exact ⟨qn j.is,jf j.is⟩
 ·exact ⟨rfl,rfl⟩
 ·exact ⟨qn a.is,jf a.is⟩
def qBe {w:AA} {cs ds:List AB} {s t:Sig} (h:x9 w cs s) (h':x9 w ds t) (hs:SgOk s):Calls Tryz.prog 130 #[.agg cs.toArray,.agg ds.toArray] w fun e w'=>e=.returned (.bool (decide (s=t)))/\qc w w':=by
 obtain ⟨av,sv,rfl,ha,E⟩:=h;obtain ⟨S,z,rfl,J,j⟩:=h';generalize hb:decide (s=t)=b;have U:s.iter=t.iter->s.result=t.result->s.args=t.args->s.signals=t.signals->b=true:=fun k y o q=>by
  rw [<-hb];refine decide_eq_true ?_;cases s;cases t;simp only at k y o q;subst k;subst y;subst o;subst q;rfl
 have g:s≠t->b=false:=fun h=>by rw [<-hb];exact decide_eq_false h
 refine qG6 fun ρ r0 r1=>?_;simp -implicitDefEqProofs [quy];refine vC fun X w1 hX V aa _=>?_;have I:Blk w1 X #[.bool s.iter,av,.string (qb s.result),sv] 80:=by simpa [r0,Value.cells,qn ha.is,qn E.is] using aa
 simp -implicitDefEqProofs;refine vC fun Y w2 hY O hb2 _=>?_;have H:Blk w2 Y #[.bool t.iter,S,.string (qb t.result),z] 80:=by simpa [r1,Value.cells,qn J.is,qn j.is] using hb2
 have cX:∀W,qc w2 W->W.cell? ⟨X,0,none⟩=some (.bool s.iter)/\W.cell? ⟨X,1,none⟩=some av/\W.cell? ⟨X,2,none⟩=some (.string (qb s.result))/\W.cell? ⟨X,3,none⟩=some sv:=fun W Z=>by
  have:=(I.ext O).ext Z;exact ⟨by rw [this.cell];rfl,by rw [this.cell];rfl,by rw [this.cell];rfl,by rw [this.cell];rfl⟩
 have cY:∀W,qc w2 W->W.cell? ⟨Y,0,none⟩=some (.bool t.iter)/\W.cell? ⟨Y,1,none⟩=some S/\W.cell? ⟨Y,2,none⟩=some (.string (qb t.result))/\W.cell? ⟨Y,3,none⟩=some z:=fun W Z=>by
  have:=H.ext Z;exact ⟨by rw [this.cell];rfl,by rw [this.cell];rfl,by rw [this.cell];rfl,by rw [this.cell];rfl⟩
 have a:=V.trans' O;have x2:=cX w2 (jd _);have y2:=cY w2 (jd _);by_cases k:s.iter=t.iter
 ·by_cases y:s.result=t.result
  ·simp -implicitDefEqProofs [x2,y2,k,y];refine (qoz (ha.ext a) (J.ext a) (by have:=hs.al;omega)).mono ?_;rintro _ w3 ⟨rfl,c⟩;have x3:=cX w3 c;have y3:=cY w3 c;by_cases o:s.args=t.args
   ·simp -implicitDefEqProofs [x3,y3,o];refine (qoz (E.ext (a.trans' c)) (j.ext (a.trans' c)) (by have:=hs.sl;omega)).mono ?_;rintro _ w4 ⟨rfl,hE4⟩;simp -implicitDefEqProofs;refine ⟨?_,(a.trans' c).trans' hE4⟩;by_cases q:s.signals=t.signals
    ·rw [U k y o q];simpa using q
    ·rw [g fun e=>q (by rw [e])];simpa using q
   ·simp -implicitDefEqProofs [x3,y3,o];exact ⟨g fun e=>o (by rw [e]),a.trans' c⟩
  ·simp -implicitDefEqProofs [x2,y2,k,vv,y];exact ⟨g fun e=>y (by rw [e]),a⟩
 ·simp -implicitDefEqProofs [x2,y2,k];exact ⟨g fun e=>k (by rw [e]),a⟩
def qvl {α:Type} {sz:Nat}:∀{css:List (List α)},(∀c∈css,c.length=sz)->∀{k j:Nat} (a:k<css.length),j<sz->css.flatten[k*sz+j]? =css[k][j]?
 |[],_,k,_,a,_=>by simp at a
 |c::css,h,k,j,a,g=>by
  have q:=h c (by simp);rw [List.flatten_cons];cases k with
  |zero=>rw [JK (by omega)];simp
  |succ k=>
   have e:(k+1)*sz+j=c.length+(k*sz+j):=by rw [Nat.succ_mul];omega
   rw [e,JL (by omega),Vf];simpa using qvl (css:=css) (fun d o=>h d (by simp [o])) (k:=k) (by simpa using a) g
section
variable {α:Type} {sz:Nat} {C:List AB->α->Prop} {w:AA} {v:AB} {l:List α}
theorem xU.is (h:xU sz C w v l):qA v=true:=by obtain ⟨css,a,_⟩:=h;exact a.is
theorem xU.len (h:xU sz C w v l) (t:∀c a,C c a->c.length=sz) (k:0<sz):qm v=l.length:=by
 obtain ⟨css,q,g⟩:=h;have o:=Q8 (n:=sz) (jl.left (P:=fun c=>c.length=sz) t g);have j:=q.len;rw [o,g.len] at j;exact (Nat.eq_of_mul_eq_mul_right k j).symm
theorem xU.at (h:xU sz C w v l) (O:∀c a,C c a->c.length=sz) {k:Nat} (S:k<l.length):∃c,C c l[k]/\c.length=sz/\Eng.q4 w (qN v (k*sz)) 0 sz=some c/\∀j,j<sz->w.cell? (qN v (k*sz+j))=c[j]? :=by
 obtain ⟨css,J,y⟩:=h;have g:=jl.left (P:=fun c=>c.length=sz) O y;have I:=y.len;have q:k<css.length:=by omega
 have o:∀j,j<sz->w.cell? (qN v (k*sz+j))=css[k][j]? :=fun j E=>by
  have H:=Q8 (n:=sz) g;have t:k*sz+j<css.flatten.length:=by
   rw [H];have:(k+1)*sz<=css.length*sz:=JT _ q;rw [Nat.succ_mul] at this;omega
  rw [J.cell _ t,<-uj t,qvl g q E]
 refine ⟨css[k],y.get k q S,g _ (uo _), ?_,o⟩;have z:=g _ (uo q);have:=wE (w:=w) (a:=qN v (k*sz)) (l:=css[k]) (i:=0) fun j E=>by
  rw [qba,ur,o j (by omega),uj E]
 rw [z] at this;exact this
end
def qbK.len {w:AA} {c:List AB} {n:Need} (h:qbK w c n):c.length=5:=by obtain ⟨c,rfl,h⟩:=h;simp [h.len]
def qbJ.len {w:AA} {c:List AB} {n:Opn} (h:qbJ w c n):c.length=5:=by obtain ⟨c,rfl,h⟩:=h;simp [h.len]
def qbI.len {w:AA} {c:List AB} {n:Rout} (h:qbI w c n):c.length=7:=by obtain ⟨c,pv,a,rfl,h,_⟩:=h;simp [h.len]
def qdF (l:List Need):Bool:=l.all fun n=>qav n.sig
def qbn (ops:List Opn) (i:Nat) (r:Rout):Bool:=match ops[i]? with|none=>true|some o=>decide (o.name=r.name)&&decide (o.sig=r.sig)
def qb3 (names:List Bs) (r:Rout):Bool:= !names.contains r.name&&qJ r.name&&qav r.sig&&decide (r.params.length=r.sig.args.length)&& !(r.params.any fun s=> !qJ s)&&qgk r.nodes
def yx (ops:List Opn):List Bs->Nat->List Rout->Bool
 |_,_,[]=>true
 |names,i,r::rs=>qb3 names r&&qbn ops i r&&yx ops (names++[r.name]) (i+1) rs
def Qg (m:Mod):Bool:=(decide (1<=m.face.kind)&&decide (m.face.kind<=3))&&qJ m.face.name&&decide (m.face.needs.length<=4)&&qcF (m.face.needs.map (·.op))&&(decide (1<=m.routs.length)&&decide (m.routs.length<=20))&&decide (m.face.ops.length<=m.routs.length)
def kK (m:Mod):Bool:=if m.face.kind=3 then decide (0<m.face.ops.length)&&vY m.rep
 else match m.routs with|[r]=>decide (m.face.ops.length=1)&&decide (r.name=m.face.name)&&decide (m.rep=[])&&(r.sig.iter==decide (m.face.kind=2))|_=>false
def Q7 (m:Mod):Bool:=qdF m.face.needs&&Qg m&&yx m.face.ops [] 0 m.routs&&kK m
structure MdOk (m:Mod):Prop where
 kind:m.face.kind<256
 rep:m.rep.length<4294967281
 needs:∀n∈m.face.needs,SgOk n.sig
 nl:m.face.needs.length<=1000000
 ops:∀o∈m.face.ops,SgOk o.sig
 ol:m.face.ops.length<=1000000
 routs:∀r∈m.routs,SgOk r.sig/\r.params.length<=1000000/\NOk r.nodes
 rl:m.routs.length<=1000000
structure FmS (w W:AA) (m:Mod) (X F:Nat) (needv opv rv:AB):Prop where
 ext:qc w W
 bX:Blk W X #[.string (qb m.face.name),.int .u8 (m.face.kind:Int),.bool m.face.param,needv,opv,.string (qb m.rep),rv] 66
 bF:Blk W F #[.string (qb m.face.name),.int .u8 (m.face.kind:Int),.bool m.face.param,needv,opv] 63
 needs:xU 5 (qbK W) W needv m.face.needs
 ops:xU 5 (qbJ W) W opv m.face.ops
 routs:xU 7 (qbI W) W rv m.routs
 g:L01.G W
 m:xI W
structure FmK (ρ:qa) (X F:Nat):Prop where
 r1:ρ 1=.pointer (some ⟨X,0,none⟩)
 r3:ρ 3=.pointer (some ⟨F,0,none⟩)
section
variable {w W W':AA} {m:Mod} {X F:Nat} {needv opv rv:AB} {ρ:qa} {b:Bool}
theorem FmS.to (h:FmS w W m X F needv opv rv) (a:qc W W'):FmS w W' m X F needv opv rv:=
 ⟨h.ext.trans' a,h.bX.ext a,h.bF.ext a,h.needs.ext a fun _ _ h=>h.ext a,h.ops.ext a fun _ _ h=>h.ext a,h.routs.ext a fun _ _ h=>h.ext a,h.g.ext a,h.m.ext a⟩
theorem FmS.cX (h:FmS w W m X F needv opv rv):W.cell? ⟨X,5,none⟩=some (.string (qb m.rep))/\W.cell? ⟨X,6,none⟩=some rv:=⟨by rw [h.bX.cell];rfl,by rw [h.bX.cell];rfl⟩
theorem FmS.cF (h:FmS w W m X F needv opv rv):W.cell? ⟨F,0,none⟩=some (.string (qb m.face.name))/\W.cell? ⟨F,1,none⟩=some (.int .u8 (m.face.kind:Int))/\W.cell? ⟨F,3,none⟩=some needv/\W.cell? ⟨F,4,none⟩=some opv:=⟨by rw [h.bF.cell];rfl,by rw [h.bF.cell];rfl,by rw [h.bF.cell];rfl,by rw [h.bF.cell];rfl⟩
theorem FmS.rl (h:FmS w W m X F needv opv rv):qm rv=m.routs.length:=h.routs.len (fun _ _ h=>h.len) (by decide)
theorem FmS.ol (h:FmS w W m X F needv opv rv):qm opv=m.face.ops.length:=h.ops.len (fun _ _ h=>h.len) (by decide)
theorem FmS.nl (h:FmS w W m X F needv opv rv):qm needv=m.face.needs.length:=h.needs.len (fun _ _ h=>h.len) (by decide)
theorem qHO (hm:MdOk m) (h:FmS w W m X F needv opv rv) (a:FmK ρ X F) (t:kK m=b):qdO.wp ⟨Tryz.prog,193,qfu,[]⟩ (qz [.tmp 2] (RB w b)) (qM [.tmp 2] (RB w b)) ρ W:=by
 obtain ⟨Y,Z⟩:=h.cX;obtain ⟨f0,J,f3,I⟩:=h.cF;have e0:(⟨#[]⟩:ByteArray)=qb []:=rfl;have o:=h.ol;have z:=h.rl;by_cases hk:m.face.kind=3
 ·have ht:kK m=(decide (0<m.face.ops.length)&&vY m.rep):=by unfold kK;rw [j0 hk]
  rw [ht] at t;by_cases ho:0<m.face.ops.length
  ·have H:(0:Int)<(m.face.ops.length:Int):=by omega
   simp -implicitDefEqProofs [qdO,a.r3,a.r1,J,hk,I,h.ops.is,o,H,ho,Y];refine (qaF h.g _ (by have:=hm.rep;omega)).mono ?_;rintro _ w2 ⟨rfl,j⟩;simp -implicitDefEqProofs [RB];exact ⟨by rw [<-t];simp [ho],h.ext.trans' j⟩
  ·have H:¬(0:Int)<(m.face.ops.length:Int):=by omega
   simp -implicitDefEqProofs [qdO,a.r3,a.r1,J,hk,I,h.ops.is,o,H,ho,Y,RB];exact ⟨by rw [<-t];simp [ho],h.ext⟩
 ·have hk':¬(m.face.kind:Int)=3:=by omega
  have ht:kK m=(match m.routs with|[r]=>decide (m.face.ops.length=1)&&decide (r.name=m.face.name)&&decide (m.rep=[])&&(r.sig.iter==decide (m.face.kind=2))|_=>false):=by unfold kK;rw [q3 hk]
  rw [ht] at t;simp -implicitDefEqProofs [qdO,a.r3,J,hk',hk,qqi,qqe];by_cases E:m.routs.length=1
  ·obtain ⟨r,hr⟩:∃r,m.routs=[r]:=List.length_eq_one_iff.1 E;rw [hr] at t
   replace t:(decide (m.face.ops.length=1)&&decide (r.name=m.face.name)&&decide (m.rep=[])&&(r.sig.iter==decide (m.face.kind=2)))=b:=t
   have q:(m.routs.length:Int)=1:=by omega
   obtain ⟨c,hc,hcl,hcr,U⟩:=h.routs.at (fun _ _ h=>h.len) (k:=0) (by omega);have S:m.routs[0]'(by omega)=r:=by simp [hr]
   rw [S] at hc;obtain ⟨cs,pv,ndv,rfl,⟨av,sv,rfl,_⟩,_⟩:=hc;have n0:W.cell? (qN rv 0)=some (.string (qb r.name)):=by simpa using U 0 (by decide)
   have n1:W.cell? (qN rv 1)=some (.bool r.sig.iter):=by simpa using U 1 (by decide)
   by_cases O:m.face.ops.length=1
   ·have y:(m.face.ops.length:Int)=1:=by omega
    by_cases V:r.name=m.face.name
    ·by_cases h4:m.rep=[]
     ·simp -implicitDefEqProofs [a.r1,a.r3,Z,h.routs.is,z,q,E,I,h.ops.is,o,y,O,n0,n1,f0,J,Y,e0,V,h4];intro w2 j;refine ⟨?_,h.ext.trans' j⟩;rw [<-t,O,V,h4];simp;congr 1;rw [uR];simp;omega
     ·simp -implicitDefEqProofs [a.r1,a.r3,Z,h.routs.is,z,q,E,I,h.ops.is,o,y,O,n0,n1,f0,J,Y,e0,V,vv,h4];intro w2 j;exact ⟨by rw [<-t];simp [h4],h.ext.trans' j⟩
    ·simp -implicitDefEqProofs [a.r1,a.r3,Z,h.routs.is,z,q,E,I,h.ops.is,o,y,O,n0,n1,f0,J,Y,e0,vv,V];intro w2 j;exact ⟨by rw [<-t];simp [V],h.ext.trans' j⟩
   ·have y:¬(m.face.ops.length:Int)=1:=by omega
    simp -implicitDefEqProofs [a.r1,a.r3,Z,h.routs.is,z,q,E,I,h.ops.is,o,y,O];intro w2 j;exact ⟨by rw [<-t];simp [O],h.ext.trans' j⟩
  ·have q:¬(m.routs.length:Int)=1:=by omega
   have hbf:b=false:=by
    rw [<-t]
    match hr:m.routs with
    |[]=>rfl
    |[r]=>rw [hr] at E;simp at E
    |_::_::_=>rfl
   simp -implicitDefEqProofs [a.r1,a.r3,Z,h.routs.is,z,q,E];intro w2 j;exact ⟨by rw [hbf],h.ext.trans' j⟩
end
def QU (names:List Bs):List (ByteArray×AB):=names.map fun s=>(qb s,.bool true)
theorem qCQ (a:List Bs) (s:Bs):(vg (QU a) (qb s)).getD (.bool false)=.bool (a.contains s):=by
 unfold vg QU
 induction a with
 |nil=>rfl
 |cons t l c=>
  by_cases h:t=s
  ·subst h;simp
  ·have j:¬qb t=qb s:=by rw [vv];exact h
   have g:¬s=t:=fun e=>h e.symm;rw [List.map_cons,List.find?_cons];simp only [j,decide_false];rw [c];simp [g]
theorem qze {a:List Bs} {s:Bs} (h:a.contains s=false):vu (QU a) (qb s) (.bool true)=QU (a++[s]):=by
 unfold QU
 induction a with
 |nil=>rfl
 |cons t l c=>
  simp only [List.contains_cons,uZ] at h;have g:¬qb t=qb s:=by
   rw [vv];intro e;subst e;simp at h
  rw [List.map_cons,List.cons_append,List.map_cons];simp only [vu,g,ud];rw [c h.2]
def qIO {w:AA} {Mb:Nat} {ps:List (ByteArray×AB)} (h:MapB w Mb ps) (a:Addr) (j:a.block=Mb):w.cell? a=none:=by
 obtain ⟨es,c,g,_⟩:=h.ex;subst j;unfold World.cell?;rw [g]
def qIN {w w':AA} {Mb:Nat} {ps:List (ByteArray×AB)} (h:MapB w Mb ps) (j:Only Mb w w') {a:Addr} {v:AB} (c:w.cell? a=some v):w'.cell? a=some v:=by
 have g:a.block≠Mb:=fun e=>by rw [qIO h a e] at c;cases c
 rw [<-c];unfold World.cell?;rw [j.block a.block g]
def Cells.map {w w':AA} {Mb:Nat} {ps:List (ByteArray×AB)} {v:AB} {sz:Nat} {xs:List AB} (h:Cells w v sz xs) (g:MapB w Mb ps) (a:Only Mb w w'):Cells w' v sz xs:=⟨h.is,h.len,fun j c=>qIN g a (h.cell j c)⟩
theorem qlF:Tryz.prog.underlying 144=some (.map 9 4):=by kernel_rfl
theorem un9:Tryz.prog.underlying 9=some .string:=by kernel_rfl
theorem in4:((Tryz.prog.info? 4).bind fun i=>i.zero)=some (.bool false):=by kernel_rfl
theorem qw3:jU Tryz.prog 82=some #[.string (qb []),.bool false,.slice none 0 0,.string (qb []),.slice none 0 0,.slice none 0 0,.slice none 0 0]:=by kernel_rfl
theorem z63:jU Tryz.prog 63=some #[.string (qb []),.int .u8 0,.bool false,.slice none 0 0,.slice none 0 0]:=by kernel_rfl
theorem qyx:jh Tryz.prog 82 7=true:=by kernel_rfl
theorem qyG:jh Tryz.prog 132 5=true:=by kernel_rfl
theorem qyz:jh Tryz.prog 63 5=true:=by kernel_rfl
def qhO {w:AA} {X o:Nat} {a b c d:AB} (h:∀j,j<4->w.cell? ⟨X,o+j,none⟩=[a,b,c,d][j]?):Eng.q4 w ⟨X,o,none⟩ 0 4=some [a,b,c,d]:=by
 have:=wE (w:=w) (a:=⟨X,o,none⟩) (l:=[a,b,c,d]) (i:=0) fun j g=>by
  have:=h j g;rw [zD,ur,this,uj g]
 exact this
section
variable {w w0 W W':AA} {m:Mod} {X F:Nat} {needv opv rv:AB} {ρ:qa} {b:Bool}
theorem qHP (hm:MdOk m) (h:FmS w W m X F needv opv rv) (t:FmK ρ X F) (hb:(yx m.face.ops [] 0 m.routs&&kK m)=b):qiO.wp ⟨Tryz.prog,193,qfu,[]⟩ (qz [.tmp 2] (RB w b)) (qM [.tmp 2] (RB w b)) ρ W:=by
 obtain ⟨x5,x6⟩:=h.cX;have hrl:=h.rl;simp -implicitDefEqProofs [qiO];refine qf9 fun Mb w1 hMb hE1 hmb _=>?_;have h1:=h.to hE1;obtain ⟨_,y6⟩:=h1.cX;simp -implicitDefEqProofs [t.r1,y6,h.routs.is,hrl];obtain ⟨I,hI⟩:∃I:Nat->qa->AA->Prop,∀j ρ' w',I j ρ' w'↔(FmK ρ' X F/\ρ' 7=.map (some Mb)/\ρ' 68=rv/\ρ' 69=.int .i64 (m.routs.length:Int)/\qc W w'/\∃k:List Bs,MapB w' Mb (QU k)/\(yx m.face.ops k j (m.routs.drop j)&&kK m)=b):=⟨_,fun _ _ _=>Iff.rfl⟩;refine zH 70 m.routs.length I (by simp) ((hI _ _ _).2 ⟨⟨by simp [t.r1],by simp [t.r3]⟩,by simp,by simp,by simp,hE1,[],hmb,hb⟩) ?_;clear t hb hmb y6 x5 x6;rintro j ρ' w' hj rj hIw;obtain ⟨t,r7,r68,r69,hEW,k,hmb,hb⟩:=(hI _ _ _).1 hIw;have hwj:IntKind.i64.wrap ((j:Int)+1)=(j:Int)+1:=q7 (by have:=hm.rl;omega);have hs:=h.to hEW;by_cases hlt:j<m.routs.length
 ·have hlt':(j:Int)<(m.routs.length:Int):=by omega
  obtain ⟨c,hc,hcl,hcr,hcc⟩:=hs.routs.at (fun _ _ h=>h.len) hlt;have hro:=hm.routs m.routs[j] (uo _);rw [uM hlt] at hb;generalize m.routs[j]=r at hc hro hb;have hb':((qb3 k r&&qbn m.face.ops j r&&yx m.face.ops (k++[r.name]) (j+1) (m.routs.drop (j+1)))&&kK m)=b:=hb;obtain ⟨sg,pv,ndv,rfl,hsg,S,hnd⟩:=hc;obtain ⟨av,sv,rfl,ha,V⟩:=hsg;have hsg':x9 w' [.bool r.sig.iter,av,.string (qb r.sig.result),sv] r.sig:=⟨av,sv,rfl,ha,V⟩;obtain ⟨ys,hnl,hrd⟩:=hnd;have hpl:qm pv=r.params.length:=by simpa using S.len.symm
  have hal:qm av=r.sig.args.length:=by simpa using ha.len.symm
  simp only [List.cons_append,List.nil_append] at hcr;simp -implicitDefEqProofs [qiK,rj,r69,hlt',hlt,qqf,r68,h.routs.is,hrl,hcr];refine qQ qw3 fun Y w2 hY hE2 hb2 _=>?_;simp -implicitDefEqProofs;refine jg (B:=Y) (by simp) hb2 (by simp [Value.cells,qn S.is,qn ha.is,qn V.is,qn hrd.cells.is]) ?_ (by simpa [Value.cells,qn S.is,qn ha.is,qn V.is,qn hrd.cells.is] using qyx) fun w3 hO3 hb3=>?_
  ·simp [Value.cells,qn S.is,qn ha.is,qn V.is,qn hrd.cells.is,jf S.is,jf ha.is,jf V.is,jf hrd.cells.is]
  simp -implicitDefEqProofs [Value.cells,qn S.is,qn ha.is,qn V.is,qn hrd.cells.is] at hb3;have E:qc w' w3:=hO3.ext hE2 hY;have cY:∀W',qc w3 W'->W'.cell? ⟨Y,0,none⟩=some (.string (qb r.name))/\W'.cell? ⟨Y,2,none⟩=some av/\W'.cell? ⟨Y,5,none⟩=some pv/\W'.cell? ⟨Y,6,none⟩=some ndv/\Eng.q4 W' ⟨Y,1,none⟩ 0 4=some [.bool r.sig.iter,av,.string (qb r.sig.result),sv]:=fun W' hE=>by
   have hb:=hb3.ext hE;refine ⟨by rw [hb.cell];rfl,by rw [hb.cell];rfl,by rw [hb.cell];rfl,by rw [hb.cell];rfl,qhO fun j hj=>?_⟩;rw [hb.cell]
   match j,hj with
   |0,_=>rfl
   |1,_=>rfl
   |2,_=>rfl
   |3,_=>rfl
  have c3:=cY w3 (jd _);have hm3:=hmb.ext E;have hWW:∀{w4:AA},qc w3 w4->qc w w4:=fun hE=>(hs.ext.trans' E).trans' hE;have hG:∀{w4:AA},qc w3 w4->L01.G w4:=fun hE=>hs.g.ext (E.trans' hE);have bad:qb3 k r=false->b=false:=fun e=>by rw [<-hb',e];rfl
  unfold qb3 at bad;simp -implicitDefEqProofs [r7,c3];refine qga (ps:=QU k) (s:=qb r.name) qlF un9 in4 (by simp) (by simp) hm3 false ?_;rw [qCQ];cases hn:k.contains r.name with
  |true=>
   have y:=bad (by rw [hn];rfl);simp -implicitDefEqProofs;exact ⟨by rw [y],hWW (jd _)⟩
  |false=>
  simp -implicitDefEqProofs [c3];refine (L01.yp (hG (jd _)) _).mono ?_;rintro _ w4 ⟨rfl,hE4⟩;have c4:=cY w4 hE4;cases hi:qJ r.name with
  |false=>
   have y:=bad (by rw [hn,hi];rfl);simp -implicitDefEqProofs;exact ⟨by rw [y],hWW hE4⟩
  |true=>
  simp -implicitDefEqProofs [c4];refine (qoo (hG hE4) ((hsg'.ext E).ext hE4) hro.1).mono ?_;rintro _ w5 ⟨rfl,hE5⟩;have J:=hE4.trans' hE5;have c5:=cY w5 J;cases hsb:qav r.sig with
  |false=>
   have y:=bad (by rw [hn,hi,hsb];rfl);simp -implicitDefEqProofs;exact ⟨by rw [y],hWW J⟩
  |true=>
  by_cases hpa:r.params.length=r.sig.args.length
  ·simp -implicitDefEqProofs [c5,S.is,ha.is,hpl,hal,hpa];refine (qoC ((S.ext E).ext J) hro.2.1 (qx7 (hG J))).mono ?_;rintro _ w6 ⟨rfl,hE6⟩;have H:=J.trans' hE6;have c6:=cY w6 H;cases hany:r.params.any fun s=> !qJ s with
   |true=>
    have y:=bad (by rw [hn,hi,hsb,hany];simp);simp -implicitDefEqProofs;exact ⟨by rw [y],hWW H⟩
   |false=>
   simp -implicitDefEqProofs [c6];refine (qBX (hG H) (hs.m.ext (E.trans' H)) ((hrd.ext E).ext H) (hro.2.2.ds hnl) (hro.2.2.kl hnl)).mono ?_;rintro _ w7 ⟨rfl,hE7⟩;rw [hnl];have z:=H.trans' hE7;have c7:=cY w7 z;cases hcn:qgk r.nodes with
   |false=>
    have y:=bad (by rw [hn,hi,hsb,hany,hcn];simp);simp -implicitDefEqProofs;exact ⟨by rw [y],hWW z⟩
   |true=>
   have hok:qb3 k r=true:=by unfold qb3;rw [hn,hi,hsb,hany,hcn];simp [hpa]
   rw [hok] at hb';simp -implicitDefEqProofs [qqg,r7,c7];refine qf8 (ps:=QU k) (s:=qb r.name) qlF un9 (by simp) (by simp) (hm3.ext z) fun w8 hO8 hm8=>?_;have hm8':MapB w8 Mb (QU (k++[r.name])):=by rw [<-qze hn];simpa using hm8
   have ab:qc W w8:=hO8.ext ((hEW.trans' E).trans' z) hMb;have hs8:=h.to ab;obtain ⟨f0,f1,f3,f4⟩:=hs8.cF;have hol:=hs8.ol;have hMY:Y≠Mb:=by have:=hmb.lt;omega
   have cont:∀(Z:qa) (w9:AA),qc w8 w9->Z 1=.pointer (some ⟨X,0,none⟩)->Z 3=.pointer (some ⟨F,0,none⟩)->Z 7=.map (some Mb)->Z 68=rv->Z 69=.int .i64 (m.routs.length:Int)->qbn m.face.ops j r=true->I (j+1) Z w9:=fun Z w9 hE a1 a3 a7 a68 a69 U=>
    (hI _ _ _).2 ⟨⟨a1,a3⟩,a7,a68,a69,ab.trans' hE,k++[r.name],hm8'.ext hE,by rw [U] at hb';simpa using hb'⟩
   have hb8:=hO8.blk (hb3.ext z) hMY;have hsg8:x9 w8 [.bool r.sig.iter,av,.string (qb r.sig.result),sv] r.sig:=⟨av,sv,rfl,Cells.map ((ha.ext E).ext z) (hm3.ext z) hO8,Cells.map ((V.ext E).ext z) (hm3.ext z) hO8⟩;have y0:w8.cell? ⟨Y,0,none⟩=some (.string (qb r.name)):=by rw [hb8.cell];rfl
   have y1:Eng.q4 w8 ⟨Y,1,none⟩ 0 4=some [.bool r.sig.iter,av,.string (qb r.sig.result),sv]:=qhO fun j hj=>by
    rw [hb8.cell]
    match j,hj with
    |0,_=>rfl
    |1,_=>rfl
    |2,_=>rfl
    |3,_=>rfl
   by_cases hjo:j<m.face.ops.length
   ·have ac:(j:Int)<(m.face.ops.length:Int):=by omega
    obtain ⟨oc,hoc,_,_,hocc⟩:=hs8.ops.at (fun _ _ h=>h.len) hjo;have hoo:=hm.ops m.face.ops[j] (uo _);have U:qbn m.face.ops j r=(decide (m.face.ops[j].name=r.name)&&decide (m.face.ops[j].sig=r.sig)):=by unfold qbn;rw [uj hjo]
    generalize m.face.ops[j]=o at hoc hoo U;obtain ⟨os,rfl,av',sv',rfl,ha',hsv'⟩:=hoc;have o0:w8.cell? (qN opv (j*5))=some (.string (qb o.name)):=by simpa using hocc 0 (by decide)
    have o1:Eng.q4 w8 (qN opv (j*5+1)) 0 4=some [.bool o.sig.iter,av',.string (qb o.sig.result),sv']:=by
     have:=wE (w:=w8) (a:=qN opv (j*5+1)) (l:=[.bool o.sig.iter,av',.string (qb o.sig.result),sv']) (i:=0) fun q hq=>by
      have hq4:q<4:=hq;rw [qba,ur,uB,hocc (1+q) (by omega)]
      match q,hq4 with
      |0,_=>rfl
      |1,_=>rfl
      |2,_=>rfl
      |3,_=>rfl
     exact this
    have hsgo:x9 w8 [.bool o.sig.iter,av',.string (qb o.sig.result),sv'] o.sig:=⟨av',sv',rfl,ha',hsv'⟩;by_cases hnm:o.name=r.name
    ·simp -implicitDefEqProofs [-jj,xr,xu,xq,t.r3,t.r1,f4,h.ops.is,hol,ac,hjo,o0,o1,y0,y1,hnm];refine qb5 (.bool (decide (o.sig=r.sig))) qIR (fun w9 hw9=>?_) ?_
     ·simp;refine (qBe (hsgo.ext hw9) (hsg8.ext hw9) hoo).mono ?_;rintro _ w10 ⟨rfl,hE10⟩;exact ⟨rfl,hw9.trans' hE10⟩
     by_cases O:o.sig=r.sig
     ·simp -implicitDefEqProofs [-jj,xr,xu,xq,O];intro w9 aa;simp -implicitDefEqProofs [qdN,qiM,rj,hwj,hlt];exact cont _ w9 aa (by simp [t.r1]) (by simp [t.r3]) (by simp [r7]) (by simp [r68]) (by simp [r69]) (by rw [U];simp [hnm,O])
     ·have y:b=false:=by rw [<-hb',U];simp [O]
      simp -implicitDefEqProofs [-jj,xr,xu,xq,O];intro w9 aa;simp -implicitDefEqProofs [qdN];exact ⟨by rw [y],(h.ext.trans' ab).trans' aa⟩
    ·have y:b=false:=by rw [<-hb',U];simp [hnm]
     simp -implicitDefEqProofs [-jj,xr,xu,xq,t.r3,t.r1,f4,h.ops.is,hol,ac,hjo,o0,y0,vv,hnm];intro w9 aa;simp -implicitDefEqProofs [qdN];exact ⟨by rw [y],(h.ext.trans' ab).trans' aa⟩
   ·have ac:¬(j:Int)<(m.face.ops.length:Int):=by omega
    have U:qbn m.face.ops j r=true:=by unfold qbn;rw [yt (by omega)]
    simp -implicitDefEqProofs [-jj,xr,xu,xq,t.r3,f4,h.ops.is,hol,ac,hjo];intro w9 aa;simp -implicitDefEqProofs [qdN,qiM,rj,hwj,hlt];exact cont _ w9 aa (by simp [t.r1]) (by simp [t.r3]) (by simp [r7]) (by simp [r68]) (by simp [r69]) U
  ·have hpa':¬(r.params.length:Int)=(r.sig.args.length:Int):=by omega
   have y:=bad (by rw [hn,hi,hsb];simp [hpa]);simp -implicitDefEqProofs [c5,S.is,ha.is,hpl,hal,hpa];exact ⟨by rw [y],hWW J⟩
 ·have hd0:m.routs.drop j=[]:=Jk.2 (by omega);rw [hd0] at hb;have hb2:kK m=b:=by simpa [yx] using hb
  simp -implicitDefEqProofs [qiK,rj,r69,hlt];exact qHO hm hs ⟨by simp [t.r1],by simp [t.r3]⟩ hb2
end
section
variable {w w0 W W':AA} {m:Mod} {X F:Nat} {needv opv rv nsv:AB} {ρ:qa} {b:Bool}
theorem qHR (hm:MdOk m) (h:FmS w W m X F needv opv rv) (c:FmK ρ X F) (r4:ρ 4=nsv) (y:Cells W nsv 1 ((m.face.needs.map (·.op)).map qi)) (hb:(Qg m&&(yx m.face.ops [] 0 m.routs&&kK m))=b):qiN.wp ⟨Tryz.prog,193,qfu,[]⟩ (qz [.tmp 2] (RB w b)) (qM [.tmp 2] (RB w b)) ρ W:=by
 obtain ⟨f0,f1,f3,f4⟩:=h.cF;have z:qm nsv=m.face.needs.length:=by simpa using y.len.symm
 have hkk:=hm.kind;have bad:Qg m=false->b=false:=fun e=>by rw [<-hb,e];rfl
 unfold Qg at bad;have j:∀{w4:AA},qc W w4->qc w w4:=fun hE=>h.ext.trans' hE;simp -implicitDefEqProofs [qiN,c.r3,f1,k8 hkk];refine (qbl W _ 1 3).mono ?_;rintro _ w1' ⟨rfl,hw1⟩;obtain rfl:=hw1;have hin:((decide (1<=(m.face.kind:Int))&&decide ((m.face.kind:Int)<=3)):Bool)=(decide (1<=m.face.kind)&&decide (m.face.kind<=3)):=by
  congr 1<;>exact Jh.2 (by omega)
 rw [hin];cases J:(decide (1<=m.face.kind)&&decide (m.face.kind<=3)) with
 |false=>
  have a:=bad (by rw [J];rfl);simp -implicitDefEqProofs;exact ⟨by rw [a],j (jd _)⟩
 |true=>
 simp -implicitDefEqProofs [c.r3,f0];refine (L01.yp h.g _).mono ?_;rintro _ w2 ⟨rfl,o⟩;have h2:=h.to o;cases S:qJ m.face.name with
 |false=>
  have a:=bad (by rw [J,S];rfl);simp -implicitDefEqProofs;exact ⟨by rw [a],j o⟩
 |true=>
 by_cases h4:m.face.needs.length<=4
 ·have H:¬(4:Int)<(m.face.needs.length:Int):=by omega
  have k:¬4<m.face.needs.length:=by omega
  simp -implicitDefEqProofs [r4,y.is,z,H,k];refine (qoK h2.g (y.ext o) (by simp;omega)).mono ?_;rintro _ w3 ⟨rfl,aa⟩;have V:=h2.to aa;have t:=o.trans' aa;obtain ⟨_,x6⟩:=V.cX;have O:=V.rl;cases ha:qcF (m.face.needs.map (·.op)) with
  |false=>
   have a:=bad (by rw [J,S,ha];simp);simp -implicitDefEqProofs;exact ⟨by rw [a],j t⟩
  |true=>
  simp -implicitDefEqProofs [c.r1,x6,h.routs.is,O];refine (qbl w3 _ 1 20).mono ?_;rintro _ w4' ⟨rfl,hw4⟩;obtain rfl:=hw4;have Y:((decide (1<=(m.routs.length:Int))&&decide ((m.routs.length:Int)<=20)):Bool)=(decide (1<=m.routs.length)&&decide (m.routs.length<=20)):=by
   congr 1<;>exact Jh.2 (by omega)
  rw [Y];cases I:(decide (1<=m.routs.length)&&decide (m.routs.length<=20)) with
  |false=>
   have a:=bad (by rw [J,S,ha,I];simp);simp -implicitDefEqProofs;exact ⟨by rw [a],j t⟩
  |true=>
  obtain ⟨_,_,_,Z⟩:=V.cF;have U:=V.ol;by_cases ho:m.face.ops.length<=m.routs.length
  ·have E:¬((m.routs.length:Int)<(m.face.ops.length:Int)):=by omega
   have q:¬(m.routs.length<m.face.ops.length):=by omega
   have hok:Qg m=true:=by unfold Qg;rw [J,S,ha,I];simp [h4,ho]
   rw [hok] at hb;simp -implicitDefEqProofs [c.r3,c.r1,Z,h.ops.is,U,x6,h.routs.is,O,E,q];exact qHP hm V ⟨by simp [c.r1],by simp [c.r3]⟩ (by simpa using hb)
  ·have E:((m.routs.length:Int)<(m.face.ops.length:Int)):=by omega
   have q:(m.routs.length<m.face.ops.length):=by omega
   have a:=bad (by rw [J,S,ha,I];simp [ho]);simp -implicitDefEqProofs [c.r3,c.r1,Z,h.ops.is,U,x6,h.routs.is,O,E,q];exact ⟨by rw [a],j t⟩
 ·have H:(4:Int)<(m.face.needs.length:Int):=by omega
  have k:4<m.face.needs.length:=by omega
  have a:=bad (by rw [J,S];simp [h4]);simp -implicitDefEqProofs [r4,y.is,z,H,k];exact ⟨by rw [a],j o⟩
end
def qa1.row {w:AA} {cs:List AB} {m:Mod} (h:qa1 w cs m):cs.length=7/\∀c∈cs,c.cells=#[c]/\c.oneCell=true:=by
 obtain ⟨needv,opv,rv,rfl,k,g,a⟩:=h;refine ⟨rfl, ?_⟩;intro c j;simp only [ug,uN,uQ] at j;rcases j with rfl|rfl|rfl|rfl|rfl|rfl|rfl
 ·exact ⟨rfl,rfl⟩
 ·exact ⟨rfl,rfl⟩
 ·exact ⟨rfl,rfl⟩
 ·exact ⟨qn k.is,jf k.is⟩
 ·exact ⟨qn g.is,jf g.is⟩
 ·exact ⟨rfl,rfl⟩
 ·exact ⟨qn a.is,jf a.is⟩
def qz5 {w:AA} {X o:Nat} {a b c d e:AB} (h:∀j,j<5->w.cell? ⟨X,o+j,none⟩=[a,b,c,d,e][j]?):Eng.q4 w ⟨X,o,none⟩ 0 5=some [a,b,c,d,e]:=by
 have:=wE (w:=w) (a:=⟨X,o,none⟩) (l:=[a,b,c,d,e]) (i:=0) fun j g=>by
  have:=h j g;rw [zD,ur,this,uj g]
 exact this
theorem qBB {w:AA} {cs:List AB} {m:Mod} (hG:L01.G w) (hM:xI w) (h:qa1 w cs m) (hm:MdOk m):Calls Tryz.prog 58 #[.agg cs.toArray] w (RB w (Q7 m)):=by
 have hrow:=h.row;have hcc:=qab fun c hc=>(hrow.2 c hc).1;obtain ⟨needv,opv,rv,rfl,hn,ho,hr⟩:=h;have o:=hn.is;have H:=ho.is;have hri:=hr.is;have ac:qm needv=m.face.needs.length:=hn.len (fun _ _ h=>h.len) (by decide);generalize O:Q7 m=b;have ae:(qdF m.face.needs&&(Qg m&&(yx m.face.ops [] 0 m.routs&&kK m)))=b:=by rw [<-O];unfold Q7;simp [Bool.and_assoc]
 refine qDM fun ρ r0=>?_;simp -implicitDefEqProofs [qql];refine vC fun X w1 hX hE1 U _=>?_;rw [show qd ρ (.tmp 0)=_ from r0,hcc] at U;have row1:Eng.q4 w1 ⟨X,0,none⟩ 0 5=some [.string (qb m.face.name),.int .u8 (m.face.kind:Int),.bool m.face.param,needv,opv]:=qz5 fun j hj=>by
  rw [U.cell]
  match j,hj with
  |0,_=>rfl
  |1,_=>rfl
  |2,_=>rfl
  |3,_=>rfl
  |4,_=>rfl
 simp -implicitDefEqProofs [row1];refine qQ z63 fun F w2 hF hE2 k _=>?_;simp -implicitDefEqProofs;refine jg (B:=F) (by simp) k (by simp [Value.cells,qn o,qn H]) (by simp [Value.cells,qn o,qn H,jf o,jf H]) (by simpa [Value.cells,qn o,qn H] using qyz) fun w3 hO3 af=>?_;simp -implicitDefEqProofs [Value.cells,qn o,qn H] at af;have S:qc w1 w3:=hO3.ext hE2 hF;have a:=hE1.trans' S;have hs3:FmS w w3 m X F needv opv rv:=⟨a,by simpa using U.ext S,af,hn.ext a fun _ _ h=>h.ext a,ho.ext a fun _ _ h=>h.ext a,hr.ext a fun _ _ h=>h.ext a,hG.ext a,hM.ext a⟩;obtain ⟨f0,f1,f3,f4⟩:=hs3.cF;simp -implicitDefEqProofs [f3,o,ac];obtain ⟨I,hI⟩:∃I:Nat->qa->AA->Prop,∀j q w',I j q w'↔(FmK q X F/\q 13=needv/\q 14=.int .i64 (m.face.needs.length:Int)/\qc w3 w'/\Own w3.heap.size 9 1 w' (q 4) (((m.face.needs.take j).map (·.op)).map qi)/\(qdF (m.face.needs.drop j)&&(Qg m&&(yx m.face.ops [] 0 m.routs&&kK m)))=b):=⟨_,fun _ _ _=>Iff.rfl⟩;refine zH 15 m.face.needs.length I (by simp) ((hI _ _ _).2 ⟨⟨by simp,by simp⟩,by simp,by simp,jd _,by simpa using Own.nil _ _ _ _,ae⟩) ?_;clear ae O f0 f1 f3 f4;rintro j q w' hj rj hIw;obtain ⟨J,r13,r14,hEW,t,O⟩:=(hI _ _ _).1 hIw;have hwj:IntKind.i64.wrap ((j:Int)+1)=(j:Int)+1:=q7 (by have:=hm.nl;omega);have hs:=hs3.to hEW;generalize hv4:q 4=v4 at t;by_cases y:j<m.face.needs.length
 ·have hlt':(j:Int)<(m.face.needs.length:Int):=by omega
  obtain ⟨c,hc,hcl,hcr,hcc⟩:=hs.needs.at (fun _ _ h=>h.len) y;have hno:=hm.needs m.face.needs[j] (uo _);rw [uM y] at O;have htk:m.face.needs.take (j+1)=m.face.needs.take j++[m.face.needs[j]]:=uO y;generalize m.face.needs[j]=n at hc hno O htk;have k:((qav n.sig&&qdF (m.face.needs.drop (j+1)))&&(Qg m&&(yx m.face.ops [] 0 m.routs&&kK m)))=b:=O;obtain ⟨sg,rfl,ab⟩:=hc;have hsg':=ab;obtain ⟨av,sv,rfl,ha,z⟩:=ab;simp -implicitDefEqProofs [qiL,rj,r14,hlt',y,qqh,r13,o,ac,hcr];refine qQ qgK fun Y w4 hY hE4 hb4 _=>?_;simp -implicitDefEqProofs;refine jg (B:=Y) (by simp) hb4 (by simp [Value.cells,qn ha.is,qn z.is]) (by simp [Value.cells,qn ha.is,qn z.is,jf ha.is,jf z.is]) (by simpa [Value.cells,qn ha.is,qn z.is] using qyG) fun w5 hO5 aa=>?_;simp -implicitDefEqProofs [Value.cells,qn ha.is,qn z.is] at aa;have V:qc w' w5:=hO5.ext hE4 hY;have y1:Eng.q4 w5 ⟨Y,1,none⟩ 0 4=some [.bool n.sig.iter,av,.string (qb n.sig.result),sv]:=qhO fun j hj=>by
   rw [aa.cell]
   match j,hj with
   |0,_=>rfl
   |1,_=>rfl
   |2,_=>rfl
   |3,_=>rfl
  simp -implicitDefEqProofs [y1];refine (qoo (hs.g.ext V) (hsg'.ext V) hno).mono ?_;rintro _ w6 ⟨rfl,hE6⟩;have E:=V.trans' hE6;cases hsb:qav n.sig with
  |false=>
   rw [hsb] at k;have hbf:b=false:=by rw [<-k];rfl
   simp -implicitDefEqProofs;exact ⟨by rw [hbf],hs.ext.trans' E⟩
  |true=>
  rw [hsb] at k;have y0:w6.cell? ⟨Y,0,none⟩=some (.string (qb n.op)):=by rw [(aa.ext hE6).cell];rfl
  simp -implicitDefEqProofs [qqk,y0,hv4];refine jC kj (by decide) (by decide) (by simp [Value.cells]) fun Z w7 hZ hE7 ad _=>?_;simp -implicitDefEqProofs [Value.cells] at ad⊢;have hE37:=(hEW.trans' E).trans' hE7;have hnl2:=hm.nl;refine qkp qdi (W0:=w3) hE37 (sv:=v4) (xv:=.slice (some ⟨Z,0,none⟩) 1 1) (by simp) (by simp) ((t.ext E).ext hE7) (Blk.cells (cs:=[qi n.op]) (by simpa [qi] using ad) rfl) (by simp [qi,Value.oneCell']) (by simp;omega) (by simp;omega) fun v' w8 hE8 ho8 _ _=>?_;simp -implicitDefEqProofs [qqj,rj,hwj,y];refine (hI _ _ _).2 ⟨⟨by simp [J.r1],by simp [J.r3]⟩,by simp [r13],by simp [r14],hE8, ?_,by simpa using k⟩;rw [htk];simpa using ho8
 ·have hd0:m.face.needs.drop j=[]:=Jk.2 (by omega);rw [hd0] at O;have k:(Qg m&&(yx m.face.ops [] 0 m.routs&&kK m))=b:=by simpa [qdF] using O
  rw [uz (by omega)] at t;simp -implicitDefEqProofs [qiL,rj,r14,y];exact qHR hm hs ⟨by simp [J.r1],by simp [J.r3]⟩ (nsv:=v4) (by simp [hv4]) (L01.jw t) k
end Go.L02
namespace Go.L02
open Go.Eng
open Go.L01 (Bs Tok jA jX qC qJ right vI)
def wz (l:List Nd) (i:Nat) (u:T):Prop:=∃pre post,l=pre++(u.flat pre.length++post)/\i+1=pre.length+u.size
def T.flat_eq (u:T) (b:Nat):u.flat b=flats b u.kids++[⟨u.d,qg b u.kids⟩]:=by cases u;rfl
def T.size_eq (u:T):u.size=sizes u.kids+1:=by cases u;rfl
section
variable {l:List Nd} {i:Nat} {u:T}
theorem wz.lt (h:wz l i u):i<l.length:=by
 obtain ⟨pre,post,rfl,h⟩:=h;rw [ky,ky,T.flat_len];omega
theorem wz.le (h:wz l i u):u.size<=i+1:=by obtain ⟨pre,post,rfl,h⟩:=h;omega
theorem wz.node (h:wz l i u):l[i]? =some ⟨u.d,qg (i+1 - u.size) u.kids⟩:=by
 obtain ⟨pre,post,rfl,h⟩:=h;have g:=u.size_eq;rw [JL (by omega),u.flat_eq,un,JL (by rw [flats_len];omega),flats_len];have a:i - pre.length - sizes u.kids=0:=by omega
 have c:i+1 - u.size=pre.length:=by omega
 rw [a,c];rfl
theorem qhR:∀(ks:List T) (b j:Nat) (h:j<ks.length),(qg b ks)[j]? =some (((b+sizes (ks.take (j+1)):Nat):Int) - 1)
 |[],_,_,h=>by simp at h
 |k::ks,b,0,_=>by simp [qg,sizes]
 |k::ks,b,j+1,h=>by
  simp only [qg,List.getElem?_cons_succ];rw [qhR ks (b+k.size) j (by simpa using h),List.take_succ_cons,sizes];congr 2;omega
theorem wz.kid (h:wz l i u) {j:Nat} (a:j<u.kids.length):wz l (i+sizes (u.kids.take (j+1)) - u.size) u.kids[j]:=by
 have g:=h.le;obtain ⟨pre,post,rfl,h⟩:=h;have e:u.kids=u.kids.take j++(u.kids[j]::u.kids.drop (j+1)):=by rw [<-uM a,u5]
 have k:sizes (u.kids.take (j+1))=sizes (u.kids.take j)+u.kids[j].size:=by rw [uO a,qau];simp [sizes]
 have q:u.size=sizes u.kids+1:=u.size_eq;have o:sizes u.kids=sizes (u.kids.take j)+(u.kids[j].size+sizes (u.kids.drop (j+1))):=by conv=>lhs;rw [e,qau,sizes]
 have c:=u.kids[j].size_pos;refine ⟨pre++flats pre.length (u.kids.take j),flats (pre.length+(sizes (u.kids.take j)+u.kids[j].size)) (u.kids.drop (j+1))++([⟨u.d,qg pre.length u.kids⟩]++post), ?_, ?_⟩
 ·rw [u.flat_eq]
  conv=>lhs;rw [e]
  rw [qvm,flats,ky,flats_len];simp only [un,uB];rw [<-e]
 ·rw [ky,flats_len,k];omega
theorem wz.uniq:∀(n:Nat) {i:Nat} {u v:T},u.size<=n->wz l i u->wz l i v->u=v
 |0,_,u,_,hn,_,_=>by have:=u.size_pos;omega
 |n+1,i,u,v,hn,h,g=>by
  have e:=h.node.symm.trans g.node;simp only [ui,Nd.mk.injEq] at e;obtain ⟨t,er⟩:=e;have c:u.kids.length=v.kids.length:=by
   have:=congrArg List.length er
   rwa [qhQ,qhQ] at this
  have y:u.kids=v.kids:=by
   refine List.ext_getElem c fun j k o=>?_;have a:=h.kid k;have b:=g.kid o;have g1:=qhR u.kids (i+1 - u.size) j k;have H:=qhR v.kids (i+1 - v.size) j o;rw [er,H] at g1;have l1:=h.le;have S:=g.le;have z:i+sizes (u.kids.take (j+1)) - u.size=i+sizes (v.kids.take (j+1)) - v.size:=by
    have U:0<sizes (u.kids.take (j+1)):=by rw [uO k,qau];have:=u.kids[j].size_pos;simp [sizes];omega
    have I:0<sizes (v.kids.take (j+1)):=by rw [uO o,qau];have:=v.kids[j].size_pos;simp [sizes];omega
    have Y:sizes (u.kids.take (j+1))<=sizes u.kids:=by have:=congrArg sizes (u5 (j+1) u.kids);rw [qau] at this;omega
    simp only [ui] at g1;have V:=h.le;have O:=g.le;have E:=u.size_eq;have J:=v.size_eq;omega
   rw [<-z] at b;have q:u.kids[j].size<=n:=by
    have E:=u.size_eq;have:u.kids[j].size<=sizes u.kids:=by
     conv=>rhs;rw [<-u5 j u.kids,uM k,qau,sizes]
     omega
    omega
   exact wz.uniq n q a b
  cases u;cases v;simp only [T.d,T.kids] at t y;rw [t,y]
end
def ind (a b k:Int):Nat:=if a<=k/\k<b then 1 else 0
def kA (sep:Bs):List Bs->Bs
 |[]=>[]
 |[x]=>x
 |x::y::ys=>x++(sep++kA sep (y::ys))
def nth (ss:List Bs) (i:Nat):Bs:=ss.getD i []
def qdJ (ks:List T) (i:Nat):Nat:=match ks[i]? with|some t=>t.d.kind|none=>0
def opd (k:Nat) (s:Bs):Bs:=if k=6 then [40]++(s++[41]) else s
def qIY (d:D):Bs:=if d.vr≠[] then d.vr++([36]++d.name) else if d.typ≠[] then d.name++([123]++(d.typ++[125])) else d.name
def xtD (d:D) (ks:List T) (ss:List Bs):Bs:=
 if d.kind=1 then Lib.itoa d.n
 else if d.kind=2 then (if d.n=1 then [116,114,117,101] else [102,97,108,115,101])
 else if d.kind=3 then [110,105,108]
 else if d.kind=4 then d.name
 else if d.kind=5 then qIY d++([40]++(kA [44,32] ss++[41]))
 else if d.kind=6 then (if ks.length=1 then [110,111,116,32]++opd (qdJ ks 0) (nth ss 0) else opd (qdJ ks 0) (nth ss 0)++([32]++(d.name++([32]++opd (qdJ ks 1) (nth ss 1)))))
 else if d.kind=7 then opd (qdJ ks 0) (nth ss 0)++([91]++(nth ss 1++[93]))
 else if d.kind=8 then opd (qdJ ks 0) (nth ss 0)++([46]++d.name)
 else if d.kind=9 then [117,112,40]++(nth ss 0++[41])
 else [100,111,119,110,40]++(nth ss 0++[41])
mutual
def xt:T->Bs| .mk d ks=>xtD d ks (xts ks)
def xts:List T->List Bs|[]=>[] |t::ts=>xt t::xts ts
end
def ot (t:T):Bs:=opd t.d.kind (xt t)
def qzg (l:List Bs):List Bs:=l.dropLast++(match l.getLast? with|some s=>[s++[59]] |none=>[])
def qdc:List (List Bs)->List Bs
 |[]=>[]
 |[l]=>l
 |l::m::ls=>qzg l++qdc (m::ls)
def qf2 (l:List Bs):List Bs:=l.map ([32,32]++ ·)
def xk (ks:List T) (i:Nat):Bs:=match ks[i]? with|some t=>xt t|none=>[]
def ok (ks:List T) (i:Nat):Bs:=match ks[i]? with|some t=>ot t|none=>[]
def qCV (d:D) (ks:List T):Bs:=
 if d.kind=21 then [118,97,114,32]++(d.name++([58,32]++(d.typ++([32,58,61,32]++xk ks 0))))
 else if d.kind=22 then d.name++([32,58,61,32]++xk ks 0)
 else if d.kind=23 then ok ks 0++([91]++(xk ks 1++([93,32,58,61,32]++xk ks 2)))
 else if d.kind=24 then ok ks 0++([46]++(d.name++([32,58,61,32]++xk ks 1)))
 else if d.kind=25 then xk ks 0
 else if d.kind=37 then [112,117,116,32]++xk ks 0
 else if d.kind=30 then [121,105,101,108,100,32]++xk ks 0
 else if d.kind=31 then [115,105,103,110,97,108,32]++d.name
 else if d.kind=34 then [98,114,101,97,107]
 else if ks.length=0 then [114,101,116,117,114,110] else [114,101,116,117,114,110,32]++xk ks 0
def qxo (s:Bs):Bs:=if s=[] then [111,116,104,101,114,115] else s
mutual
def stL:T->List Bs
 | .mk d ks=>
  if d.kind=26 then condL [105,102] ks++[[101,110,100]]
  else if d.kind=27 then ([119,104,105,108,101,32]++(xk ks 0++[32,100,111]))::(blkL 1 ks++[[101,110,100]])
  else if d.kind=28 then ([102,111,114,32]++(d.name++([58,32]++(d.typ++([32,105,110,32]++(xk ks 0++[32,100,111]))))))::(blkL 1 ks++[[101,110,100]])
  else if d.kind=32 then [98,101,103,105,110]::(blkL 0 ks++([101,120,99,101,112,116]::(whensT ks++[[101,110,100]])))
  else if d.kind=35 then ([116,97,103,99,97,115,101,32]++xk ks 0)::(armsT ks++[[101,110,100]])
  else [qCV d ks]
def qc9:List T->List (List Bs)|[]=>[] |t::ts=>stL t::qc9 ts
def blkL:Nat->List T->List Bs
 |_,[]=>[]
 |0,.mk _ qs::_=>qf2 (qdc (qc9 qs))
 |i+1,_::ks=>blkL i ks
def condL:Bs->List T->List Bs
 |word,[c,.mk _ qs]=>(word++([32]++(xt c++[32,116,104,101,110])))::qf2 (qdc (qc9 qs))
 |word,[c,.mk _ qs,.mk _ rs]=>(word++([32]++(xt c++[32,116,104,101,110])))::(qf2 (qdc (qc9 qs))++elseL (qf2 (qdc (qc9 rs))) rs)
 |_,_=>[]
def elseL:List Bs->List T->List Bs
 |ls,[.mk d ks]=>if d.kind=26 then condL [101,108,115,101,105,102] ks else [101,108,115,101]::ls
 |ls,_=>[101,108,115,101]::ls
def whensT:List T->List Bs|[]=>[] |_::ts=>whensL ts
def armsT:List T->List Bs|[]=>[] |_::ts=>armsL ts
def whensL:List T->List Bs
 |[]=>[]
 | .mk d ks::ts=>([119,104,101,110,32]++(qxo d.name++[58]))::(blkL 0 ks++whensL ts)
def armsL:List T->List Bs
 |[]=>[]
 | .mk d ks::ts=>([116,97,103,32]++(d.name++([40]++(d.vr++([58,32]++(d.typ++[41,58]))))))::(blkL 0 ks++armsL ts)
end
end Go.L02
