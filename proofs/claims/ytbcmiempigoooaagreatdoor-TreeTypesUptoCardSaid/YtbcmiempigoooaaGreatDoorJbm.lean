/- Texts of mine for the claims about layer 2 (tree), joined: L02Y3, L02Ic, L02Va, L02Il, L02Vb, L02Vc, L02Vd, L02Ve, L02Kd, L02M10, L02Ka, L02Vf, L02Vg, L02O, L02P, L02At, L02Vh, L02W. -/
import Derived.Test.YtbcmiempigoooaaGreatDoorJbl
import Derived.Shelf.Strings.Cut
import Derived.Test.YtbcmiempigoooaaGreatDoorProg
import Derived.KernelRfl
import Derived.Lib.ItoaNum
set_option linter.all false
set_option linter.unusedSimpArgs false
set_option linter.unusedVariables false
namespace Go.Proofs
open Go.Shelf
def Tryz.lays145_ren:Go.Shelf.Ren:=⟨fun|145=>76|220=>161|219=>230|217=>282|225=>283|224=>284|267=>285|266=>330|314=>331|n=>n,fun|9=>9|4=>4|59=>107|3=>3|5=>5|46=>266|146=>300|51=>285|n=>n,fun|1=>0|n=>n⟩
theorem Tryz.lays145:Go.Proofs.Lays.n145 Tryz.prog Tryz.lays145_ren:={
 mixed:=by kernel_rfl
 f145:=Tryz.func76.trans (congrArg some (by kernel_rfl))
 f217:=Tryz.func282.trans (congrArg some (by kernel_rfl))
 f219:=Tryz.func230.trans (congrArg some (by kernel_rfl))
 f220:=Tryz.func161.trans (congrArg some (by kernel_rfl))
 f224:=Tryz.func284.trans (congrArg some (by kernel_rfl))
 f225:=Tryz.func283.trans (congrArg some (by kernel_rfl))
 f266:=Tryz.func330.trans (congrArg some (by kernel_rfl))
 f267:=Tryz.func285.trans (congrArg some (by kernel_rfl))
 f314:=Tryz.func331.trans (congrArg some (by kernel_rfl))
 t3:=Tryz.underlying3
 a3:=Tryz.isAgg3
 z3:=Tryz.sizeOf3
 v3:=Tryz.zeroValue3
 t4:=Tryz.underlying4
 a4:=Tryz.isAgg4
 z4:=Tryz.sizeOf4
 v4:=Tryz.zeroValue4
 t5:=Tryz.underlying5
 a5:=Tryz.isAgg5
 z5:=Tryz.sizeOf5
 v5:=Tryz.zeroValue5
 t9:=Tryz.underlying9
 a9:=Tryz.isAgg9
 z9:=Tryz.sizeOf9
 v9:=Tryz.zeroValue9
 t46:=Tryz.underlying266
 a46:=Tryz.isAgg266
 z46:=Tryz.sizeOf266
 v46:=Tryz.zeroValue266
 t51:=Tryz.underlying285
 a51:=Tryz.isAgg285
 z51:=Tryz.sizeOf285
 v51:=Tryz.zeroValue285
 t59:=Tryz.underlying107
 a59:=Tryz.isAgg107
 z59:=Tryz.sizeOf107
 v59:=Tryz.zeroValue107
 t146:=Tryz.underlying300
 a146:=Tryz.isAgg300
 z146:=Tryz.sizeOf300
 v146:=Tryz.zeroValue300
 g1:=by kernel_rfl}
theorem Tryz.cut (s sep:ByteArray) (m:Int) (w:World) (hs:s.size<4294967281) (hm:w.cell? ⟨0,0,none⟩=some (.int .i64 m)):
  Calls Tryz.prog 76 #[.string s, .string sep] w fun e w'=>e= .returned (.tuple #[.string ⟨(Lib.cut s.data.toList sep.data.toList).1.toArray⟩, .string ⟨(Lib.cut s.data.toList sep.data.toList).2.1.toArray⟩, .bool (Lib.cut s.data.toList sep.data.toList).2.2])∧∃n,w'=w.drewN n:=Any.strings_Cut Tryz.lays145 s sep m w hs hm
end Go.Proofs
namespace Go.L02
open Go Go.Eng Go.RowKit
open Go.Proofs hiding encI
open Go.L01 (Bs Tok encT SlT toksV toksV_len toksV_get SlK retT Own.same ownMono retK_c1 retTT Bd ifc20 isStr leaves_fn scan fV ScanR isName)
set_option maxRecDepth 100000
set_option maxHeartbeats 2000000
theorem index_one (c:UInt8):∀s:Bs,Lib.index s [c]=match s.findIdx? (fun b=>decide (b=c)) with|none=> -1|some k=>(k:Int)
 |[]=>by simp [Lib.index]
 |b::l=>by
  rw [Lib.index,List.findIdx?_cons]
  by_cases h:b=c
  ·subst h;simp [List.isPrefixOf]
  ·have hc:¬c=b:=fun e=>h e.symm
   rw [index_one c l]
   simp only [List.isPrefixOf,h,hc,beq_iff_eq,Bool.and_true,if_false,decide_false,Bool.false_eq_true]
   cases l.findIdx? (fun b=>decide (b=c)) with
   |none=>rfl
   |some k=>
    simp only [Option.map_some]
    rw [if_neg (by omega)]
    push_cast
    rfl
theorem cut_one (s:Bs):Lib.cut s [95]=match cutAt s with|none=>(s,[],false)|some k=>(s.take k,s.drop (k+1),true):=by
 unfold Lib.cut cutAt
 rw [index_one]
 cases s.findIdx? (fun c=>decide (c=95)) with
 |none=>rfl
 |some k=>simp
def MaxL (w:World):Prop:=∃m,w.cell? ⟨0,0,none⟩=some (.int .i64 m)
theorem MaxL.ext {w w':World} (h:MaxL w) (hE:Ext w w'):MaxL w':=by
 obtain ⟨m,h⟩:=h
 exact ⟨m,hE.cell h⟩
theorem p_IsOp {w:World} (hG:L01.G w) (hM:MaxL w) (s:Bs) (hs:s.length<4294967281):Calls Tryz.prog 24 #[.string (mkS s)] w fun e w'=>e= .returned (.bool (isOp s))∧Ext w w':=by
 refine ir24_calls fun ρ r0=> ?_
 simp -implicitDefEqProofs [ir24,r0]
 refine (p_isWord s w).mono ?_
 rintro _ w1 ⟨rfl,hE1⟩
 cases h:wordOps.contains s with
 |true=>
  have e:isOp s=true:=by unfold isOp;rw [h];rfl
  simp -implicitDefEqProofs [e]
  exact hE1
 |false=>
  have e:isOp s=(match cutAt s with|none=>isName s|some k=>isName (s.take k)&&isName (s.drop (k+1))):=by unfold isOp;rw [h];rfl
  simp -implicitDefEqProofs [ir24_k0,r0]
  obtain ⟨m,hm⟩:=hM.ext hE1
  refine (Tryz.cut (mkS s) (mkS [95]) m w1 hs hm).mono ?_
  rintro _ w2 ⟨rfl,n,rfl⟩
  have hE2:Ext w (w1.drewN n):=hE1.trans' ⟨rfl,rfl,rfl,Nat.le_refl _,fun _ _=>rfl⟩
  have hc:Lib.cut (mkS s).data.toList (mkS [95]).data.toList=_:=cut_one s
  rw [hc]
  cases hk:cutAt s with
  |none=>
   rw [hk] at e
   simp -implicitDefEqProofs
   refine (L01.t_isName (hG.ext hE2) s).mono ?_
   rintro _ w3 ⟨rfl,hE3⟩
   have e':isOp s=isName s:=e
   cases hn:isName s with
   |true=>
    rw [hn] at e'
    simp -implicitDefEqProofs [e']
    exact hE2.trans' hE3
   |false=>
    rw [hn] at e'
    simp -implicitDefEqProofs [e']
    exact hE2.trans' hE3
  |some k=>
   rw [hk] at e
   simp -implicitDefEqProofs
   refine (L01.t_isName (hG.ext hE2) (s.take k)).mono ?_
   rintro _ w3 ⟨rfl,hE3⟩
   have e':isOp s=(isName (s.take k)&&isName (s.drop (k+1))):=e
   cases hn:isName (s.take k) with
   |true=>
    rw [hn] at e'
    simp -implicitDefEqProofs
    refine (L01.t_isName ((hG.ext hE2).ext hE3) (s.drop (k+1))).mono ?_
    rintro _ w4 ⟨rfl,hE4⟩
    simp -implicitDefEqProofs [e']
    exact (hE2.trans' hE3).trans' hE4
   |false=>
    rw [hn] at e'
    simp -implicitDefEqProofs [e']
    exact hE2.trans' hE3
end Go.L02
namespace Go.L02
open Go Go.Eng Go.Proofs
set_option maxRecDepth 100000
set_option maxHeartbeats 2000000
noncomputable def ir127:IR:=zq [za 6 (.const (zb false)),za 6 (.ite (zI .geq (zv 0) (zv 1)) (zI .leq (zv 0) (zv 2)) (.const (zb false)))] <| .ret
def ir127_V:List Nat:=[0,1,2,6]
theorem ir127_calls:C3 127 15 ir127_V ir127 [.tmp 6]:=c3 [] Tryz.func127
noncomputable def ir225_k0:IR:=zq [za 9 (zv 1),za 10 (zv 0),zE 11 (.call {callee:= .value (zt 9),args:= #[zt 10],argTypes:= #[9]}) 4,za 4 (zv 11)] <| .ret
noncomputable def ir225:IR:=zq [za 4 (.const (zb false)),za 5 (zv 1),zE 6 (.binOp .eql 34 (zt 5) (.const .nilFunc) 34) 4] <| .seq (.cond (zv 6) (zq [za 4 (zS .eql (zv 0) (.const (zs #[])))] <| .ret) (.skip)) (ir225_k0)
def ir225_V:List Nat:=[0,1,4,5,6,9,10,11]
theorem ir225_calls:C2 225 12 ir225_V ir225 [.tmp 4]:=c2 [] Tryz.func225
noncomputable def ir226_k0:IR:=zq [za 15 (zo 2 (zv 1)),zc 16 22 #[zt 15] #[9] 4,za 17 (zv 16),zg 17 true 19 (zo 1 (zv 1)),zh 17 true 20 24 #[zt 19] #[9] 4,za 2 (.ite (.ite (zv 17) (zv 20) (.const (zb false))) (zS .eql (zo 3 (zv 1)) (.const (zs #[]))) (.const (zb false)))] <| .ret
noncomputable def ir226:IR:=zq [zE 1 (.box 44 (zt 0)) 0,za 2 (.const (zb false)),za 5 (zS .eql (zo 2 (zv 1)) (.const (zs #[])))] <| .seq (.cond (zv 5) (zq [za 7 (zo 1 (zv 1)),zc 8 77 #[zt 7] #[9] 4,za 9 (zv 8),zg 9 true 11 (zo 3 (zv 1)),zh 9 true 12 280 #[zt 11] #[9] 4,za 2 (.ite (zv 9) (zv 12) (.const (zb false)))] <| .ret) (.skip)) (ir226_k0)
def ir226_V:List Nat:=[0,1,2,5,7,8,9,11,12,15,16,17,19,20]
theorem ir226_calls:C1 226 27 ir226_V ir226 [.tmp 2]:=c1 [] Tryz.func226
noncomputable def ir280:IR:=zq [za 2 (.const (zb false)),za 5 (zS .eql (zv 0) (.const (zs #[]))),zg 5 false 6 (zv 0),zh 5 false 7 22 #[zt 6] #[9] 4,za 2 (.ite (zv 5) (.const (zb true)) (zv 7))] <| .ret
def ir280_V:List Nat:=[0,2,5,6,7]
theorem ir280_calls:C1 280 9 ir280_V ir280 [.tmp 2]:=c1 [] Tryz.func280
noncomputable def ir220:IR:=zq [zE 1 (.box 3 (zt 0)) 0,za 2 (.const .nilFunc),zE 3 (.makeFunc (.func 278) #[] #[zt 1]) 238,za 2 (zv 3)] <| .ret
def ir220_V:List Nat:=[0,1,2,3]
theorem ir220_calls:C1 220 4 ir220_V ir220 [.tmp 2]:=c1 [] Tryz.func220
noncomputable def ir278:IR:=zq [za 3 (.const (zb false)),za 4 (zv 0),za 5 (zl (zv 1)),zc 6 127 #[zt 4,(.const (zk 0)),zt 5] #[3,3,3] 4,za 3 (zv 6)] <| .ret
def ir278_V:List Nat:=[0,1,3,4,5,6]
theorem ir278_calls:C2 278 7 ir278_V ir278 [.tmp 3]:=c2 [] Tryz.func278
noncomputable def ir223:IR:=zq [zE 1 (.box 5 (zt 0)) 0,za 2 (.const .nilFunc),zE 3 (.makeFunc (.func 279) #[] #[zt 1]) 98,za 2 (zv 3)] <| .ret
def ir223_V:List Nat:=[0,1,2,3]
theorem ir223_calls:C1 223 4 ir223_V ir223 [.tmp 2]:=c1 [] Tryz.func223
noncomputable def ir279:IR:=zq [zE 2 (.box 44 (zt 0)) 0,za 3 (.const (zb false)),za 3 (zB .eql (zo 0 (zv 2)) (zl (zv 1)))] <| .ret
def ir279_V:List Nat:=[0,1,2,3]
theorem ir279_calls:C2 279 8 ir279_V ir279 [.tmp 3]:=c2 [] Tryz.func279
noncomputable def ir221:IR:=zq [za 2 (.const (zb false)),zE 3 (.buildSlice 51 11 #[(0,(.const (zs #[110,111,116]))),(1,(.const (zs #[43]))),(2,(.const (zs #[45]))),(3,(.const (zs #[42]))),(4,(.const (zs #[47]))),(5,(.const (zs #[109,111,100]))),(6,(.const (zs #[60]))),(7,(.const (zs #[60,61]))),(8,(.const (zs #[61]))),(9,(.const (zs #[97,110,100]))),(10,(.const (zs #[111,114])))]) 51,za 4 (zv 0),zc 5 160 #[zt 3,zt 4] #[51,9] 4,za 2 (zv 5)] <| .ret
def ir221_V:List Nat:=[0,2,3,4,5]
theorem ir221_calls:C1 221 6 ir221_V ir221 [.tmp 2]:=c1 [] Tryz.func221
noncomputable def ir222:IR:=zq [zE 1 (.box 44 (zt 0)) 0,za 2 (.const (zb false)),za 3 (zo 0 (zv 1)),za 7 (.op1 (.conv .i64) (zv 3)),zc 8 127 #[zt 7,(.const (zk 21)),(.const (zk 31))] #[3,3,3] 4,za 2 (.ite (.ite (.ite (.ite (zv 8) (.const (zb true)) (zB .eql (zv 3) (.const (zu 32)))) (.const (zb true)) (zB .eql (zv 3) (.const (zu 34)))) (.const (zb true)) (zB .eql (zv 3) (.const (zu 35)))) (.const (zb true)) (zB .eql (zv 3) (.const (zu 37))))] <| .ret
def ir222_V:List Nat:=[0,1,2,3,7,8]
theorem ir222_calls:C1 222 25 ir222_V ir222 [.tmp 2]:=c1 [] Tryz.func222
noncomputable def ir65:IR:=zq [zE 1 (.box 44 (zt 0)) 0,za 2 (.const (zb false)),za 5 (.op1 (.conv .i64) (zo 0 (zv 1))),zc 6 127 #[zt 5,(.const (zk 1)),(.const (zk 10))] #[3,3,3] 4,za 2 (zv 6)] <| .ret
def ir65_V:List Nat:=[0,1,2,5,6]
theorem ir65_calls:C1 65 7 ir65_V ir65 [.tmp 2]:=c1 [] Tryz.func65
noncomputable def ir80:IR:=zq [zE 1 (.box 44 (zt 0)) 0,za 2 (.const (zb false)),za 2 (zB .eql (zo 0 (zv 1)) (.const (zu 20)))] <| .ret
def ir80_V:List Nat:=[0,1,2]
theorem ir80_calls:C1 80 6 ir80_V ir80 [.tmp 2]:=c1 [] Tryz.func80
noncomputable def ir218:IR:=zq [zE 2 (.box 241 (zt 0)) 0,za 4 (.const (.pointer none)),za 5 (zv 1),za 7 (zL (zv 1)),za 9 (zL (zv 1)),za 10 (zf 4 (zv 2)),zw 239 (zt 10) (zt 5),za 11 (zf 6 (zv 2)),zw 3 (zt 11) (zt 7),za 12 (zf 7 (zv 2)),zw 3 (zt 12) (zt 9),za 4 (zv 2)] <| .ret
def ir218_V:List Nat:=[0,1,2,4,5,7,9,10,11,12]
theorem ir218_calls:C2 218 13 ir218_V ir218 [.tmp 4]:=c2 [] Tryz.func218
noncomputable def ir219:IR:=zq [za 2 (.const (zb false)),za 2 (.const (zb true))] <| .ret
def ir219_V:List Nat:=[0,2]
theorem ir219_calls:C1 219 3 ir219_V ir219 [.tmp 2]:=c1 [] Tryz.func219
noncomputable def ir147_body:Code:=((Tryz.f147.body).getD .skip)
noncomputable def ir147_k0:IR:=zq [za 122 (zv 11),za 126 (zM 6 (zx 6 (zv 0) (zv 10))),zE 127 (.call {callee:= .value (zt 122),args:= #[zt 126],argTypes:= #[44]}) 4,za 128 (zn (zv 127))] <| .cond (zv 128) (zq [za 6 (.const (zb false))] <| .ret) (.skip)
noncomputable def ir147_k1:IR:= .reg [za 99 (zI .add (zv 99) (.const (zk 1)))]
noncomputable def ir147_k2:IR:= .seq (.block 1 (zq [za 101 (zv 99),za 103 (zl (zx 1 (zv 97) (zv 99))),za 9 (zv 101),za 10 (zv 103),za 11 (zo 5 (zN (zv 7))),za 114 (zI .lss (zv 9) (zL (zo 4 (zN (zv 7)))))] <| .seq (.cond (zv 114) (.reg [za 11 (zl (zx 1 (zo 4 (zN (zv 7))) (zv 9)))]) (.skip)) (ir147_k0))) (ir147_k1)
noncomputable def ir147_l3:IR:=zq [za 100 (zI .lss (zv 99) (zv 98))] <| .seq (.cond (zv 100) (.skip) (.exit 0)) (ir147_k2)
noncomputable def ir147_k4:IR:= .reg [za 152 (zI .add (zv 152) (.const (zk 1)))]
noncomputable def ir147_k5:IR:= .seq (.block 4 (zq [za 154 (zv 152),za 156 (zl (zx 1 (zv 150) (zv 152))),za 12 (zv 154),za 13 (zv 156),za 14 (zo 1 (zx 6 (zv 0) (zv 13))),za 162 (zv 14),zc 163 77 #[zt 162] #[9] 4,za 176 (.ite (zn (zv 163)) (.ite (zS .neq (zv 14) (.const (zs #[]))) (.const (zb true)) (zI .lss (zv 12) (zI .sub (zL (zo 5 (zv 4))) (.const (zk 2))))) (.const (zb false)))] <| .cond (zv 176) (zq [za 6 (.const (zb false))] <| .ret) (.skip))) (ir147_k4)
noncomputable def ir147_l6:IR:=zq [za 153 (zI .lss (zv 152) (zv 151))] <| .seq (.cond (zv 153) (.skip) (.exit 3)) (ir147_k5)
noncomputable def ir147_k7:IR:=zq [za 6 (.const (zb true))] <| .ret
noncomputable def ir147_k8:IR:=zq [za 131 (zo 0 (zv 4))] <| .seq (.block 2 (zq [za 132 (zB .eql (zv 131) (.const (zu 5)))] <| .cond (zv 132) (zq [za 134 (zM 6 (zv 4)),zc 135 226 #[zt 134] #[44] 4,za 6 (zv 135)] <| .ret) (zq [za 136 (zB .eql (zv 131) (.const (zu 6)))] <| .cond (zv 136) (zq [za 6 (.op2 (.bbin .eql) (zS .eql (zo 1 (zv 4)) (.const (zs #[110,111,116]))) (zI .eql (zL (zo 5 (zv 4))) (.const (zk 1))))] <| .ret) (zq [za 146 (zB .eql (zv 131) (.const (zu 32)))] <| .cond (zv 146) (zq [za 150 (.op2 (.slLo 1) (zo 5 (zv 4)) (.const (zk 1))),za 151 (zL (zv 150)),za 152 (.const (zk 0))] <| .block 3 (.loop ir147_l6)) (.skip))))) (ir147_k7)
noncomputable def ir147_k9:IR:=zq [za 97 (zo 5 (zv 4)),za 98 (zL (zv 97)),za 99 (.const (zk 0))] <| .seq (.block 0 (.loop ir147_l3)) (ir147_k8)
noncomputable def ir147_k10:IR:= .seq (.cond (zv 95) (zq [za 6 (.const (zb false))] <| .ret) (.skip)) (ir147_k9)
noncomputable def ir147_k11:IR:= .seq (.drw [za 50 (zo 1 (zv 4)),za 54 (zo 0 (zN (zv 7))),zc 55 225 #[zt 50,zt 54] #[9,34] 4,za 57 (zn (zv 55)),zg 57 false 59 (zo 2 (zv 4)),zg 57 false 63 (zo 1 (zN (zv 7))),zh 57 false 64 225 #[zt 59,zt 63] #[9,34] 4,za 67 (.ite (zv 57) (.const (zb true)) (zn (zv 64))),zg 67 false 69 (zo 3 (zv 4)),zg 67 false 73 (zo 2 (zN (zv 7))),zh 67 false 74 225 #[zt 69,zt 73] #[9,34] 4,za 81 (.ite (.ite (zv 67) (.const (zb true)) (zn (zv 74))) (.const (zb true)) (zn (zv 8))),zg 81 false 84 (zL (zo 5 (zv 4))),zg 81 false 88 (zo 6 (zN (zv 7))),zg 81 false 92 (zo 7 (zN (zv 7))),zh 81 false 93 127 #[zt 84,zt 88,zt 92] #[3,3,3] 4,za 95 (.ite (zv 81) (.const (zb true)) (zn (zv 93)))]) (ir147_k10)
noncomputable def ir147_k12:IR:=zq [za 8 (zI .eql (zo 4 (zv 4)) (.const (zk 0))),za 40 (zo 3 (zN (zv 7))),zE 41 (.binOp .neq 238 (zt 40) (.const .nilFunc) 238) 4] <| .seq (.cond (zv 41) (.raw (rawReg ir147_body 6)) (.skip)) (ir147_k11)
noncomputable def ir147_k13:IR:= .seq (.raw (rawReg ir147_body 3)) (ir147_k12)
noncomputable def ir147_k14:IR:= .seq (.cond (zv 27) (zq [za 6 (.const (zb false))] <| .ret) (.skip)) (ir147_k13)
noncomputable def ir147:IR:=zq [zE 4 (.box 44 (zt 1)) 0,za 6 (.const (zb false))] <| .seq (.raw (rawReg ir147_body 1)) (ir147_k14)
def ir147_V:List Nat:=[0,1,2,4,6,7,8,9,10,11,12,13,14,15,16,17,18,19,20,21,22,23,24,25,26,27,28,29,30,31,32,33,40,41,42,43,44,45,46,47,48,50,54,55,57,59,63,64,67,69,73,74,81,84,88,92,93,95,97,98,99,100,101,103,114,122,126,127,128,131,132,134,135,136,146,150,151,152,153,154,156,162,163,176]
theorem ir147_calls:C3 147 178 ir147_V ir147 [.tmp 6]:=c3 [6,3,1] Tryz.func147
noncomputable def ir147_o1:OT:=zy 15 (zf 0 (zv 4))<|zy 16 (zl (zv 15))<|zy 17 (.op1 (.conv .i64) (zv 16))<|zy 18 (zI .geq (zv 17) (.const (zk 38)))<|zy 19 (zv 18)<| .take (some (19,false)) 20 (zv 2)<| .take (some (19,false)) 21 (zf 0 (zv 4))<| .take (some (19,false)) 22 (zl (zv 21))<| .take (some (19,false)) 23 (zN (zv 20))<| .step (.eff (some (19,false)) (some 24) (.indexAddr 175 (zt 23) (zt 22)) 0) false<| .step (zg 19 false 25 (zl (zv 24))) false<| .step (.eff (some (19,false)) (some 26) (.binOp .eql 174 (zt 25) (.const (.pointer none)) 174) 4) false<| .step (za 27 (.ite (zv 19) (.const (zb true)) (zv 26))) false<| .done
theorem ir147_o1_ok:ordOf Tryz.prog 178 ir147_V 9 (rawReg ir147_body 1)=some ir147_o1:=by kernel_rfl
noncomputable def ir147_o3:OT:=zy 28 (zv 2)<|zy 29 (zf 0 (zv 4))<|zy 30 (zl (zv 29))<|zy 31 (zN (zv 28))<| .step (zE 32 (.indexAddr 175 (zt 31) (zt 30)) 0) false<| .step (za 33 (zl (zv 32))) false<| .step (za 7 (zv 33)) false<| .done
theorem ir147_o3_ok:ordOf Tryz.prog 178 ir147_V 4 (rawReg ir147_body 3)=some ir147_o3:=by kernel_rfl
noncomputable def ir147_o6:OT:=zy 42 (zv 7)<|zy 43 (zN (zv 42))<|zy 44 (zf 3 (zv 43))<|zy 45 (zl (zv 44))<|zy 46 (zf 4 (zv 4))<|zy 47 (zl (zv 46))<| .step (zE 48 (.call {callee:= .value (zt 45),args:= #[zt 47],argTypes:= #[3]}) 4) false<| .step (za 8 (zv 48)) false<| .done
theorem ir147_o6_ok:ordOf Tryz.prog 178 ir147_V 6 (rawReg ir147_body 6)=some ir147_o6:=by kernel_rfl
noncomputable def ir98_k0:IR:= .reg [za 34 (.op4 (.slMax 1) (zv 3) (.const (zk 0)) (zv 6) (zv 6)),za 35 (zv 4),zE 36 (.buildSlice 40 1 #[(0,(zt 35))]) 40,zp 37 #[zt 34,zt 36] #[40,40] 40,za 3 (zv 37)]
noncomputable def ir98_k1:IR:= .seq (.cond (zv 30) (zq [za 2 (.const (zb false))] <| .ret) (.skip)) (ir98_k0)
noncomputable def ir98_k2:IR:= .reg [za 9 (zI .add (zv 9) (.const (zk 1)))]
noncomputable def ir98_k3:IR:= .seq (.block 1 (zq [za 11 (zv 9),za 13 (zM 6 (zx 6 (zv 7) (zv 9))),zE 5 (.alloc 44) 0,za 4 (zv 11),zw 44 (zt 5) (zt 13),za 6 (zI .sub (zL (zv 3)) (zL (zo 5 (zv 5))))] <| .seq (.drw [za 22 (zI .lss (zv 6) (.const (zk 0))),zg 22 false 25 (.op2 (.slLo 1) (zv 3) (zv 6)),zg 22 false 27 (zo 5 (zv 5)),zh 22 false 28 50 #[zt 25,zt 27] #[40,40] 4,za 30 (.ite (zv 22) (.const (zb true)) (zn (zv 28)))]) (ir98_k1))) (ir98_k2)
noncomputable def ir98_l4:IR:=zq [za 10 (zI .lss (zv 9) (zv 8))] <| .seq (.cond (zv 10) (.skip) (.exit 0)) (ir98_k3)
noncomputable def ir98_k5:IR:=zq [za 2 (zI .eql (zL (zv 3)) (.const (zk 1)))] <| .ret
noncomputable def ir98:IR:=zq [za 2 (.const (zb false)),za 3 (.const (.slice none 0 0)),za 7 (zv 0),za 8 (zL (zv 7)),za 9 (.const (zk 0))] <| .seq (.block 0 (.loop ir98_l4)) (ir98_k5)
def ir98_V:List Nat:=[0,2,3,4,5,6,7,8,9,10,11,13,22,25,27,28,30,34,35,36,37]
theorem ir98_calls:C1 98 42 ir98_V ir98 [.tmp 2]:=c1 [] Tryz.func98
noncomputable def ir146:IR:=zq [zE 3 (.box 44 (zt 0)) 0,za 4 (.const (zb false)),za 5 (zl (zv 1)),za 6 (zM 6 (zv 3)),zc 7 147 #[zt 5,zt 6,zt 2] #[29,44,178] 4,za 4 (zn (zv 7))] <| .ret
def ir146_V:List Nat:=[0,1,2,3,4,5,6,7]
theorem ir146_calls:C3 146 9 ir146_V ir146 [.tmp 4]:=c3 [] Tryz.func146
noncomputable def ir145:IR:=zq [za 4 (.const (zb false)),za 5 (zv 0),za 6 (zv 1),zc 7 224 #[zt 5,zt 6] #[29,98] 3,za 4 (zI .geq (zv 7) (.const (zk 0)))] <| .ret
def ir145_V:List Nat:=[0,1,4,5,6,7]
theorem ir145_calls:C2 145 9 ir145_V ir145 [.tmp 4]:=c2 [] Tryz.func145
noncomputable def ir224_k0:IR:= .reg [za 8 (zI .add (zv 8) (.const (zk 1)))]
noncomputable def ir224_k1:IR:= .seq (.block 1 (zq [za 5 (zv 8),za 11 (zv 1),za 15 (zM 6 (zx 6 (zv 0) (zv 5))),zE 16 (.call {callee:= .value (zt 11),args:= #[zt 15],argTypes:= #[44]}) 4] <| .cond (zv 16) (zq [za 4 (zv 5)] <| .ret) (.skip))) (ir224_k0)
noncomputable def ir224_l2:IR:=zq [za 9 (zI .lss (zv 8) (zv 7))] <| .seq (.cond (zv 9) (.skip) (.exit 0)) (ir224_k1)
noncomputable def ir224_k3:IR:=zq [za 4 (.const (.int .i64 (-1)))] <| .ret
noncomputable def ir224:IR:=zq [za 4 (.const (zk 0)),za 7 (zL (zv 0)),za 8 (.const (zk 0))] <| .seq (.block 0 (.loop ir224_l2)) (ir224_k3)
def ir224_V:List Nat:=[0,1,4,5,7,8,9,11,15,16]
theorem ir224_calls:C2 224 19 ir224_V ir224 [.tmp 4]:=c2 [] Tryz.func224
noncomputable def ir64_k0:IR:=zq [zc 26 144 #[] #[] 175,zE 5 (.alloc 175) 0,zw 175 (zt 5) (zt 26),za 27 (zl (zv 2)),zE 28 (.makeFunc (.func 146) #[] #[zt 2,zt 5]) 98,zc 29 145 #[zt 27,zt 28] #[29,98] 4,za 4 (zn (zv 29))] <| .ret
noncomputable def ir64:IR:=zq [zE 2 (.box 29 (zt 0)) 0,za 4 (.const (zb false)),za 7 (zL (zl (zv 2))),zc 8 127 #[zt 7,(.const (zk 1)),(.const (zk 400))] #[3,3,3] 4,za 10 (zn (zv 8)),zg 10 false 11 (zl (zv 2)),zh 10 false 12 98 #[zt 11] #[29] 4,za 15 (.ite (zv 10) (.const (zb true)) (zn (zv 12))),zg 15 false 16 (zv 1),zg 15 false 22 (zM 6 (zx 6 (zl (zv 2)) (zI .sub (zL (zl (zv 2))) (.const (zk 1))))), .eff (some (15,false)) (some 23) (.call {callee:= .value (zt 16),args:= #[zt 22],argTypes:= #[44]}) 4,za 25 (.ite (zv 15) (.const (zb true)) (zn (zv 23)))] <| .seq (.cond (zv 25) (zq [za 4 (.const (zb false))] <| .ret) (.skip)) (ir64_k0)
def ir64_V:List Nat:=[0,1,2,4,5,7,8,10,11,12,15,16,22,23,25,26,27,28,29]
theorem ir64_calls:C2 64 31 ir64_V ir64 [.tmp 4]:=c2 [] Tryz.func64
noncomputable def ir26_k0:IR:=zq [za 2 (.const (zk 0))] <| .ret
noncomputable def ir26:IR:=zq [za 2 (.const (zk 0)),za 3 (zv 0),zc 4 64 #[zt 3,(.func 80)] #[29,98] 4,za 5 (zn (zv 4))] <| .seq (.cond (zv 5) (zq [za 2 (.const (zk 21))] <| .ret) (.skip)) (ir26_k0)
def ir26_V:List Nat:=[0,2,3,4,5]
theorem ir26_calls:C1 26 6 ir26_V ir26 [.tmp 2]:=c1 [] Tryz.func26
end Go.L02
namespace Go.L02
open Go Go.Eng Go.RowKit
open Go.Proofs hiding encI
open Go.L01 (Bs Tok encT SlT Own.same retK_c1 isName)
set_option maxRecDepth 100000
set_option maxHeartbeats 1000000
@[simp] theorem cbV127:callB Tryz.prog 127=true:=by kernel_rfl
@[simp] theorem cbV22:callB Tryz.prog 22=true:=by kernel_rfl
@[simp] theorem cbV24:callB Tryz.prog 24=true:=by kernel_rfl
@[simp] theorem cbV280:callB Tryz.prog 280=true:=by kernel_rfl
@[simp] theorem cbV220:callB Tryz.prog 220=true:=by kernel_rfl
@[simp] theorem cbV223:callB Tryz.prog 223=true:=by kernel_rfl
@[simp] theorem cbV225:callB Tryz.prog 225=true:=by kernel_rfl
@[simp] theorem cbV226:callB Tryz.prog 226=true:=by kernel_rfl
@[simp] theorem cbV218:callB Tryz.prog 218=true:=by kernel_rfl
@[simp] theorem cbV145:callB Tryz.prog 145=true:=by kernel_rfl
@[simp] theorem cbV147:callB Tryz.prog 147=true:=by kernel_rfl
@[simp] theorem cbV98:callB Tryz.prog 98=true:=by kernel_rfl
@[simp] theorem cbV224:callB Tryz.prog 224=true:=by kernel_rfl
@[simp] theorem cbV144:callB Tryz.prog 144=true:=by kernel_rfl
theorem p_in (w:World) (n a b:Int):Calls Tryz.prog 127 #[.int .i64 n, .int .i64 a, .int .i64 b] w fun e w'=>e= .returned (.bool (decide (a≤n)&&decide (n≤b)))∧w'=w:=by
 refine ir127_calls fun ρ r0 r1 r2=> ?_
 by_cases h:a≤n
 ·simp -implicitDefEqProofs [ir127,r0,r1,r2,h]
 ·simp -implicitDefEqProofs [ir127,r0,r1,r2,h]
theorem k8 {n:Nat} (h:n<256):IntKind.i64.wrap (n:Int)=(n:Int):=i64w (by omega)
def ndA (x:NV):Value:= .agg (ndV x).toArray
theorem ndA_cells {x:NV} (h:isSl x.kv=true):(ndA x).cells=(ndV x).toArray:=by
 simp [ndA,ndV,Value.cells,isSl_cells h]
section
variable {w:World} {x:NV}
theorem p_isExpr (hx:isSl x.kv=true) (hk:x.nd.d.kind<256):Calls Tryz.prog 65 #[ndA x] w fun e w'=>e= .returned (.bool (isExprK x.nd.d.kind))∧Ext w w':=by
 refine ir65_calls fun ρ r0=> ?_
 simp -implicitDefEqProofs [ir65]
 refine eff_box fun X w1 hX hE1 hb1 _=> ?_
 rw [show evE ρ (.tmp 0)=ndA x by simp [r0],ndA_cells hx] at hb1
 have c0:w1.cell? ⟨X,0,none⟩=some (.int .u8 (x.nd.d.kind:Int)):=by rw [hb1.cell];rfl
 simp -implicitDefEqProofs [c0,k8 hk]
 refine (p_in w1 _ 1 10).mono ?_
 rintro _ _ ⟨rfl,rfl⟩
 simp -implicitDefEqProofs
 refine ⟨?_,hE1⟩
 simp only [isExprK]
 congr 1
 ·exact decide_eq_decide.2 (by omega)
 ·exact decide_eq_decide.2 (by omega)
theorem p_isBlock (hx:isSl x.kv=true):Calls Tryz.prog 80 #[ndA x] w fun e w'=>e= .returned (.bool (isK1 20 x.nd.d.kind))∧Ext w w':=by
 refine ir80_calls fun ρ r0=> ?_
 simp -implicitDefEqProofs [ir80]
 refine eff_box fun X w1 hX hE1 hb1 _=> ?_
 rw [show evE ρ (.tmp 0)=ndA x by simp [r0],ndA_cells hx] at hb1
 have c0:w1.cell? ⟨X,0,none⟩=some (.int .u8 (x.nd.d.kind:Int)):=by rw [hb1.cell];rfl
 simp -implicitDefEqProofs [c0]
 refine ⟨?_,hE1⟩
 simp only [isK1]
 exact decide_eq_decide.2 (by omega)
theorem p_isStmt (hx:isSl x.kv=true) (hk:x.nd.d.kind<256):Calls Tryz.prog 222 #[ndA x] w fun e w'=>e= .returned (.bool (isStmtK x.nd.d.kind))∧Ext w w':=by
 refine ir222_calls fun ρ r0=> ?_
 simp -implicitDefEqProofs [ir222]
 refine eff_box fun X w1 hX hE1 hb1 _=> ?_
 rw [show evE ρ (.tmp 0)=ndA x by simp [r0],ndA_cells hx] at hb1
 have c0:w1.cell? ⟨X,0,none⟩=some (.int .u8 (x.nd.d.kind:Int)):=by rw [hb1.cell];rfl
 simp -implicitDefEqProofs [c0,k8 hk]
 refine (p_in w1 _ 21 31).mono ?_
 rintro _ _ ⟨rfl,rfl⟩
 generalize x.nd.d.kind=k at hk⊢
 by_cases h1:(21:Int)≤(k:Int)<;>by_cases h2:(k:Int)≤31<;>by_cases h3:(k:Int)=32<;>by_cases h4:(k:Int)=34<;>by_cases h5:(k:Int)=35<;>by_cases h6:(k:Int)=37<;>
  first
  |(exfalso;omega)
  |(simp -implicitDefEqProofs [h1,h2,h3,h4,h5,h6]
    refine ⟨?_,hE1⟩
    unfold isStmtK
    first
    |(simp;omega)
    |(rw [Bool.eq_iff_iff];simp;omega))
theorem p_isKind1 {P:Nat} {k:Nat} (hx:isSl x.kv=true) (hP:Blk w P #[.int .u8 (k:Int)] 5):Calls Tryz.prog 279 #[ndA x, .pointer (some ⟨P,0,none⟩)] w fun e w'=>e= .returned (.bool (isK1 k x.nd.d.kind))∧Ext w w':=by
 refine ir279_calls fun ρ r0 r1=> ?_
 simp -implicitDefEqProofs [ir279]
 refine eff_box fun X w1 hX hE1 hb1 _=> ?_
 rw [show evE ρ (.tmp 0)=ndA x by simp [r0],ndA_cells hx] at hb1
 have c0:w1.cell? ⟨X,0,none⟩=some (.int .u8 (x.nd.d.kind:Int)):=by rw [hb1.cell];rfl
 have c1:w1.cell? ⟨P,0,none⟩=some (.int .u8 (k:Int)):=by rw [(hP.ext hE1).cell];rfl
 simp -implicitDefEqProofs [c0,c1,r1]
 refine ⟨?_,hE1⟩
 simp only [isK1]
 exact decide_eq_decide.2 (by omega)
theorem p_upTo1 {P:Nat} {m n:Int} (hP:Blk w P #[.int .i64 m] 3):Calls Tryz.prog 278 #[.int .i64 n, .pointer (some ⟨P,0,none⟩)] w fun e w'=>e= .returned (.bool (upTo m n))∧Ext w w':=by
 refine ir278_calls fun ρ r0 r1=> ?_
 have c1:w.cell? ⟨P,0,none⟩=some (.int .i64 m):=by rw [hP.cell];rfl
 simp -implicitDefEqProofs [ir278,r0,r1,c1]
 refine (p_in w n 0 m).mono ?_
 rintro _ _ ⟨rfl,rfl⟩
 simp -implicitDefEqProofs
 exact ⟨rfl,ext_refl _⟩
theorem p_operators (s:Bs):Calls Tryz.prog 221 #[.string (mkS s)] w fun e w'=>e= .returned (.bool (operators.contains s))∧Ext w w':=by
 refine ir221_calls fun ρ r0=> ?_
 simp -implicitDefEqProofs [ir221]
 refine eff_lit si51 (by decide) rfl (by simp [Value.cells]) fun Z w1 hZ hE1 hb1 _=> ?_
 simp -implicitDefEqProofs [Value.cells,r0] at hb1⊢
 refine (L01.s_contains s (slt_lit (l:=operators) (by simpa [operators,encT,mkS] using hb1) (by decide))).mono ?_
 rintro _ _ ⟨rfl,rfl⟩
 simp -implicitDefEqProofs
 exact hE1
theorem p_any (v:Value):Calls Tryz.prog 219 #[v] w fun e w'=>e= .returned (.bool true)∧Ext w w':=by
 refine ir219_calls fun ρ r0=> ?_
 simp -implicitDefEqProofs [ir219]
 exact ext_refl _
theorem p_maybe (hG:L01.G w) (s:Bs) (hs:s.length<4294967281):Calls Tryz.prog 280 #[.string (mkS s)] w fun e w'=>e= .returned (.bool (decide (s=[])||isType s))∧Ext w w':=by
 refine ir280_calls fun ρ r0=> ?_
 have e0:(⟨#[]⟩:ByteArray)=mkS []:=rfl
 by_cases h:s=[]
 ·subst h
  simp -implicitDefEqProofs [ir280,r0,e0]
  exact ext_refl _
 ·simp -implicitDefEqProofs [ir280,r0,e0,mkS_inj,h]
  refine (p_IsType hG s (by omega)).mono ?_
  rintro _ w1 ⟨rfl,hE1⟩
  simp -implicitDefEqProofs
  exact hE1
theorem p_called (hG:L01.G w) (hM:MaxL w) (hx:isSl x.kv=true) (h1:x.nd.d.name.length<4294967281) (h2:x.nd.d.vr.length<4294967281) (h3:x.nd.d.typ.length<4294967281):Calls Tryz.prog 226 #[ndA x] w fun e w'=>e= .returned (.bool (called x.nd.d))∧Ext w w':=by
 refine ir226_calls fun ρ r0=> ?_
 have e0:(⟨#[]⟩:ByteArray)=mkS []:=rfl
 simp -implicitDefEqProofs [ir226]
 refine eff_box fun X w1 hX hE1 hb1 _=> ?_
 rw [show evE ρ (.tmp 0)=ndA x by simp [r0],ndA_cells hx] at hb1
 have cc:∀W,Ext w1 W→W.cell? ⟨X,1,none⟩=some (.string (mkS x.nd.d.name))∧W.cell? ⟨X,2,none⟩=some (.string (mkS x.nd.d.vr))∧W.cell? ⟨X,3,none⟩=some (.string (mkS x.nd.d.typ)):=fun W hE=>by
  have:=(hb1.ext hE)
  refine ⟨by rw [this.cell];rfl,by rw [this.cell];rfl,by rw [this.cell];rfl⟩
 have c:=cc w1 (ext_refl _)
 have hG1:=hG.ext hE1
 unfold called
 by_cases hv:x.nd.d.vr=[]
 ·simp -implicitDefEqProofs [c,e0,mkS_inj,hv]
  refine (L01.t_isName hG1 _).mono ?_
  rintro _ w2 ⟨rfl,hE2⟩
  have c2:=cc w2 hE2
  cases hn:isName x.nd.d.name with
  |false=>
   simp -implicitDefEqProofs
   exact hE1.trans' hE2
  |true=>
   simp -implicitDefEqProofs [c2]
   refine (p_maybe (hG1.ext hE2) _ h3).mono ?_
   rintro _ w3 ⟨rfl,hE3⟩
   simp -implicitDefEqProofs
   exact (hE1.trans' hE2).trans' hE3
 ·simp -implicitDefEqProofs [c,e0,mkS_inj,hv,ir226_k0]
  refine (p_IsType hG1 _ (by omega)).mono ?_
  rintro _ w2 ⟨rfl,hE2⟩
  have c2:=cc w2 hE2
  cases hn:isType x.nd.d.vr with
  |false=>
   simp -implicitDefEqProofs
   exact hE1.trans' hE2
  |true=>
   simp -implicitDefEqProofs [c2]
   refine (p_IsOp (hG1.ext hE2) ((hM.ext hE1).ext hE2) _ h1).mono ?_
   rintro _ w3 ⟨rfl,hE3⟩
   have c3:=cc w3 (hE2.trans' hE3)
   cases ho:isOp x.nd.d.name with
   |false=>
    simp -implicitDefEqProofs
    exact (hE1.trans' hE2).trans' hE3
   |true=>
    simp -implicitDefEqProofs [c3,e0,mkS_inj]
    exact (hE1.trans' hE2).trans' hE3
end
def FnV (F:FuncId) (caps:Array Value):Value:= .func (.func F) #[] caps
def StrF (_:World) (v:Value) (f:Bs→Bool):Prop:=(v=FnV 77 #[]∧f=isName)∨(v=FnV 22 #[]∧f=isType)∨(v=FnV 221 #[]∧f=operators.contains)∨(v=FnV 219 #[]∧f=anyB)
def KndF (w:World) (v:Value) (f:Nat→Bool):Prop:=(v=FnV 65 #[]∧f=isExprK)∨(v=FnV 80 #[]∧f=isK1 20)∨(v=FnV 222 #[]∧f=isStmtK)∨∃(P k:Nat),v=FnV 279 #[.pointer (some ⟨P,0,none⟩)]∧Blk w P #[.int .u8 (k:Int)] 5∧f=isK1 k
def NumF (w:World) (v:Value) (f:Int→Bool):Prop:=∃(P:Nat) (m:Int),v=FnV 278 #[.pointer (some ⟨P,0,none⟩)]∧Blk w P #[.int .i64 m] 3∧f=upTo m
section
variable {w w':World} {v:Value} {p:Nat→TypeId→Prop}
theorem StrF.at' {f:Bs→Bool} (h:StrF w v f):StrF w' v f:=h
theorem KndF.at' {f:Nat→Bool} (h:KndF w v f) (hs:SameAt p w w') (hp:∀k,p k 5):KndF w' v f:=by
 rcases h with h|h|h|⟨P,k,h1,h2,h3⟩
 ·exact .inl h
 ·exact .inr (.inl h)
 ·exact .inr (.inr (.inl h))
 ·exact .inr (.inr (.inr ⟨P,k,h1,h2.at' hs (hp P),h3⟩))
theorem NumF.at' {f:Int→Bool} (h:NumF w v f) (hs:SameAt p w w') (hp:∀k,p k 3):NumF w' v f:=by
 obtain ⟨P,m,h1,h2,h3⟩:=h
 exact ⟨P,m,h1,h2.at' hs (hp P),h3⟩
theorem StrF.fn {f:Bs→Bool} (h:StrF w v f) (hG:L01.G w):∃F caps,v=FnV F caps∧callB Tryz.prog F=true∧∀s:Bs,s.length<4294967281→Calls Tryz.prog F (#[.string (mkS s)]++caps) w fun e w'=>e= .returned (.bool (f s))∧Ext w w':=by
 rcases h with ⟨rfl,rfl⟩|⟨rfl,rfl⟩|⟨rfl,rfl⟩|⟨rfl,rfl⟩
 ·exact ⟨77, #[],rfl,by kernel_rfl,fun s _=>by simpa using L01.t_isName hG s⟩
 ·exact ⟨22, #[],rfl,by kernel_rfl,fun s hs=>by simpa using p_IsType hG s (by omega)⟩
 ·exact ⟨221, #[],rfl,by kernel_rfl,fun s hs=>by simpa using p_operators s⟩
 ·exact ⟨219, #[],rfl,by kernel_rfl,fun s hs=>p_any (w:=w) (.string (mkS s))⟩
theorem KndF.fn {f:Nat→Bool} (h:KndF w v f):∃F caps,v=FnV F caps∧callB Tryz.prog F=true∧∀W,Ext w W→∀x:NV,isSl x.kv=true→x.nd.d.kind<256→Calls Tryz.prog F (#[ndA x]++caps) W fun e w'=>e= .returned (.bool (f x.nd.d.kind))∧Ext W w':=by
 rcases h with ⟨rfl,rfl⟩|⟨rfl,rfl⟩|⟨rfl,rfl⟩|⟨P,k,rfl,hP,rfl⟩
 ·exact ⟨65, #[],rfl,by kernel_rfl,fun W _ x hx hk=>by simpa using p_isExpr hx hk⟩
 ·exact ⟨80, #[],rfl,by kernel_rfl,fun W _ x hx _=>by simpa using p_isBlock hx⟩
 ·exact ⟨222, #[],rfl,by kernel_rfl,fun W _ x hx hk=>by simpa using p_isStmt hx hk⟩
 ·exact ⟨279, #[.pointer (some ⟨P,0,none⟩)],rfl,by kernel_rfl,fun W hE x hx _=>by simpa using p_isKind1 hx (hP.ext hE)⟩
theorem NumF.fn {f:Int→Bool} (h:NumF w v f):∃F caps,v=FnV F caps∧callB Tryz.prog F=true∧∀W,Ext w W→∀n:Int,Calls Tryz.prog F (#[.int .i64 n]++caps) W fun e w'=>e= .returned (.bool (f n))∧Ext W w':=by
 obtain ⟨P,m,rfl,hP,rfl⟩:=h
 exact ⟨278, #[.pointer (some ⟨P,0,none⟩)],rfl,by kernel_rfl,fun W hE n=>by simpa using p_upTo1 (hP.ext hE)⟩
theorem kf_expr:KndF w (FnV 65 #[]) isExprK:= .inl ⟨rfl,rfl⟩
theorem kf_block:KndF w (FnV 80 #[]) (isK1 20):= .inr (.inl ⟨rfl,rfl⟩)
theorem kf_stmt:KndF w (FnV 222 #[]) isStmtK:= .inr (.inr (.inl ⟨rfl,rfl⟩))
theorem sf_name:StrF w (FnV 77 #[]) isName:= .inl ⟨rfl,rfl⟩
theorem sf_type:StrF w (FnV 22 #[]) isType:= .inr (.inl ⟨rfl,rfl⟩)
theorem sf_oper:StrF w (FnV 221 #[]) operators.contains:= .inr (.inr (.inl ⟨rfl,rfl⟩))
theorem sf_any:StrF w (FnV 219 #[]) anyB:= .inr (.inr (.inr ⟨rfl,rfl⟩))
theorem KndF.is {f:Nat→Bool} (h:KndF w v f):∃F caps,v=FnV F caps:=by obtain ⟨F,caps,h,_⟩:=h.fn;exact ⟨F,caps,h⟩
theorem NumF.is {f:Int→Bool} (h:NumF w v f):∃F caps,v=FnV F caps:=by obtain ⟨F,caps,h,_⟩:=h.fn;exact ⟨F,caps,h⟩
theorem StrF.is {f:Bs→Bool} (h:StrF w v f):∃F caps,v=FnV F caps:=by
 rcases h with ⟨rfl,_⟩|⟨rfl,_⟩|⟨rfl,_⟩|⟨rfl,_⟩<;>exact ⟨_,_,rfl⟩
theorem p_isKind (k:Nat):Calls Tryz.prog 223 #[.int .u8 (k:Int)] w fun e w'=>∃v,e= .returned v∧KndF w' v (isK1 k)∧Ext w w':=by
 refine ir223_calls fun ρ r0=> ?_
 simp -implicitDefEqProofs [ir223]
 refine eff_box fun X w1 hX hE1 hb1 _=> ?_
 simp -implicitDefEqProofs [r0,Value.cells] at hb1⊢
 exact ⟨.inr (.inr (.inr ⟨X,k,rfl,hb1,rfl⟩)),hE1⟩
theorem p_upTo (m:Int):Calls Tryz.prog 220 #[.int .i64 m] w fun e w'=>∃v,e= .returned v∧NumF w' v (upTo m)∧Ext w w':=by
 refine ir220_calls fun ρ r0=> ?_
 simp -implicitDefEqProofs [ir220]
 refine eff_box fun X w1 hX hE1 hb1 _=> ?_
 simp -implicitDefEqProofs [r0,Value.cells] at hb1⊢
 exact ⟨⟨X,m,rfl,hb1,rfl⟩,hE1⟩
end
def OptF {α:Type} (R:Value→α→Prop) (v:Value):Option α→Prop
 |none=>v= .nilFunc
 |some f=>R v f
theorem OptF.imp {α:Type} {R R':Value→α→Prop} {v:Value} (h:∀f,R v f→R' v f):∀{o:Option α},OptF R v o→OptF R' v o
 |none,h1=>h1
 |some _,h1=>h _ h1
end Go.L02
namespace Go.L02
open Go Go.Eng Go.Proofs
set_option maxRecDepth 100000
set_option maxHeartbeats 2000000
noncomputable def ir144_body:Code:=((Tryz.f144.body).getD .skip)
noncomputable def ir144_k0:IR:= .ret
noncomputable def ir144:IR:=zq [zE 0 (.alloc 175) 0,za 1 (.const (.func (.func 218) #[] #[])),zE 4 (.build 241 #[(0,(.func 77)),(2,(.func 22))]) 241,zE 2 (.alloc 241) 0,zw 241 (zt 2) (zt 4),za 3 (.const (.func (.func 219) #[] #[]))] <| .seq (.raw (rawReg ir144_body 4)) (ir144_k0)
def ir144_V:List Nat:=[0,1,2,3,4,5,6,7,8,9,10,11,12,13,14,15,16,17,18,19,20,21,22,23,24,25,26,27,28,29,30,31,32,33,34,35,36,37,38,39,40,41,42,43,44,45,46,47,48,49,50,51,52,53,54,55,56,57,58,59,60,61,62,63,64,65,66,67,68,69,70,71,72,73,74,75,76,77,78,79,80,81,82,83,84,85,86,87,88,89,90,91,92,93,94,95,96,97,98,99,100,101,102,103,104,105,106,107,108,109,110,111,112]
theorem ir144_calls:C0 144 113 ir144_V ir144 [.cellN 0 38]:=c0 [4] Tryz.func144
def ir144_s4:List (Option St):=
 [some (.asg none 5 (.var 1)),
  some (.eff none (some 6) (.call {callee:= .value (.func 220),args:= #[(.const (.int .i64 1000000000))],argTypes:= #[3]}) 238),
  some (.eff none (some 7) (.build 241 #[(3,(.tmp 6))]) 241),
  some (.eff none (some 8) (.call {callee:= .value (.tmp 5),args:= #[(.tmp 7),(.const (.slice none 0 0))],argTypes:= #[241,239]}) 174),
  some (.asg none 9 (.var 1)),
  some (.eff none (some 10) (.call {callee:= .value (.func 220),args:= #[(.const (.int .i64 1))],argTypes:= #[3]}) 238),
  some (.eff none (some 11) (.build 241 #[(3,(.tmp 10))]) 241),
  some (.eff none (some 12) (.call {callee:= .value (.tmp 9),args:= #[(.tmp 11),(.const (.slice none 0 0))],argTypes:= #[241,239]}) 174),
  some (.asg none 13 (.var 1)),
  some (.eff none (some 14) (.build 241 #[]) 241),
  some (.eff none (some 15) (.call {callee:= .value (.tmp 13),args:= #[(.tmp 14),(.const (.slice none 0 0))],argTypes:= #[241,239]}) 174),
  some (.asg none 16 (.var 1)),
  some (.eff none (some 17) (.build 241 #[(0,(.func 77))]) 241),
  some (.eff none (some 18) (.call {callee:= .value (.tmp 16),args:= #[(.tmp 17),(.const (.slice none 0 0))],argTypes:= #[241,239]}) 174),
  some (.asg none 19 (.var 3)),
  some (.asg none 20 (.var 3)),
  some (.asg none 21 (.var 3)),
  some (.eff none (some 22) (.build 241 #[(0,(.tmp 19)),(1,(.tmp 20)),(2,(.tmp 21)),(5,(.func 65)),(7,(.const (.int .i64 6)))]) 241),
  some (.eff none (some 23) (.box 241 (.tmp 22)) 174),
  some (.eff none (some 24) (.buildSlice 239 2 #[(0,(.func 65)),(1,(.func 65))]) 239),
  some (.eff none (some 25) (.build 241 #[(0,(.func 221)),(4,(.tmp 24)),(6,(.const (.int .i64 1))),(7,(.const (.int .i64 2)))]) 241),
  some (.eff none (some 26) (.box 241 (.tmp 25)) 174),
  some (.asg none 27 (.var 1)),
  some (.eff none (some 28) (.build 241 #[]) 241),
  some (.eff none (some 29) (.buildSlice 239 2 #[(0,(.func 65)),(1,(.func 65))]) 239),
  some (.eff none (some 30) (.call {callee:= .value (.tmp 27),args:= #[(.tmp 28),(.tmp 29)],argTypes:= #[241,239]}) 174),
  some (.asg none 31 (.var 1)),
  some (.eff none (some 32) (.build 241 #[(0,(.func 77))]) 241),
  some (.eff none (some 33) (.buildSlice 239 1 #[(0,(.func 65))]) 239),
  some (.eff none (some 34) (.call {callee:= .value (.tmp 31),args:= #[(.tmp 32),(.tmp 33)],argTypes:= #[241,239]}) 174),
  some (.asg none 35 (.var 1)),
  some (.eff none (some 36) (.build 241 #[]) 241),
  some (.eff none (some 37) (.buildSlice 239 1 #[(0,(.func 65))]) 239),
  some (.eff none (some 38) (.call {callee:= .value (.tmp 35),args:= #[(.tmp 36),(.tmp 37)],argTypes:= #[241,239]}) 174),
  some (.asg none 39 (.var 1)),
  some (.eff none (some 40) (.build 241 #[]) 241),
  some (.eff none (some 41) (.buildSlice 239 1 #[(0,(.func 65))]) 239),
  some (.eff none (some 42) (.call {callee:= .value (.tmp 39),args:= #[(.tmp 40),(.tmp 41)],argTypes:= #[241,239]}) 174),
  some (.eff none (some 43) (.build 241 #[(5,(.func 222)),(7,(.const (.int .i64 400)))]) 241),
  some (.eff none (some 44) (.box 241 (.tmp 43)) 174),
  some (.asg none 45 (.var 1)),
  some (.asg none 46 (.op1 (.loadN 8) (.var 2))),
  some (.eff none (some 47) (.buildSlice 239 1 #[(0,(.func 65))]) 239),
  some (.eff none (some 48) (.call {callee:= .value (.tmp 45),args:= #[(.tmp 46),(.tmp 47)],argTypes:= #[241,239]}) 174),
  some (.asg none 49 (.var 1)),
  some (.eff none (some 50) (.build 241 #[(0,(.func 77))]) 241),
  some (.eff none (some 51) (.buildSlice 239 1 #[(0,(.func 65))]) 239),
  some (.eff none (some 52) (.call {callee:= .value (.tmp 49),args:= #[(.tmp 50),(.tmp 51)],argTypes:= #[241,239]}) 174),
  some (.asg none 53 (.var 1)),
  some (.eff none (some 54) (.build 241 #[]) 241),
  some (.eff none (some 55) (.buildSlice 239 3 #[(0,(.func 65)),(1,(.func 65)),(2,(.func 65))]) 239),
  some (.eff none (some 56) (.call {callee:= .value (.tmp 53),args:= #[(.tmp 54),(.tmp 55)],argTypes:= #[241,239]}) 174),
  some (.asg none 57 (.var 1)),
  some (.eff none (some 58) (.build 241 #[(0,(.func 77))]) 241),
  some (.eff none (some 59) (.buildSlice 239 2 #[(0,(.func 65)),(1,(.func 65))]) 239),
  some (.eff none (some 60) (.call {callee:= .value (.tmp 57),args:= #[(.tmp 58),(.tmp 59)],argTypes:= #[241,239]}) 174),
  some (.asg none 61 (.var 1)),
  some (.eff none (some 62) (.build 241 #[]) 241),
  some (.eff none (some 63) (.call {callee:= .value (.func 223),args:= #[(.const (.int .u8 5))],argTypes:= #[5]}) 98),
  some (.eff none (some 64) (.buildSlice 239 1 #[(0,(.tmp 63))]) 239),
  some (.eff none (some 65) (.call {callee:= .value (.tmp 61),args:= #[(.tmp 62),(.tmp 64)],argTypes:= #[241,239]}) 174),
  some (.eff none (some 66) (.buildSlice 239 3 #[(0,(.func 65)),(1,(.func 80)),(2,(.func 80))]) 239),
  some (.eff none (some 67) (.build 241 #[(4,(.tmp 66)),(6,(.const (.int .i64 2))),(7,(.const (.int .i64 3)))]) 241),
  some (.eff none (some 68) (.box 241 (.tmp 67)) 174),
  some (.asg none 69 (.var 1)),
  some (.eff none (some 70) (.build 241 #[]) 241),
  some (.eff none (some 71) (.buildSlice 239 2 #[(0,(.func 65)),(1,(.func 80))]) 239),
  some (.eff none (some 72) (.call {callee:= .value (.tmp 69),args:= #[(.tmp 70),(.tmp 71)],argTypes:= #[241,239]}) 174),
  some (.asg none 73 (.var 1)),
  some (.asg none 74 (.op1 (.loadN 8) (.var 2))),
  some (.eff none (some 75) (.call {callee:= .value (.func 223),args:= #[(.const (.int .u8 5))],argTypes:= #[5]}) 98),
  some (.eff none (some 76) (.buildSlice 239 2 #[(0,(.tmp 75)),(1,(.func 80))]) 239),
  some (.eff none (some 77) (.call {callee:= .value (.tmp 73),args:= #[(.tmp 74),(.tmp 76)],argTypes:= #[241,239]}) 174),
  some (.eff none (some 78) (.buildSlice 239 1 #[(0,(.func 65))]) 239),
  some (.eff none (some 79) (.build 241 #[(4,(.tmp 78)),(7,(.const (.int .i64 1)))]) 241),
  some (.eff none (some 80) (.box 241 (.tmp 79)) 174),
  some (.asg none 81 (.var 1)),
  some (.eff none (some 82) (.build 241 #[]) 241),
  some (.eff none (some 83) (.buildSlice 239 1 #[(0,(.func 65))]) 239),
  some (.eff none (some 84) (.call {callee:= .value (.tmp 81),args:= #[(.tmp 82),(.tmp 83)],argTypes:= #[241,239]}) 174),
  some (.asg none 85 (.var 1)),
  some (.eff none (some 86) (.build 241 #[(0,(.func 77))]) 241),
  some (.eff none (some 87) (.call {callee:= .value (.tmp 85),args:= #[(.tmp 86),(.const (.slice none 0 0))],argTypes:= #[241,239]}) 174),
  some (.eff none (some 88) (.buildSlice 239 1 #[(0,(.func 80))]) 239),
  some (.eff none (some 89) (.call {callee:= .value (.func 223),args:= #[(.const (.int .u8 33))],argTypes:= #[5]}) 98),
  some (.eff none (some 90) (.build 241 #[(4,(.tmp 88)),(5,(.tmp 89)),(6,(.const (.int .i64 2))),(7,(.const (.int .i64 400)))]) 241),
  some (.eff none (some 91) (.box 241 (.tmp 90)) 174),
  some (.asg none 92 (.var 1)),
  some (.asg none 93 (.var 3)),
  some (.eff none (some 94) (.build 241 #[(0,(.tmp 93))]) 241),
  some (.eff none (some 95) (.buildSlice 239 1 #[(0,(.func 80))]) 239),
  some (.eff none (some 96) (.call {callee:= .value (.tmp 92),args:= #[(.tmp 94),(.tmp 95)],argTypes:= #[241,239]}) 174),
  some (.asg none 97 (.var 1)),
  some (.eff none (some 98) (.build 241 #[]) 241),
  some (.eff none (some 99) (.call {callee:= .value (.tmp 97),args:= #[(.tmp 98),(.const (.slice none 0 0))],argTypes:= #[241,239]}) 174),
  some (.eff none (some 100) (.buildSlice 239 1 #[(0,(.func 65))]) 239),
  some (.eff none (some 101) (.call {callee:= .value (.func 223),args:= #[(.const (.int .u8 36))],argTypes:= #[5]}) 98),
  some (.eff none (some 102) (.build 241 #[(4,(.tmp 100)),(5,(.tmp 101)),(6,(.const (.int .i64 2))),(7,(.const (.int .i64 400)))]) 241),
  some (.eff none (some 103) (.box 241 (.tmp 102)) 174),
  some (.asg none 104 (.var 1)),
  some (.eff none (some 105) (.build 241 #[(0,(.func 77)),(1,(.func 77)),(2,(.func 22))]) 241),
  some (.eff none (some 106) (.buildSlice 239 1 #[(0,(.func 80))]) 239),
  some (.eff none (some 107) (.call {callee:= .value (.tmp 104),args:= #[(.tmp 105),(.tmp 106)],argTypes:= #[241,239]}) 174),
  some (.asg none 108 (.var 1)),
  some (.eff none (some 109) (.build 241 #[]) 241),
  some (.eff none (some 110) (.buildSlice 239 1 #[(0,(.func 65))]) 239),
  some (.eff none (some 111) (.call {callee:= .value (.tmp 108),args:= #[(.tmp 109),(.tmp 110)],argTypes:= #[241,239]}) 174),
  some (.eff none (some 112) (.build 175 #[(1,(.tmp 8)),(2,(.tmp 12)),(3,(.tmp 15)),(4,(.tmp 18)),(5,(.tmp 23)),(6,(.tmp 26)),(7,(.tmp 30)),(8,(.tmp 34)),(9,(.tmp 38)),(10,(.tmp 42)),(20,(.tmp 44)),(21,(.tmp 48)),(22,(.tmp 52)),(23,(.tmp 56)),(24,(.tmp 60)),(25,(.tmp 65)),(26,(.tmp 68)),(27,(.tmp 72)),(28,(.tmp 77)),(29,(.tmp 80)),(30,(.tmp 84)),(31,(.tmp 87)),(32,(.tmp 91)),(33,(.tmp 96)),(34,(.tmp 99)),(35,(.tmp 103)),(36,(.tmp 107)),(37,(.tmp 111))]) 175),
  some (.eff none none (.store 175 (.tmp 0) (.tmp 112)) 0)]
def ir144_d4:List (List Nat):=
 [[],[],[1],[0,2,1],[],[3],[5],[4,6,5],[],[],[8,9,7],[],[],[11,12,10],[],[],[],[14,15,16],[17],[],[19],[20],[],[],[],[22,23,24,13],[],[],[],[26,27,28,25],[],[],[],[30,31,32,29],[],[],[],[34,35,36,33],[],[38],[],[],[],[40,41,42,37],[],[],[],[44,45,46,43],[],[],[],[48,49,50,47],[],[],[],[52,53,54,51],[],[],[55],[58],[56,57,59,58],[],[61],[62],[],[],[],[64,65,66,60],[],[],[67],[70],[68,69,71,70],[],[73],[74],[],[],[],[76,77,78,72],[],[],[80,81,79],[],[82],[83,84],[85],[],[],[88],[],[87,89,90,84],[],[],[92,93,91],[],[94],[95,96],[97],[],[],[],[99,100,101,96],[],[],[],[103,104,105,102],[3,7,10,13,18,21,25,29,33,37,39,43,47,51,55,60,63,67,72,75,79,82,86,91,94,98,102,106],[107,106,0,1,2,3,4,5,6,7,8,9,10,11,12,13,14,15,16,17,18,19,20,21,22,23,24,25,26,27,28,29,30,31,32,33,34,35,36,37,38,39,40,41,42,43,44,45,46,47,48,49,50,51,52,53,54,55,56,57,58,59,60,61,62,63,64,65,66,67,68,69,70,71,72,73,74,75,76,77,78,79,80,81,82,83,84,85,86,87,88,89,90,91,92,93,94,95,96,97,98,99,100,101,102,103,104,105,106,107]]
theorem ir144_s4_ok:stsOf Tryz.prog 113 ir144_V (rawReg ir144_body 4)=some ir144_s4:=by kernel_rfl
theorem ir144_d4_ok:depsOf (rawReg ir144_body 4)=ir144_d4:=by kernel_rfl
end Go.L02
namespace Go.L02
open Go Go.Eng Go.RowKit
open Go.Proofs hiding encI
open Go.L01 (Bs Tok encT SlT Own.same retK_c1 isName)
set_option maxRecDepth 100000
set_option maxHeartbeats 2000000
def KidsF (w:World) (v:Value) (l:List (Nat→Bool)):Prop:=(v= .slice none 0 0∧l=[])∨∃B cs,v= .slice (some ⟨B,0,none⟩) l.length l.length∧Blk w B (List.toArray cs) 98∧All2 (KndF w) cs l
theorem KidsF.nil {w:World}:KidsF w (.slice none 0 0) []:= .inl ⟨rfl,rfl⟩
theorem KidsF.cons {w:World} {v:Value} {l:List (Nat→Bool)} (h:KidsF w v l) (hl:l≠[]):∃B cs,v= .slice (some ⟨B,0,none⟩) l.length l.length∧Blk w B (List.toArray cs) 98∧All2 (KndF w) cs l:=by
 rcases h with ⟨_,h⟩|h
 ·exact absurd h hl
 ·exact h
def smT:Nat→TypeId→Prop:=fun _ T=>T≠175
theorem KidsF.at' {w w':World} {v:Value} {l:List (Nat→Bool)} (h:KidsF w v l) (hs:SameAt smT w w'):KidsF w' v l:=by
 rcases h with h|⟨B,cs,h1,h2,h3⟩
 ·exact .inl h
 ·exact .inr ⟨B,cs,h1,h2.at' hs (by simp [smT]),h3.imp fun _ _ h=>h.at' hs fun _=>by simp [smT]⟩
theorem KidsF.isl {w:World} {v:Value} {l:List (Nat→Bool)} (h:KidsF w v l) (hb:l.length<4611686018427387904:=by decide):isSl v=true:=by
 rcases h with ⟨rfl,_⟩|⟨B,cs,rfl,h2,h3⟩
 ·rfl
 ·simp [isSl];try omega
structure RowC (w:World) (nm vr ty nu fi mo:Value) (r:Row):Prop where
 name:OptF (StrF w) nm r.name
 vr:OptF (StrF w) vr r.vr
 typ:OptF (StrF w) ty r.typ
 n:OptF (NumF w) nu r.n
 first:KidsF w fi r.first
 more:OptF (KndF w) mo r.more
theorem RowC.at' {w w':World} {nm vr ty nu fi mo:Value} {r:Row} (h:RowC w nm vr ty nu fi mo r) (hs:SameAt smT w w'):RowC w' nm vr ty nu fi mo r:=
 ⟨h.name.imp fun _ h=>h,h.vr.imp fun _ h=>h,h.typ.imp fun _ h=>h,h.n.imp fun _ h=>h.at' hs fun _=>by simp [smT],h.first.at' hs,h.more.imp fun _ h=>h.at' hs fun _=>by simp [smT]⟩
def isFn:Value→Bool| .nilFunc=>true| .func .. =>true|_=>false
theorem fn_cells {v:Value} (h:isFn v=true):v.cells= #[v]∧v.oneCell=true:=by cases v<;>first|(cases h;done)|exact ⟨rfl,rfl⟩
theorem OptF.fnS {w:World} {v:Value}:∀{o:Option (Bs→Bool)},OptF (StrF w) v o→isFn v=true
 |none,h=>by cases h;rfl
 |some _,h=>by obtain ⟨F,caps,rfl⟩:=StrF.is (w:=w) h;rfl
theorem OptF.fnN {w:World} {v:Value}:∀{o:Option (Int→Bool)},OptF (NumF w) v o→isFn v=true
 |none,h=>by cases h;rfl
 |some _,h=>by obtain ⟨F,caps,rfl⟩:=NumF.is h;rfl
theorem OptF.fnK {w:World} {v:Value}:∀{o:Option (Nat→Bool)},OptF (KndF w) v o→isFn v=true
 |none,h=>by cases h;rfl
 |some _,h=>by obtain ⟨F,caps,rfl⟩:=KndF.is h;rfl
theorem KidsF.one {w:World} {v:Value} {l:List (Nat→Bool)} (h:KidsF w v l):v.cells= #[v]∧v.oneCell=true:=by
 rcases h with ⟨rfl,_⟩|⟨B,cs,rfl,_⟩<;>exact ⟨rfl,rfl⟩
def rowV (nm vr ty nu fi mo:Value) (r:Row):Array Value:= #[nm,vr,ty,nu,fi,mo, .int .i64 (r.least:Int), .int .i64 (r.most:Int)]
theorem RowC.cells {w:World} {nm vr ty nu fi mo:Value} {r:Row} (h:RowC w nm vr ty nu fi mo r):(Value.agg (rowV nm vr ty nu fi mo r)).cells=rowV nm vr ty nu fi mo r:=by
 have h1:=(fn_cells h.name.fnS).1
 have h2:=(fn_cells h.vr.fnS).1
 have h3:=(fn_cells h.typ.fnS).1
 have h4:=(fn_cells h.n.fnN).1
 have h5:=h.first.one.1
 have h6:=(fn_cells h.more.fnK).1
 simp [Value.cells,rowV,h1,h2,h3,h4,h5,h6]
def RowA (w:World) (v:Value) (r:Row):Prop:=∃nm vr ty nu fi mo,v= .agg (rowV nm vr ty nu fi mo r)∧RowC w nm vr ty nu fi mo r
def RowP (w:World) (v:Value) (r:Row):Prop:=∃X nm vr ty nu fi mo,v= .pointer (some ⟨X,0,none⟩)∧Blk w X (rowV nm vr ty nu fi mo r) 241∧RowC w nm vr ty nu fi mo r
theorem RowA.at' {w w':World} {v:Value} {r:Row} (h:RowA w v r) (hs:SameAt smT w w'):RowA w' v r:=by
 obtain ⟨nm,vr,ty,nu,fi,mo,h1,h2⟩:=h
 exact ⟨nm,vr,ty,nu,fi,mo,h1,h2.at' hs⟩
theorem RowP.at' {w w':World} {v:Value} {r:Row} (h:RowP w v r) (hs:SameAt smT w w'):RowP w' v r:=by
 obtain ⟨X,nm,vr,ty,nu,fi,mo,h1,h2,h3⟩:=h
 exact ⟨X,nm,vr,ty,nu,fi,mo,h1,h2.at' hs (by simp [smT]),h3.at' hs⟩
theorem RowP.ptr {w:World} {v:Value} {r:Row} (h:RowP w v r):∃X,v= .pointer (some ⟨X,0,none⟩)∧RowP w (.pointer (some ⟨X,0,none⟩)) r:=by
 obtain ⟨X,nm,vr,ty,nu,fi,mo,rfl,h2,h3⟩:=h
 exact ⟨X,rfl,X,nm,vr,ty,nu,fi,mo,rfl,h2,h3⟩
def RowO (w:World) (v:Value):Option Row→Prop
 |none=>v= .pointer none
 |some r=>RowP w v r
theorem RowO.at' {w w':World} {v:Value} (hs:SameAt smT w w'):∀{r:Option Row},RowO w v r→RowO w' v r
 |none,h=>h
 |some _,h=>RowP.at' h hs
def ArrC (w:World) (cs:List Value):Prop:=cs.length=38∧∀k,k<38→RowO w (cs.getD k undef) (rowOf k)
theorem ArrC.at' {w w':World} {cs:List Value} (h:ArrC w cs) (hs:SameAt smT w w'):ArrC w' cs:=⟨h.1,fun k hk=>RowO.at' hs (h.2 k hk)⟩
def tyR:Row:={name:=some isName,typ:=some isType}
inductive AV where
 |fx
 |any
 |num (f:Int→Bool)
 |knd (f:Nat→Bool)
 |kids (l:List (Nat→Bool))
 |rowA (r:Row)
 |rowP (r:Row)
 |arr
def AV.holds (w:World) (v:Value):AV→Prop
 | .fx=>v=FnV 218 #[]
 | .any=>v=FnV 219 #[]
 | .num f=>NumF w v f
 | .knd f=>KndF w v f
 | .kids l=>KidsF w v l
 | .rowA r=>RowA w v r
 | .rowP r=>RowP w v r
 | .arr=>∃cs:List Value,v= .agg cs.toArray∧ArrC w cs
theorem AV.at' {w w':World} {v:Value} (hs:SameAt smT w w'):∀{a:AV},a.holds w v→a.holds w' v
 | .fx,h=>h
 | .any,h=>h
 | .num _,h=>NumF.at' h hs fun _=>by simp [smT]
 | .knd _,h=>KndF.at' h hs fun _=>by simp [smT]
 | .kids _,h=>KidsF.at' h hs
 | .rowA _,h=>RowA.at' h hs
 | .rowP _,h=>RowP.at' h hs
 | .arr,⟨cs,h1,h2⟩=>⟨cs,h1,h2.at' hs⟩
theorem sl239:sliceInfo Tryz.prog 239=some (98,1):=by kernel_rfl
theorem sz239:sizeIs Tryz.prog 239 1=true:=by kernel_rfl
theorem p_fixed {w:World} {nm vr ty nu fi mo kv:Value} {r:Row} {l:List (Nat→Bool)} (h:RowC w nm vr ty nu fi mo r) (hk:KidsF w kv l) (hb:l.length<4611686018427387904:=by decide):
  Calls Tryz.prog 218 #[.agg (rowV nm vr ty nu fi mo r),kv] w fun e w'=>∃v,e= .returned v∧RowP w' v (fixed r l)∧Ext w w':=by
 have hlen:slLen kv=l.length:=by
  rcases hk with ⟨rfl,rfl⟩|⟨B,cs,rfl,_⟩<;>rfl
 have hisl:=hk.isl hb
 refine ir218_calls fun ρ r0 r1=> ?_
 simp -implicitDefEqProofs [ir218]
 refine eff_box fun X w1 hX hE1 hb1 _=> ?_
 rw [show evE ρ (.tmp 0)=_ from r0,h.cells] at hb1
 simp -implicitDefEqProofs [r0,r1,hisl,hlen]
 refine eff_store1 (B:=X) (i:=4) (by simp) hb1 (by simp [rowV]) (by simpa [r1] using hk.one.1) (by simpa [r1] using hk.one.2) sz239 fun w2 hO2 hb2=> ?_
 have hb2':Blk w2 X #[nm,vr,ty,nu,kv,mo, .int .i64 (r.least:Int), .int .i64 (r.most:Int)] 241:=by simpa [rowV,r1] using hb2
 simp -implicitDefEqProofs
 refine eff_store1 (B:=X) (i:=6) (by simp) hb2' (by simp) (by simp [Value.cells]) (by simp) sz3 fun w3 hO3 hb3=> ?_
 have hb3':Blk w3 X #[nm,vr,ty,nu,kv,mo, .int .i64 (l.length:Int), .int .i64 (r.most:Int)] 241:=by simpa using hb3
 simp -implicitDefEqProofs
 refine eff_store1 (B:=X) (i:=7) (by simp) hb3' (by simp) (by simp [Value.cells]) (by simp) sz3 fun w4 hO4 hb4=> ?_
 have hb4':Blk w4 X (rowV nm vr ty nu kv mo (fixed r l)) 241:=by simpa [rowV,fixed] using hb4
 have hE4:Ext w w4:=hO4.ext (hO3.ext (hO2.ext hE1 hX) hX) hX
 simp -implicitDefEqProofs
 have hs4:SameAt smT w w4:=SameAt.ext hE4
 have h4:=h.at' hs4
 exact ⟨⟨X,nm,vr,ty,nu,kv,mo,rfl,hb4',⟨h4.name,h4.vr,h4.typ,h4.n,hk.at' hs4,h4.more⟩⟩,hE4⟩
def facts144:List AV:=
 [.fx,
  .num (upTo 1000000000),
  .rowA {n:=some (upTo 1000000000):Row},
  .rowP (fixed {n:=some (upTo 1000000000):Row} []),
  .fx,
  .num (upTo 1),
  .rowA {n:=some (upTo 1):Row},
  .rowP (fixed {n:=some (upTo 1):Row} []),
  .fx,
  .rowA ({}:Row),
  .rowP (fixed ({}:Row) []),
  .fx,
  .rowA {name:=some isName:Row},
  .rowP (fixed {name:=some isName:Row} []),
  .any,
  .any,
  .any,
  .rowA {name:=some anyB,vr:=some anyB,typ:=some anyB,more:=some isExprK,most:=6:Row},
  .rowP {name:=some anyB,vr:=some anyB,typ:=some anyB,more:=some isExprK,most:=6:Row},
  .kids [isExprK,isExprK],
  .rowA {name:=some operators.contains,first:=[isExprK,isExprK],least:=1,most:=2:Row},
  .rowP {name:=some operators.contains,first:=[isExprK,isExprK],least:=1,most:=2:Row},
  .fx,
  .rowA ({}:Row),
  .kids [isExprK,isExprK],
  .rowP (fixed ({}:Row) [isExprK,isExprK]),
  .fx,
  .rowA {name:=some isName:Row},
  .kids [isExprK],
  .rowP (fixed {name:=some isName:Row} [isExprK]),
  .fx,
  .rowA ({}:Row),
  .kids [isExprK],
  .rowP (fixed ({}:Row) [isExprK]),
  .fx,
  .rowA ({}:Row),
  .kids [isExprK],
  .rowP (fixed ({}:Row) [isExprK]),
  .rowA {more:=some isStmtK,most:=400:Row},
  .rowP {more:=some isStmtK,most:=400:Row},
  .fx,
  .rowA tyR,
  .kids [isExprK],
  .rowP (fixed tyR [isExprK]),
  .fx,
  .rowA {name:=some isName:Row},
  .kids [isExprK],
  .rowP (fixed {name:=some isName:Row} [isExprK]),
  .fx,
  .rowA ({}:Row),
  .kids [isExprK,isExprK,isExprK],
  .rowP (fixed ({}:Row) [isExprK,isExprK,isExprK]),
  .fx,
  .rowA {name:=some isName:Row},
  .kids [isExprK,isExprK],
  .rowP (fixed {name:=some isName:Row} [isExprK,isExprK]),
  .fx,
  .rowA ({}:Row),
  .knd (isK1 5),
  .kids [(isK1 5)],
  .rowP (fixed ({}:Row) [(isK1 5)]),
  .kids [isExprK,(isK1 20),(isK1 20)],
  .rowA {first:=[isExprK,(isK1 20),(isK1 20)],least:=2,most:=3:Row},
  .rowP {first:=[isExprK,(isK1 20),(isK1 20)],least:=2,most:=3:Row},
  .fx,
  .rowA ({}:Row),
  .kids [isExprK,(isK1 20)],
  .rowP (fixed ({}:Row) [isExprK,(isK1 20)]),
  .fx,
  .rowA tyR,
  .knd (isK1 5),
  .kids [(isK1 5),(isK1 20)],
  .rowP (fixed tyR [(isK1 5),(isK1 20)]),
  .kids [isExprK],
  .rowA {first:=[isExprK],most:=1:Row},
  .rowP {first:=[isExprK],most:=1:Row},
  .fx,
  .rowA ({}:Row),
  .kids [isExprK],
  .rowP (fixed ({}:Row) [isExprK]),
  .fx,
  .rowA {name:=some isName:Row},
  .rowP (fixed {name:=some isName:Row} []),
  .kids [(isK1 20)],
  .knd (isK1 33),
  .rowA {first:=[(isK1 20)],more:=some (isK1 33),least:=2,most:=400:Row},
  .rowP {first:=[(isK1 20)],more:=some (isK1 33),least:=2,most:=400:Row},
  .fx,
  .any,
  .rowA {name:=some anyB:Row},
  .kids [(isK1 20)],
  .rowP (fixed {name:=some anyB:Row} [(isK1 20)]),
  .fx,
  .rowA ({}:Row),
  .rowP (fixed ({}:Row) []),
  .kids [isExprK],
  .knd (isK1 36),
  .rowA {first:=[isExprK],more:=some (isK1 36),least:=2,most:=400:Row},
  .rowP {first:=[isExprK],more:=some (isK1 36),least:=2,most:=400:Row},
  .fx,
  .rowA {name:=some isName,vr:=some isName,typ:=some isType:Row},
  .kids [(isK1 20)],
  .rowP (fixed {name:=some isName,vr:=some isName,typ:=some isType:Row} [(isK1 20)]),
  .fx,
  .rowA ({}:Row),
  .kids [isExprK],
  .rowP (fixed ({}:Row) [isExprK]),
  .arr]
theorem facts_len:facts144.length=108:=rfl
structure J144 (w0:World) (A T:Nat) (L:Nat→Bool) (ρ:Env) (w:World):Prop where
 ext:Ext w0 w
 g:L01.G w
 g0:L01.G w0
 r0:ρ 0= .pointer (some ⟨A,0,none⟩)
 r1:ρ 1=FnV 218 #[]
 r2:ρ 2= .pointer (some ⟨T,0,none⟩)
 r3:ρ 3=FnV 219 #[]
 A0:w0.heap.size≤A
 bA:L 108=false→Blk w A (Array.replicate 38 (.pointer none)) 175
 fin:L 108=true→∃cs:List Value,Blk w A cs.toArray 175∧ArrC w cs
 ty:∃nm vr ty nu fi mo,Blk w T (rowV nm vr ty nu fi mo tyR) 241∧RowC w nm vr ty nu fi mo tyR
 facts:∀(k:Nat) (F:AV),facts144[k]? =some F→L k=true→F.holds w (ρ (k+5))
def setL (i:Nat) (L:Nat→Bool):Nat→Bool:=fun k=>if k=i then true else L k
theorem J144.get {w0:World} {A T:Nat} {L:Nat→Bool} {ρ:Env} {w:World} (h:J144 w0 A T L ρ w) (k:Nat) (F:AV) (hF:facts144[k]? =some F) (hL:L k=true):F.holds w (ρ (k+5)):=h.facts k F hF hL
theorem J144.put {w0:World} {A T:Nat} {L:Nat→Bool} {ρ:Env} {w w':World} {v:Value} (h:J144 w0 A T L ρ w) (i:Nat) (F:AV) (hF:facts144[i]? =some F) (hE:Ext w w') (hv:F.holds w' v):J144 w0 A T (setL i L) (upd ρ (i+5) v) w':=by
 have hi:i<108:=by
  have:=(List.getElem?_eq_some_iff.1 hF).1
  rwa [facts_len] at this
 have ne:∀k,k<5→upd ρ (i+5) v k=ρ k:=fun k hk=>by simp [upd];omega
 have h108:setL i L 108=L 108:=by unfold setL;rw [if_neg (by omega)]
 refine ⟨h.ext.trans' hE,h.g.ext hE,h.g0,by rw [ne 0 (by omega)];exact h.r0,by rw [ne 1 (by omega)];exact h.r1,by rw [ne 2 (by omega)];exact h.r2,by rw [ne 3 (by omega)];exact h.r3,h.A0,fun e=>(h.bA (h108▸e)).ext hE,fun e=> ?_, ?_,fun k F' hF' hL=> ?_⟩
 ·obtain ⟨cs,h1,h2⟩:=h.fin (h108▸e)
  exact ⟨cs,h1.ext hE,h2.at' (SameAt.ext hE)⟩
 ·obtain ⟨nm,vr,ty,nu,fi,mo,h1,h2⟩:=h.ty
  exact ⟨nm,vr,ty,nu,fi,mo,h1.ext hE,h2.at' (SameAt.ext hE)⟩
 ·by_cases hk:k=i
  ·subst hk
   rw [hF] at hF';cases hF'
   simpa [upd] using hv
  ·have e:upd ρ (i+5) v (k+5)=ρ (k+5):=by simp [upd,hk]
   rw [e]
   exact AV.at' (SameAt.ext hE) (h.facts k F' hF' (by simpa [setL,hk] using hL))
section
variable {w0:World} {A T:Nat} {L:Nat→Bool} {ρ:Env} {w:World} {Q:Ks} {K:Env→World→Prop}
theorem s144_0 (hL:∀d∈([]:List Nat),L d=true) (hJ:J144 w0 A T L ρ w):(.asg none 5 (.var 1):St).wp Tryz.prog Q (J144 w0 A T (setL 0 L)) ρ w:=by
 simp -implicitDefEqProofs [St.wp,hJ.r1]
 exact hJ.put 0 _ rfl (ext_refl _) rfl
theorem s144_1 (hL:∀d∈([]:List Nat),L d=true) (hJ:J144 w0 A T L ρ w):(.eff none (some 6) (.call {callee:= .value (.func 220),args:= #[(.const (.int .i64 1000000000))],argTypes:= #[3]}) 238:St).wp Tryz.prog Q (J144 w0 A T (setL 1 L)) ρ w:=by
 simp -implicitDefEqProofs [St.wp]
 refine (p_upTo 1000000000).mono ?_
 rintro _ w1 ⟨v,rfl,hv,hE⟩
 simp -implicitDefEqProofs
 exact hJ.put 1 _ rfl hE hv
theorem s144_2 (hL:∀d∈([1]:List Nat),L d=true) (hJ:J144 w0 A T L ρ w):(.eff none (some 7) (.build 241 #[(3,(.tmp 6))]) 241:St).wp Tryz.prog Q (J144 w0 A T (setL 2 L)) ρ w:=by
 have hF6:=hJ.get 1 (.num (upTo 1000000000)) rfl (hL 1 (by decide))
 obtain ⟨F6,c6,e6⟩:=hF6.is
 rw [e6] at hF6
 have hb:Tryz.prog.built 241 [(3,FnV F6 c6)]=some #[.nilFunc, .nilFunc, .nilFunc,FnV F6 c6, .slice none 0 0, .nilFunc, .int .i64 0, .int .i64 0]:=by kernel_rfl
 have hb2:=hb
 try simp only [FnV] at hb2
 simp -implicitDefEqProofs [St.wp,e6,FnV,hb2]
 exact hJ.put 2 _ rfl (ext_refl _) ⟨_,_,_,_,_,_,rfl,⟨rfl,rfl,rfl,hF6, .nil,rfl⟩⟩
theorem s144_3 (hL:∀d∈([0,2,1]:List Nat),L d=true) (hJ:J144 w0 A T L ρ w):(.eff none (some 8) (.call {callee:= .value (.tmp 5),args:= #[(.tmp 7),(.const (.slice none 0 0))],argTypes:= #[241,239]}) 174:St).wp Tryz.prog Q (J144 w0 A T (setL 3 L)) ρ w:=by
 have e5:ρ 5=FnV 218 #[]:=hJ.get 0 (.fx) rfl (hL 0 (by decide))
 obtain ⟨nm,vr,ty,nu,fi,mo,e7,hc⟩:=hJ.get 2 (.rowA {n:=some (upTo 1000000000):Row}) rfl (hL 2 (by decide))
 simp -implicitDefEqProofs [St.wp]
 refine eff_callv cbV218 (t:=5) (fs:= #[]) (caps:= #[]) e5 ?_
 rw [show (#[]++(#[Operand.tmp 7,Operand.const (.slice none 0 0)]:Array Operand).map (evE ρ)++ #[]:Array Value)= #[Value.agg (rowV nm vr ty nu fi mo {n:=some (upTo 1000000000):Row}),Value.slice none 0 0] by simp [e7]]
 refine (p_fixed hc (kv:=Value.slice none 0 0) (l:=[]) (.nil)).mono ?_
 rintro _ w1 ⟨v,rfl,hv,hE⟩
 simp -implicitDefEqProofs
 exact hJ.put 3 _ rfl hE hv
theorem s144_4 (hL:∀d∈([]:List Nat),L d=true) (hJ:J144 w0 A T L ρ w):(.asg none 9 (.var 1):St).wp Tryz.prog Q (J144 w0 A T (setL 4 L)) ρ w:=by
 simp -implicitDefEqProofs [St.wp,hJ.r1]
 exact hJ.put 4 _ rfl (ext_refl _) rfl
theorem s144_5 (hL:∀d∈([3]:List Nat),L d=true) (hJ:J144 w0 A T L ρ w):(.eff none (some 10) (.call {callee:= .value (.func 220),args:= #[(.const (.int .i64 1))],argTypes:= #[3]}) 238:St).wp Tryz.prog Q (J144 w0 A T (setL 5 L)) ρ w:=by
 simp -implicitDefEqProofs [St.wp]
 refine (p_upTo 1).mono ?_
 rintro _ w1 ⟨v,rfl,hv,hE⟩
 simp -implicitDefEqProofs
 exact hJ.put 5 _ rfl hE hv
theorem s144_6 (hL:∀d∈([5]:List Nat),L d=true) (hJ:J144 w0 A T L ρ w):(.eff none (some 11) (.build 241 #[(3,(.tmp 10))]) 241:St).wp Tryz.prog Q (J144 w0 A T (setL 6 L)) ρ w:=by
 have hF10:=hJ.get 5 (.num (upTo 1)) rfl (hL 5 (by decide))
 obtain ⟨F10,c10,e10⟩:=hF10.is
 rw [e10] at hF10
 have hb:Tryz.prog.built 241 [(3,FnV F10 c10)]=some #[.nilFunc, .nilFunc, .nilFunc,FnV F10 c10, .slice none 0 0, .nilFunc, .int .i64 0, .int .i64 0]:=by kernel_rfl
 have hb2:=hb
 try simp only [FnV] at hb2
 simp -implicitDefEqProofs [St.wp,e10,FnV,hb2]
 exact hJ.put 6 _ rfl (ext_refl _) ⟨_,_,_,_,_,_,rfl,⟨rfl,rfl,rfl,hF10, .nil,rfl⟩⟩
theorem s144_7 (hL:∀d∈([4,6,5]:List Nat),L d=true) (hJ:J144 w0 A T L ρ w):(.eff none (some 12) (.call {callee:= .value (.tmp 9),args:= #[(.tmp 11),(.const (.slice none 0 0))],argTypes:= #[241,239]}) 174:St).wp Tryz.prog Q (J144 w0 A T (setL 7 L)) ρ w:=by
 have e9:ρ 9=FnV 218 #[]:=hJ.get 4 (.fx) rfl (hL 4 (by decide))
 obtain ⟨nm,vr,ty,nu,fi,mo,e11,hc⟩:=hJ.get 6 (.rowA {n:=some (upTo 1):Row}) rfl (hL 6 (by decide))
 simp -implicitDefEqProofs [St.wp]
 refine eff_callv cbV218 (t:=9) (fs:= #[]) (caps:= #[]) e9 ?_
 rw [show (#[]++(#[Operand.tmp 11,Operand.const (.slice none 0 0)]:Array Operand).map (evE ρ)++ #[]:Array Value)= #[Value.agg (rowV nm vr ty nu fi mo {n:=some (upTo 1):Row}),Value.slice none 0 0] by simp [e11]]
 refine (p_fixed hc (kv:=Value.slice none 0 0) (l:=[]) (.nil)).mono ?_
 rintro _ w1 ⟨v,rfl,hv,hE⟩
 simp -implicitDefEqProofs
 exact hJ.put 7 _ rfl hE hv
theorem s144_8 (hL:∀d∈([]:List Nat),L d=true) (hJ:J144 w0 A T L ρ w):(.asg none 13 (.var 1):St).wp Tryz.prog Q (J144 w0 A T (setL 8 L)) ρ w:=by
 simp -implicitDefEqProofs [St.wp,hJ.r1]
 exact hJ.put 8 _ rfl (ext_refl _) rfl
theorem s144_9 (hL:∀d∈([]:List Nat),L d=true) (hJ:J144 w0 A T L ρ w):(.eff none (some 14) (.build 241 #[]) 241:St).wp Tryz.prog Q (J144 w0 A T (setL 9 L)) ρ w:=by
 have hb:Tryz.prog.built 241 []=some #[.nilFunc, .nilFunc, .nilFunc, .nilFunc, .slice none 0 0, .nilFunc, .int .i64 0, .int .i64 0]:=by kernel_rfl
 have hb2:=hb
 try simp only [FnV] at hb2
 simp -implicitDefEqProofs [St.wp,FnV,hb2]
 exact hJ.put 9 _ rfl (ext_refl _) ⟨_,_,_,_,_,_,rfl,⟨rfl,rfl,rfl,rfl, .nil,rfl⟩⟩
theorem s144_10 (hL:∀d∈([8,9,7]:List Nat),L d=true) (hJ:J144 w0 A T L ρ w):(.eff none (some 15) (.call {callee:= .value (.tmp 13),args:= #[(.tmp 14),(.const (.slice none 0 0))],argTypes:= #[241,239]}) 174:St).wp Tryz.prog Q (J144 w0 A T (setL 10 L)) ρ w:=by
 have e13:ρ 13=FnV 218 #[]:=hJ.get 8 (.fx) rfl (hL 8 (by decide))
 obtain ⟨nm,vr,ty,nu,fi,mo,e14,hc⟩:=hJ.get 9 (.rowA ({}:Row)) rfl (hL 9 (by decide))
 simp -implicitDefEqProofs [St.wp]
 refine eff_callv cbV218 (t:=13) (fs:= #[]) (caps:= #[]) e13 ?_
 rw [show (#[]++(#[Operand.tmp 14,Operand.const (.slice none 0 0)]:Array Operand).map (evE ρ)++ #[]:Array Value)= #[Value.agg (rowV nm vr ty nu fi mo ({}:Row)),Value.slice none 0 0] by simp [e14]]
 refine (p_fixed hc (kv:=Value.slice none 0 0) (l:=[]) (.nil)).mono ?_
 rintro _ w1 ⟨v,rfl,hv,hE⟩
 simp -implicitDefEqProofs
 exact hJ.put 10 _ rfl hE hv
theorem s144_11 (hL:∀d∈([]:List Nat),L d=true) (hJ:J144 w0 A T L ρ w):(.asg none 16 (.var 1):St).wp Tryz.prog Q (J144 w0 A T (setL 11 L)) ρ w:=by
 simp -implicitDefEqProofs [St.wp,hJ.r1]
 exact hJ.put 11 _ rfl (ext_refl _) rfl
theorem s144_12 (hL:∀d∈([]:List Nat),L d=true) (hJ:J144 w0 A T L ρ w):(.eff none (some 17) (.build 241 #[(0,(.func 77))]) 241:St).wp Tryz.prog Q (J144 w0 A T (setL 12 L)) ρ w:=by
 have hb:Tryz.prog.built 241 [(0,FnV 77 #[])]=some #[FnV 77 #[], .nilFunc, .nilFunc, .nilFunc, .slice none 0 0, .nilFunc, .int .i64 0, .int .i64 0]:=by kernel_rfl
 have hb2:=hb
 try simp only [FnV] at hb2
 simp -implicitDefEqProofs [St.wp,FnV,hb2]
 exact hJ.put 12 _ rfl (ext_refl _) ⟨_,_,_,_,_,_,rfl,⟨(sf_name (w:=w)),rfl,rfl,rfl, .nil,rfl⟩⟩
theorem s144_13 (hL:∀d∈([11,12,10]:List Nat),L d=true) (hJ:J144 w0 A T L ρ w):(.eff none (some 18) (.call {callee:= .value (.tmp 16),args:= #[(.tmp 17),(.const (.slice none 0 0))],argTypes:= #[241,239]}) 174:St).wp Tryz.prog Q (J144 w0 A T (setL 13 L)) ρ w:=by
 have e16:ρ 16=FnV 218 #[]:=hJ.get 11 (.fx) rfl (hL 11 (by decide))
 obtain ⟨nm,vr,ty,nu,fi,mo,e17,hc⟩:=hJ.get 12 (.rowA {name:=some isName:Row}) rfl (hL 12 (by decide))
 simp -implicitDefEqProofs [St.wp]
 refine eff_callv cbV218 (t:=16) (fs:= #[]) (caps:= #[]) e16 ?_
 rw [show (#[]++(#[Operand.tmp 17,Operand.const (.slice none 0 0)]:Array Operand).map (evE ρ)++ #[]:Array Value)= #[Value.agg (rowV nm vr ty nu fi mo {name:=some isName:Row}),Value.slice none 0 0] by simp [e17]]
 refine (p_fixed hc (kv:=Value.slice none 0 0) (l:=[]) (.nil)).mono ?_
 rintro _ w1 ⟨v,rfl,hv,hE⟩
 simp -implicitDefEqProofs
 exact hJ.put 13 _ rfl hE hv
theorem s144_14 (hL:∀d∈([]:List Nat),L d=true) (hJ:J144 w0 A T L ρ w):(.asg none 19 (.var 3):St).wp Tryz.prog Q (J144 w0 A T (setL 14 L)) ρ w:=by
 simp -implicitDefEqProofs [St.wp,hJ.r3]
 exact hJ.put 14 _ rfl (ext_refl _) rfl
theorem s144_15 (hL:∀d∈([]:List Nat),L d=true) (hJ:J144 w0 A T L ρ w):(.asg none 20 (.var 3):St).wp Tryz.prog Q (J144 w0 A T (setL 15 L)) ρ w:=by
 simp -implicitDefEqProofs [St.wp,hJ.r3]
 exact hJ.put 15 _ rfl (ext_refl _) rfl
theorem s144_16 (hL:∀d∈([]:List Nat),L d=true) (hJ:J144 w0 A T L ρ w):(.asg none 21 (.var 3):St).wp Tryz.prog Q (J144 w0 A T (setL 16 L)) ρ w:=by
 simp -implicitDefEqProofs [St.wp,hJ.r3]
 exact hJ.put 16 _ rfl (ext_refl _) rfl
theorem s144_17 (hL:∀d∈([14,15,16]:List Nat),L d=true) (hJ:J144 w0 A T L ρ w):(.eff none (some 22) (.build 241 #[(0,(.tmp 19)),(1,(.tmp 20)),(2,(.tmp 21)),(5,(.func 65)),(7,(.const (.int .i64 6)))]) 241:St).wp Tryz.prog Q (J144 w0 A T (setL 17 L)) ρ w:=by
 have e19:ρ 19=FnV 219 #[]:=hJ.get 14 (.any) rfl (hL 14 (by decide))
 have e20:ρ 20=FnV 219 #[]:=hJ.get 15 (.any) rfl (hL 15 (by decide))
 have e21:ρ 21=FnV 219 #[]:=hJ.get 16 (.any) rfl (hL 16 (by decide))
 have hb:Tryz.prog.built 241 [(0,FnV 219 #[]),(1,FnV 219 #[]),(2,FnV 219 #[]),(5,FnV 65 #[]),(7, .int .i64 6)]=some #[FnV 219 #[],FnV 219 #[],FnV 219 #[], .nilFunc, .slice none 0 0,FnV 65 #[], .int .i64 0, .int .i64 6]:=by kernel_rfl
 have hb2:=hb
 try simp only [FnV] at hb2
 simp -implicitDefEqProofs [St.wp,e19,e20,e21,FnV,hb2]
 exact hJ.put 17 _ rfl (ext_refl _) ⟨_,_,_,_,_,_,rfl,⟨(sf_any (w:=w)),(sf_any (w:=w)),(sf_any (w:=w)),rfl, .nil,kf_expr⟩⟩
theorem s144_18 (hL:∀d∈([17]:List Nat),L d=true) (hJ:J144 w0 A T L ρ w):(.eff none (some 23) (.box 241 (.tmp 22)) 174:St).wp Tryz.prog Q (J144 w0 A T (setL 18 L)) ρ w:=by
 obtain ⟨nm,vr,ty,nu,fi,mo,e22,hc⟩:=hJ.get 17 (.rowA {name:=some anyB,vr:=some anyB,typ:=some anyB,more:=some isExprK,most:=6:Row}) rfl (hL 17 (by decide))
 simp -implicitDefEqProofs [St.wp]
 refine eff_box fun X w1 hX hE hb _=> ?_
 rw [show evE ρ (.tmp 22)=_ from e22,hc.cells] at hb
 refine hJ.put 18 _ rfl hE ⟨X,nm,vr,ty,nu,fi,mo,rfl,hb,hc.at' (SameAt.ext hE)⟩
theorem s144_19 (hL:∀d∈([]:List Nat),L d=true) (hJ:J144 w0 A T L ρ w):(.eff none (some 24) (.buildSlice 239 2 #[(0,(.func 65)),(1,(.func 65))]) 239:St).wp Tryz.prog Q (J144 w0 A T (setL 19 L)) ρ w:=by
 simp -implicitDefEqProofs [St.wp]
 refine eff_lit sl239 (by decide) rfl (by simp [Value.cells,FnV]) fun B w1 hB hE hb _=> ?_
 refine hJ.put 19 _ rfl hE (.inr ⟨B,[FnV 65 #[],FnV 65 #[]],rfl,by simpa [Value.cells,FnV] using hb,⟨kf_expr,kf_expr,trivial⟩⟩)
theorem s144_20 (hL:∀d∈([19]:List Nat),L d=true) (hJ:J144 w0 A T L ρ w):(.eff none (some 25) (.build 241 #[(0,(.func 221)),(4,(.tmp 24)),(6,(.const (.int .i64 1))),(7,(.const (.int .i64 2)))]) 241:St).wp Tryz.prog Q (J144 w0 A T (setL 20 L)) ρ w:=by
 obtain ⟨B24,l24,e24,hb24,ha24⟩:=(hJ.get 19 (.kids [isExprK,isExprK]) rfl (hL 19 (by decide))).cons (by simp)
 have hb:Tryz.prog.built 241 [(0,FnV 221 #[]),(4, .slice (some ⟨B24,0,none⟩) 2 2),(6, .int .i64 1),(7, .int .i64 2)]=some #[FnV 221 #[], .nilFunc, .nilFunc, .nilFunc, .slice (some ⟨B24,0,none⟩) 2 2, .nilFunc, .int .i64 1, .int .i64 2]:=by kernel_rfl
 have hb2:=hb
 try simp only [FnV] at hb2
 simp -implicitDefEqProofs [St.wp,e24,FnV,hb2]
 exact hJ.put 20 _ rfl (ext_refl _) ⟨_,_,_,_,_,_,rfl,⟨(sf_oper (w:=w)),rfl,rfl,rfl, .inr ⟨B24,l24,rfl,hb24,ha24⟩,rfl⟩⟩
theorem s144_21 (hL:∀d∈([20]:List Nat),L d=true) (hJ:J144 w0 A T L ρ w):(.eff none (some 26) (.box 241 (.tmp 25)) 174:St).wp Tryz.prog Q (J144 w0 A T (setL 21 L)) ρ w:=by
 obtain ⟨nm,vr,ty,nu,fi,mo,e25,hc⟩:=hJ.get 20 (.rowA {name:=some operators.contains,first:=[isExprK,isExprK],least:=1,most:=2:Row}) rfl (hL 20 (by decide))
 simp -implicitDefEqProofs [St.wp]
 refine eff_box fun X w1 hX hE hb _=> ?_
 rw [show evE ρ (.tmp 25)=_ from e25,hc.cells] at hb
 refine hJ.put 21 _ rfl hE ⟨X,nm,vr,ty,nu,fi,mo,rfl,hb,hc.at' (SameAt.ext hE)⟩
theorem s144_22 (hL:∀d∈([]:List Nat),L d=true) (hJ:J144 w0 A T L ρ w):(.asg none 27 (.var 1):St).wp Tryz.prog Q (J144 w0 A T (setL 22 L)) ρ w:=by
 simp -implicitDefEqProofs [St.wp,hJ.r1]
 exact hJ.put 22 _ rfl (ext_refl _) rfl
theorem s144_23 (hL:∀d∈([]:List Nat),L d=true) (hJ:J144 w0 A T L ρ w):(.eff none (some 28) (.build 241 #[]) 241:St).wp Tryz.prog Q (J144 w0 A T (setL 23 L)) ρ w:=by
 have hb:Tryz.prog.built 241 []=some #[.nilFunc, .nilFunc, .nilFunc, .nilFunc, .slice none 0 0, .nilFunc, .int .i64 0, .int .i64 0]:=by kernel_rfl
 have hb2:=hb
 try simp only [FnV] at hb2
 simp -implicitDefEqProofs [St.wp,FnV,hb2]
 exact hJ.put 23 _ rfl (ext_refl _) ⟨_,_,_,_,_,_,rfl,⟨rfl,rfl,rfl,rfl, .nil,rfl⟩⟩
theorem s144_24 (hL:∀d∈([]:List Nat),L d=true) (hJ:J144 w0 A T L ρ w):(.eff none (some 29) (.buildSlice 239 2 #[(0,(.func 65)),(1,(.func 65))]) 239:St).wp Tryz.prog Q (J144 w0 A T (setL 24 L)) ρ w:=by
 simp -implicitDefEqProofs [St.wp]
 refine eff_lit sl239 (by decide) rfl (by simp [Value.cells,FnV]) fun B w1 hB hE hb _=> ?_
 refine hJ.put 24 _ rfl hE (.inr ⟨B,[FnV 65 #[],FnV 65 #[]],rfl,by simpa [Value.cells,FnV] using hb,⟨kf_expr,kf_expr,trivial⟩⟩)
theorem s144_25 (hL:∀d∈([22,23,24,13]:List Nat),L d=true) (hJ:J144 w0 A T L ρ w):(.eff none (some 30) (.call {callee:= .value (.tmp 27),args:= #[(.tmp 28),(.tmp 29)],argTypes:= #[241,239]}) 174:St).wp Tryz.prog Q (J144 w0 A T (setL 25 L)) ρ w:=by
 have e27:ρ 27=FnV 218 #[]:=hJ.get 22 (.fx) rfl (hL 22 (by decide))
 obtain ⟨nm,vr,ty,nu,fi,mo,e28,hc⟩:=hJ.get 23 (.rowA ({}:Row)) rfl (hL 23 (by decide))
 obtain ⟨B29,l29,e29,hb29,ha29⟩:=(hJ.get 24 (.kids [isExprK,isExprK]) rfl (hL 24 (by decide))).cons (by simp)
 simp -implicitDefEqProofs [St.wp]
 refine eff_callv cbV218 (t:=27) (fs:= #[]) (caps:= #[]) e27 ?_
 rw [show (#[]++(#[Operand.tmp 28,Operand.tmp 29]:Array Operand).map (evE ρ)++ #[]:Array Value)= #[Value.agg (rowV nm vr ty nu fi mo ({}:Row)),Value.slice (some ⟨B29,0,none⟩) 2 2] by simp [e28,e29]]
 refine (p_fixed hc (kv:=Value.slice (some ⟨B29,0,none⟩) 2 2) (l:=[isExprK,isExprK]) (.inr ⟨B29,l29,rfl,hb29,ha29⟩)).mono ?_
 rintro _ w1 ⟨v,rfl,hv,hE⟩
 simp -implicitDefEqProofs
 exact hJ.put 25 _ rfl hE hv
theorem s144_26 (hL:∀d∈([]:List Nat),L d=true) (hJ:J144 w0 A T L ρ w):(.asg none 31 (.var 1):St).wp Tryz.prog Q (J144 w0 A T (setL 26 L)) ρ w:=by
 simp -implicitDefEqProofs [St.wp,hJ.r1]
 exact hJ.put 26 _ rfl (ext_refl _) rfl
theorem s144_27 (hL:∀d∈([]:List Nat),L d=true) (hJ:J144 w0 A T L ρ w):(.eff none (some 32) (.build 241 #[(0,(.func 77))]) 241:St).wp Tryz.prog Q (J144 w0 A T (setL 27 L)) ρ w:=by
 have hb:Tryz.prog.built 241 [(0,FnV 77 #[])]=some #[FnV 77 #[], .nilFunc, .nilFunc, .nilFunc, .slice none 0 0, .nilFunc, .int .i64 0, .int .i64 0]:=by kernel_rfl
 have hb2:=hb
 try simp only [FnV] at hb2
 simp -implicitDefEqProofs [St.wp,FnV,hb2]
 exact hJ.put 27 _ rfl (ext_refl _) ⟨_,_,_,_,_,_,rfl,⟨(sf_name (w:=w)),rfl,rfl,rfl, .nil,rfl⟩⟩
theorem s144_28 (hL:∀d∈([]:List Nat),L d=true) (hJ:J144 w0 A T L ρ w):(.eff none (some 33) (.buildSlice 239 1 #[(0,(.func 65))]) 239:St).wp Tryz.prog Q (J144 w0 A T (setL 28 L)) ρ w:=by
 simp -implicitDefEqProofs [St.wp]
 refine eff_lit sl239 (by decide) rfl (by simp [Value.cells,FnV]) fun B w1 hB hE hb _=> ?_
 refine hJ.put 28 _ rfl hE (.inr ⟨B,[FnV 65 #[]],rfl,by simpa [Value.cells,FnV] using hb,⟨kf_expr,trivial⟩⟩)
theorem s144_29 (hL:∀d∈([26,27,28,25]:List Nat),L d=true) (hJ:J144 w0 A T L ρ w):(.eff none (some 34) (.call {callee:= .value (.tmp 31),args:= #[(.tmp 32),(.tmp 33)],argTypes:= #[241,239]}) 174:St).wp Tryz.prog Q (J144 w0 A T (setL 29 L)) ρ w:=by
 have e31:ρ 31=FnV 218 #[]:=hJ.get 26 (.fx) rfl (hL 26 (by decide))
 obtain ⟨nm,vr,ty,nu,fi,mo,e32,hc⟩:=hJ.get 27 (.rowA {name:=some isName:Row}) rfl (hL 27 (by decide))
 obtain ⟨B33,l33,e33,hb33,ha33⟩:=(hJ.get 28 (.kids [isExprK]) rfl (hL 28 (by decide))).cons (by simp)
 simp -implicitDefEqProofs [St.wp]
 refine eff_callv cbV218 (t:=31) (fs:= #[]) (caps:= #[]) e31 ?_
 rw [show (#[]++(#[Operand.tmp 32,Operand.tmp 33]:Array Operand).map (evE ρ)++ #[]:Array Value)= #[Value.agg (rowV nm vr ty nu fi mo {name:=some isName:Row}),Value.slice (some ⟨B33,0,none⟩) 1 1] by simp [e32,e33]]
 refine (p_fixed hc (kv:=Value.slice (some ⟨B33,0,none⟩) 1 1) (l:=[isExprK]) (.inr ⟨B33,l33,rfl,hb33,ha33⟩)).mono ?_
 rintro _ w1 ⟨v,rfl,hv,hE⟩
 simp -implicitDefEqProofs
 exact hJ.put 29 _ rfl hE hv
theorem s144_30 (hL:∀d∈([]:List Nat),L d=true) (hJ:J144 w0 A T L ρ w):(.asg none 35 (.var 1):St).wp Tryz.prog Q (J144 w0 A T (setL 30 L)) ρ w:=by
 simp -implicitDefEqProofs [St.wp,hJ.r1]
 exact hJ.put 30 _ rfl (ext_refl _) rfl
theorem s144_31 (hL:∀d∈([]:List Nat),L d=true) (hJ:J144 w0 A T L ρ w):(.eff none (some 36) (.build 241 #[]) 241:St).wp Tryz.prog Q (J144 w0 A T (setL 31 L)) ρ w:=by
 have hb:Tryz.prog.built 241 []=some #[.nilFunc, .nilFunc, .nilFunc, .nilFunc, .slice none 0 0, .nilFunc, .int .i64 0, .int .i64 0]:=by kernel_rfl
 have hb2:=hb
 try simp only [FnV] at hb2
 simp -implicitDefEqProofs [St.wp,FnV,hb2]
 exact hJ.put 31 _ rfl (ext_refl _) ⟨_,_,_,_,_,_,rfl,⟨rfl,rfl,rfl,rfl, .nil,rfl⟩⟩
theorem s144_32 (hL:∀d∈([]:List Nat),L d=true) (hJ:J144 w0 A T L ρ w):(.eff none (some 37) (.buildSlice 239 1 #[(0,(.func 65))]) 239:St).wp Tryz.prog Q (J144 w0 A T (setL 32 L)) ρ w:=by
 simp -implicitDefEqProofs [St.wp]
 refine eff_lit sl239 (by decide) rfl (by simp [Value.cells,FnV]) fun B w1 hB hE hb _=> ?_
 refine hJ.put 32 _ rfl hE (.inr ⟨B,[FnV 65 #[]],rfl,by simpa [Value.cells,FnV] using hb,⟨kf_expr,trivial⟩⟩)
theorem s144_33 (hL:∀d∈([30,31,32,29]:List Nat),L d=true) (hJ:J144 w0 A T L ρ w):(.eff none (some 38) (.call {callee:= .value (.tmp 35),args:= #[(.tmp 36),(.tmp 37)],argTypes:= #[241,239]}) 174:St).wp Tryz.prog Q (J144 w0 A T (setL 33 L)) ρ w:=by
 have e35:ρ 35=FnV 218 #[]:=hJ.get 30 (.fx) rfl (hL 30 (by decide))
 obtain ⟨nm,vr,ty,nu,fi,mo,e36,hc⟩:=hJ.get 31 (.rowA ({}:Row)) rfl (hL 31 (by decide))
 obtain ⟨B37,l37,e37,hb37,ha37⟩:=(hJ.get 32 (.kids [isExprK]) rfl (hL 32 (by decide))).cons (by simp)
 simp -implicitDefEqProofs [St.wp]
 refine eff_callv cbV218 (t:=35) (fs:= #[]) (caps:= #[]) e35 ?_
 rw [show (#[]++(#[Operand.tmp 36,Operand.tmp 37]:Array Operand).map (evE ρ)++ #[]:Array Value)= #[Value.agg (rowV nm vr ty nu fi mo ({}:Row)),Value.slice (some ⟨B37,0,none⟩) 1 1] by simp [e36,e37]]
 refine (p_fixed hc (kv:=Value.slice (some ⟨B37,0,none⟩) 1 1) (l:=[isExprK]) (.inr ⟨B37,l37,rfl,hb37,ha37⟩)).mono ?_
 rintro _ w1 ⟨v,rfl,hv,hE⟩
 simp -implicitDefEqProofs
 exact hJ.put 33 _ rfl hE hv
theorem s144_34 (hL:∀d∈([]:List Nat),L d=true) (hJ:J144 w0 A T L ρ w):(.asg none 39 (.var 1):St).wp Tryz.prog Q (J144 w0 A T (setL 34 L)) ρ w:=by
 simp -implicitDefEqProofs [St.wp,hJ.r1]
 exact hJ.put 34 _ rfl (ext_refl _) rfl
theorem s144_35 (hL:∀d∈([]:List Nat),L d=true) (hJ:J144 w0 A T L ρ w):(.eff none (some 40) (.build 241 #[]) 241:St).wp Tryz.prog Q (J144 w0 A T (setL 35 L)) ρ w:=by
 have hb:Tryz.prog.built 241 []=some #[.nilFunc, .nilFunc, .nilFunc, .nilFunc, .slice none 0 0, .nilFunc, .int .i64 0, .int .i64 0]:=by kernel_rfl
 have hb2:=hb
 try simp only [FnV] at hb2
 simp -implicitDefEqProofs [St.wp,FnV,hb2]
 exact hJ.put 35 _ rfl (ext_refl _) ⟨_,_,_,_,_,_,rfl,⟨rfl,rfl,rfl,rfl, .nil,rfl⟩⟩
theorem s144_36 (hL:∀d∈([]:List Nat),L d=true) (hJ:J144 w0 A T L ρ w):(.eff none (some 41) (.buildSlice 239 1 #[(0,(.func 65))]) 239:St).wp Tryz.prog Q (J144 w0 A T (setL 36 L)) ρ w:=by
 simp -implicitDefEqProofs [St.wp]
 refine eff_lit sl239 (by decide) rfl (by simp [Value.cells,FnV]) fun B w1 hB hE hb _=> ?_
 refine hJ.put 36 _ rfl hE (.inr ⟨B,[FnV 65 #[]],rfl,by simpa [Value.cells,FnV] using hb,⟨kf_expr,trivial⟩⟩)
theorem s144_37 (hL:∀d∈([34,35,36,33]:List Nat),L d=true) (hJ:J144 w0 A T L ρ w):(.eff none (some 42) (.call {callee:= .value (.tmp 39),args:= #[(.tmp 40),(.tmp 41)],argTypes:= #[241,239]}) 174:St).wp Tryz.prog Q (J144 w0 A T (setL 37 L)) ρ w:=by
 have e39:ρ 39=FnV 218 #[]:=hJ.get 34 (.fx) rfl (hL 34 (by decide))
 obtain ⟨nm,vr,ty,nu,fi,mo,e40,hc⟩:=hJ.get 35 (.rowA ({}:Row)) rfl (hL 35 (by decide))
 obtain ⟨B41,l41,e41,hb41,ha41⟩:=(hJ.get 36 (.kids [isExprK]) rfl (hL 36 (by decide))).cons (by simp)
 simp -implicitDefEqProofs [St.wp]
 refine eff_callv cbV218 (t:=39) (fs:= #[]) (caps:= #[]) e39 ?_
 rw [show (#[]++(#[Operand.tmp 40,Operand.tmp 41]:Array Operand).map (evE ρ)++ #[]:Array Value)= #[Value.agg (rowV nm vr ty nu fi mo ({}:Row)),Value.slice (some ⟨B41,0,none⟩) 1 1] by simp [e40,e41]]
 refine (p_fixed hc (kv:=Value.slice (some ⟨B41,0,none⟩) 1 1) (l:=[isExprK]) (.inr ⟨B41,l41,rfl,hb41,ha41⟩)).mono ?_
 rintro _ w1 ⟨v,rfl,hv,hE⟩
 simp -implicitDefEqProofs
 exact hJ.put 37 _ rfl hE hv
theorem s144_38 (hL:∀d∈([]:List Nat),L d=true) (hJ:J144 w0 A T L ρ w):(.eff none (some 43) (.build 241 #[(5,(.func 222)),(7,(.const (.int .i64 400)))]) 241:St).wp Tryz.prog Q (J144 w0 A T (setL 38 L)) ρ w:=by
 have hb:Tryz.prog.built 241 [(5,FnV 222 #[]),(7, .int .i64 400)]=some #[.nilFunc, .nilFunc, .nilFunc, .nilFunc, .slice none 0 0,FnV 222 #[], .int .i64 0, .int .i64 400]:=by kernel_rfl
 have hb2:=hb
 try simp only [FnV] at hb2
 simp -implicitDefEqProofs [St.wp,FnV,hb2]
 exact hJ.put 38 _ rfl (ext_refl _) ⟨_,_,_,_,_,_,rfl,⟨rfl,rfl,rfl,rfl, .nil,kf_stmt⟩⟩
theorem s144_39 (hL:∀d∈([38]:List Nat),L d=true) (hJ:J144 w0 A T L ρ w):(.eff none (some 44) (.box 241 (.tmp 43)) 174:St).wp Tryz.prog Q (J144 w0 A T (setL 39 L)) ρ w:=by
 obtain ⟨nm,vr,ty,nu,fi,mo,e43,hc⟩:=hJ.get 38 (.rowA {more:=some isStmtK,most:=400:Row}) rfl (hL 38 (by decide))
 simp -implicitDefEqProofs [St.wp]
 refine eff_box fun X w1 hX hE hb _=> ?_
 rw [show evE ρ (.tmp 43)=_ from e43,hc.cells] at hb
 refine hJ.put 39 _ rfl hE ⟨X,nm,vr,ty,nu,fi,mo,rfl,hb,hc.at' (SameAt.ext hE)⟩
theorem s144_40 (hL:∀d∈([]:List Nat),L d=true) (hJ:J144 w0 A T L ρ w):(.asg none 45 (.var 1):St).wp Tryz.prog Q (J144 w0 A T (setL 40 L)) ρ w:=by
 simp -implicitDefEqProofs [St.wp,hJ.r1]
 exact hJ.put 40 _ rfl (ext_refl _) rfl
theorem s144_41 (hL:∀d∈([]:List Nat),L d=true) (hJ:J144 w0 A T L ρ w):(.asg none 46 (.op1 (.loadN 8) (.var 2)):St).wp Tryz.prog Q (J144 w0 A T (setL 41 L)) ρ w:=by
 obtain ⟨nm,vr,ty,nu,fi,mo,hb,hc⟩:=hJ.ty
 have hrow:=row_blk hb
 simp [rowV] at hrow
 simp -implicitDefEqProofs [St.wp,hJ.r2,hrow]
 exact hJ.put 41 _ rfl (ext_refl _) ⟨nm,vr,ty,nu,fi,mo,rfl,hc⟩
theorem s144_42 (hL:∀d∈([]:List Nat),L d=true) (hJ:J144 w0 A T L ρ w):(.eff none (some 47) (.buildSlice 239 1 #[(0,(.func 65))]) 239:St).wp Tryz.prog Q (J144 w0 A T (setL 42 L)) ρ w:=by
 simp -implicitDefEqProofs [St.wp]
 refine eff_lit sl239 (by decide) rfl (by simp [Value.cells,FnV]) fun B w1 hB hE hb _=> ?_
 refine hJ.put 42 _ rfl hE (.inr ⟨B,[FnV 65 #[]],rfl,by simpa [Value.cells,FnV] using hb,⟨kf_expr,trivial⟩⟩)
theorem s144_43 (hL:∀d∈([40,41,42,37]:List Nat),L d=true) (hJ:J144 w0 A T L ρ w):(.eff none (some 48) (.call {callee:= .value (.tmp 45),args:= #[(.tmp 46),(.tmp 47)],argTypes:= #[241,239]}) 174:St).wp Tryz.prog Q (J144 w0 A T (setL 43 L)) ρ w:=by
 have e45:ρ 45=FnV 218 #[]:=hJ.get 40 (.fx) rfl (hL 40 (by decide))
 obtain ⟨nm,vr,ty,nu,fi,mo,e46,hc⟩:=hJ.get 41 (.rowA tyR) rfl (hL 41 (by decide))
 obtain ⟨B47,l47,e47,hb47,ha47⟩:=(hJ.get 42 (.kids [isExprK]) rfl (hL 42 (by decide))).cons (by simp)
 simp -implicitDefEqProofs [St.wp]
 refine eff_callv cbV218 (t:=45) (fs:= #[]) (caps:= #[]) e45 ?_
 rw [show (#[]++(#[Operand.tmp 46,Operand.tmp 47]:Array Operand).map (evE ρ)++ #[]:Array Value)= #[Value.agg (rowV nm vr ty nu fi mo tyR),Value.slice (some ⟨B47,0,none⟩) 1 1] by simp [e46,e47]]
 refine (p_fixed hc (kv:=Value.slice (some ⟨B47,0,none⟩) 1 1) (l:=[isExprK]) (.inr ⟨B47,l47,rfl,hb47,ha47⟩)).mono ?_
 rintro _ w1 ⟨v,rfl,hv,hE⟩
 simp -implicitDefEqProofs
 exact hJ.put 43 _ rfl hE hv
theorem s144_44 (hL:∀d∈([]:List Nat),L d=true) (hJ:J144 w0 A T L ρ w):(.asg none 49 (.var 1):St).wp Tryz.prog Q (J144 w0 A T (setL 44 L)) ρ w:=by
 simp -implicitDefEqProofs [St.wp,hJ.r1]
 exact hJ.put 44 _ rfl (ext_refl _) rfl
theorem s144_45 (hL:∀d∈([]:List Nat),L d=true) (hJ:J144 w0 A T L ρ w):(.eff none (some 50) (.build 241 #[(0,(.func 77))]) 241:St).wp Tryz.prog Q (J144 w0 A T (setL 45 L)) ρ w:=by
 have hb:Tryz.prog.built 241 [(0,FnV 77 #[])]=some #[FnV 77 #[], .nilFunc, .nilFunc, .nilFunc, .slice none 0 0, .nilFunc, .int .i64 0, .int .i64 0]:=by kernel_rfl
 have hb2:=hb
 try simp only [FnV] at hb2
 simp -implicitDefEqProofs [St.wp,FnV,hb2]
 exact hJ.put 45 _ rfl (ext_refl _) ⟨_,_,_,_,_,_,rfl,⟨(sf_name (w:=w)),rfl,rfl,rfl, .nil,rfl⟩⟩
theorem s144_46 (hL:∀d∈([]:List Nat),L d=true) (hJ:J144 w0 A T L ρ w):(.eff none (some 51) (.buildSlice 239 1 #[(0,(.func 65))]) 239:St).wp Tryz.prog Q (J144 w0 A T (setL 46 L)) ρ w:=by
 simp -implicitDefEqProofs [St.wp]
 refine eff_lit sl239 (by decide) rfl (by simp [Value.cells,FnV]) fun B w1 hB hE hb _=> ?_
 refine hJ.put 46 _ rfl hE (.inr ⟨B,[FnV 65 #[]],rfl,by simpa [Value.cells,FnV] using hb,⟨kf_expr,trivial⟩⟩)
theorem s144_47 (hL:∀d∈([44,45,46,43]:List Nat),L d=true) (hJ:J144 w0 A T L ρ w):(.eff none (some 52) (.call {callee:= .value (.tmp 49),args:= #[(.tmp 50),(.tmp 51)],argTypes:= #[241,239]}) 174:St).wp Tryz.prog Q (J144 w0 A T (setL 47 L)) ρ w:=by
 have e49:ρ 49=FnV 218 #[]:=hJ.get 44 (.fx) rfl (hL 44 (by decide))
 obtain ⟨nm,vr,ty,nu,fi,mo,e50,hc⟩:=hJ.get 45 (.rowA {name:=some isName:Row}) rfl (hL 45 (by decide))
 obtain ⟨B51,l51,e51,hb51,ha51⟩:=(hJ.get 46 (.kids [isExprK]) rfl (hL 46 (by decide))).cons (by simp)
 simp -implicitDefEqProofs [St.wp]
 refine eff_callv cbV218 (t:=49) (fs:= #[]) (caps:= #[]) e49 ?_
 rw [show (#[]++(#[Operand.tmp 50,Operand.tmp 51]:Array Operand).map (evE ρ)++ #[]:Array Value)= #[Value.agg (rowV nm vr ty nu fi mo {name:=some isName:Row}),Value.slice (some ⟨B51,0,none⟩) 1 1] by simp [e50,e51]]
 refine (p_fixed hc (kv:=Value.slice (some ⟨B51,0,none⟩) 1 1) (l:=[isExprK]) (.inr ⟨B51,l51,rfl,hb51,ha51⟩)).mono ?_
 rintro _ w1 ⟨v,rfl,hv,hE⟩
 simp -implicitDefEqProofs
 exact hJ.put 47 _ rfl hE hv
theorem s144_48 (hL:∀d∈([]:List Nat),L d=true) (hJ:J144 w0 A T L ρ w):(.asg none 53 (.var 1):St).wp Tryz.prog Q (J144 w0 A T (setL 48 L)) ρ w:=by
 simp -implicitDefEqProofs [St.wp,hJ.r1]
 exact hJ.put 48 _ rfl (ext_refl _) rfl
theorem s144_49 (hL:∀d∈([]:List Nat),L d=true) (hJ:J144 w0 A T L ρ w):(.eff none (some 54) (.build 241 #[]) 241:St).wp Tryz.prog Q (J144 w0 A T (setL 49 L)) ρ w:=by
 have hb:Tryz.prog.built 241 []=some #[.nilFunc, .nilFunc, .nilFunc, .nilFunc, .slice none 0 0, .nilFunc, .int .i64 0, .int .i64 0]:=by kernel_rfl
 have hb2:=hb
 try simp only [FnV] at hb2
 simp -implicitDefEqProofs [St.wp,FnV,hb2]
 exact hJ.put 49 _ rfl (ext_refl _) ⟨_,_,_,_,_,_,rfl,⟨rfl,rfl,rfl,rfl, .nil,rfl⟩⟩
theorem s144_50 (hL:∀d∈([]:List Nat),L d=true) (hJ:J144 w0 A T L ρ w):(.eff none (some 55) (.buildSlice 239 3 #[(0,(.func 65)),(1,(.func 65)),(2,(.func 65))]) 239:St).wp Tryz.prog Q (J144 w0 A T (setL 50 L)) ρ w:=by
 simp -implicitDefEqProofs [St.wp]
 refine eff_lit sl239 (by decide) rfl (by simp [Value.cells,FnV]) fun B w1 hB hE hb _=> ?_
 refine hJ.put 50 _ rfl hE (.inr ⟨B,[FnV 65 #[],FnV 65 #[],FnV 65 #[]],rfl,by simpa [Value.cells,FnV] using hb,⟨kf_expr,kf_expr,kf_expr,trivial⟩⟩)
theorem s144_51 (hL:∀d∈([48,49,50,47]:List Nat),L d=true) (hJ:J144 w0 A T L ρ w):(.eff none (some 56) (.call {callee:= .value (.tmp 53),args:= #[(.tmp 54),(.tmp 55)],argTypes:= #[241,239]}) 174:St).wp Tryz.prog Q (J144 w0 A T (setL 51 L)) ρ w:=by
 have e53:ρ 53=FnV 218 #[]:=hJ.get 48 (.fx) rfl (hL 48 (by decide))
 obtain ⟨nm,vr,ty,nu,fi,mo,e54,hc⟩:=hJ.get 49 (.rowA ({}:Row)) rfl (hL 49 (by decide))
 obtain ⟨B55,l55,e55,hb55,ha55⟩:=(hJ.get 50 (.kids [isExprK,isExprK,isExprK]) rfl (hL 50 (by decide))).cons (by simp)
 simp -implicitDefEqProofs [St.wp]
 refine eff_callv cbV218 (t:=53) (fs:= #[]) (caps:= #[]) e53 ?_
 rw [show (#[]++(#[Operand.tmp 54,Operand.tmp 55]:Array Operand).map (evE ρ)++ #[]:Array Value)= #[Value.agg (rowV nm vr ty nu fi mo ({}:Row)),Value.slice (some ⟨B55,0,none⟩) 3 3] by simp [e54,e55]]
 refine (p_fixed hc (kv:=Value.slice (some ⟨B55,0,none⟩) 3 3) (l:=[isExprK,isExprK,isExprK]) (.inr ⟨B55,l55,rfl,hb55,ha55⟩)).mono ?_
 rintro _ w1 ⟨v,rfl,hv,hE⟩
 simp -implicitDefEqProofs
 exact hJ.put 51 _ rfl hE hv
theorem s144_52 (hL:∀d∈([]:List Nat),L d=true) (hJ:J144 w0 A T L ρ w):(.asg none 57 (.var 1):St).wp Tryz.prog Q (J144 w0 A T (setL 52 L)) ρ w:=by
 simp -implicitDefEqProofs [St.wp,hJ.r1]
 exact hJ.put 52 _ rfl (ext_refl _) rfl
theorem s144_53 (hL:∀d∈([]:List Nat),L d=true) (hJ:J144 w0 A T L ρ w):(.eff none (some 58) (.build 241 #[(0,(.func 77))]) 241:St).wp Tryz.prog Q (J144 w0 A T (setL 53 L)) ρ w:=by
 have hb:Tryz.prog.built 241 [(0,FnV 77 #[])]=some #[FnV 77 #[], .nilFunc, .nilFunc, .nilFunc, .slice none 0 0, .nilFunc, .int .i64 0, .int .i64 0]:=by kernel_rfl
 have hb2:=hb
 try simp only [FnV] at hb2
 simp -implicitDefEqProofs [St.wp,FnV,hb2]
 exact hJ.put 53 _ rfl (ext_refl _) ⟨_,_,_,_,_,_,rfl,⟨(sf_name (w:=w)),rfl,rfl,rfl, .nil,rfl⟩⟩
theorem s144_54 (hL:∀d∈([]:List Nat),L d=true) (hJ:J144 w0 A T L ρ w):(.eff none (some 59) (.buildSlice 239 2 #[(0,(.func 65)),(1,(.func 65))]) 239:St).wp Tryz.prog Q (J144 w0 A T (setL 54 L)) ρ w:=by
 simp -implicitDefEqProofs [St.wp]
 refine eff_lit sl239 (by decide) rfl (by simp [Value.cells,FnV]) fun B w1 hB hE hb _=> ?_
 refine hJ.put 54 _ rfl hE (.inr ⟨B,[FnV 65 #[],FnV 65 #[]],rfl,by simpa [Value.cells,FnV] using hb,⟨kf_expr,kf_expr,trivial⟩⟩)
theorem s144_55 (hL:∀d∈([52,53,54,51]:List Nat),L d=true) (hJ:J144 w0 A T L ρ w):(.eff none (some 60) (.call {callee:= .value (.tmp 57),args:= #[(.tmp 58),(.tmp 59)],argTypes:= #[241,239]}) 174:St).wp Tryz.prog Q (J144 w0 A T (setL 55 L)) ρ w:=by
 have e57:ρ 57=FnV 218 #[]:=hJ.get 52 (.fx) rfl (hL 52 (by decide))
 obtain ⟨nm,vr,ty,nu,fi,mo,e58,hc⟩:=hJ.get 53 (.rowA {name:=some isName:Row}) rfl (hL 53 (by decide))
 obtain ⟨B59,l59,e59,hb59,ha59⟩:=(hJ.get 54 (.kids [isExprK,isExprK]) rfl (hL 54 (by decide))).cons (by simp)
 simp -implicitDefEqProofs [St.wp]
 refine eff_callv cbV218 (t:=57) (fs:= #[]) (caps:= #[]) e57 ?_
 rw [show (#[]++(#[Operand.tmp 58,Operand.tmp 59]:Array Operand).map (evE ρ)++ #[]:Array Value)= #[Value.agg (rowV nm vr ty nu fi mo {name:=some isName:Row}),Value.slice (some ⟨B59,0,none⟩) 2 2] by simp [e58,e59]]
 refine (p_fixed hc (kv:=Value.slice (some ⟨B59,0,none⟩) 2 2) (l:=[isExprK,isExprK]) (.inr ⟨B59,l59,rfl,hb59,ha59⟩)).mono ?_
 rintro _ w1 ⟨v,rfl,hv,hE⟩
 simp -implicitDefEqProofs
 exact hJ.put 55 _ rfl hE hv
theorem s144_56 (hL:∀d∈([]:List Nat),L d=true) (hJ:J144 w0 A T L ρ w):(.asg none 61 (.var 1):St).wp Tryz.prog Q (J144 w0 A T (setL 56 L)) ρ w:=by
 simp -implicitDefEqProofs [St.wp,hJ.r1]
 exact hJ.put 56 _ rfl (ext_refl _) rfl
theorem s144_57 (hL:∀d∈([]:List Nat),L d=true) (hJ:J144 w0 A T L ρ w):(.eff none (some 62) (.build 241 #[]) 241:St).wp Tryz.prog Q (J144 w0 A T (setL 57 L)) ρ w:=by
 have hb:Tryz.prog.built 241 []=some #[.nilFunc, .nilFunc, .nilFunc, .nilFunc, .slice none 0 0, .nilFunc, .int .i64 0, .int .i64 0]:=by kernel_rfl
 have hb2:=hb
 try simp only [FnV] at hb2
 simp -implicitDefEqProofs [St.wp,FnV,hb2]
 exact hJ.put 57 _ rfl (ext_refl _) ⟨_,_,_,_,_,_,rfl,⟨rfl,rfl,rfl,rfl, .nil,rfl⟩⟩
theorem s144_58 (hL:∀d∈([55]:List Nat),L d=true) (hJ:J144 w0 A T L ρ w):(.eff none (some 63) (.call {callee:= .value (.func 223),args:= #[(.const (.int .u8 5))],argTypes:= #[5]}) 98:St).wp Tryz.prog Q (J144 w0 A T (setL 58 L)) ρ w:=by
 simp -implicitDefEqProofs [St.wp]
 refine (p_isKind 5).mono ?_
 rintro _ w1 ⟨v,rfl,hv,hE⟩
 simp -implicitDefEqProofs
 exact hJ.put 58 _ rfl hE hv
theorem s144_59 (hL:∀d∈([58]:List Nat),L d=true) (hJ:J144 w0 A T L ρ w):(.eff none (some 64) (.buildSlice 239 1 #[(0,(.tmp 63))]) 239:St).wp Tryz.prog Q (J144 w0 A T (setL 59 L)) ρ w:=by
 have hF63:=hJ.get 58 (.knd (isK1 5)) rfl (hL 58 (by decide))
 obtain ⟨F63,c63,e63⟩:=hF63.is
 rw [e63] at hF63
 simp -implicitDefEqProofs [St.wp]
 refine eff_lit sl239 (by decide) rfl (by simp [Value.cells,FnV,e63]) fun B w1 hB hE hb _=> ?_
 refine hJ.put 59 _ rfl hE (.inr ⟨B,[FnV F63 c63],rfl,by simpa [Value.cells,FnV,e63] using hb,⟨(hF63.at' (SameAt.ext (p:=smT) hE) fun _=>by simp [smT]),trivial⟩⟩)
theorem s144_60 (hL:∀d∈([56,57,59,58]:List Nat),L d=true) (hJ:J144 w0 A T L ρ w):(.eff none (some 65) (.call {callee:= .value (.tmp 61),args:= #[(.tmp 62),(.tmp 64)],argTypes:= #[241,239]}) 174:St).wp Tryz.prog Q (J144 w0 A T (setL 60 L)) ρ w:=by
 have e61:ρ 61=FnV 218 #[]:=hJ.get 56 (.fx) rfl (hL 56 (by decide))
 obtain ⟨nm,vr,ty,nu,fi,mo,e62,hc⟩:=hJ.get 57 (.rowA ({}:Row)) rfl (hL 57 (by decide))
 obtain ⟨B64,l64,e64,hb64,ha64⟩:=(hJ.get 59 (.kids [(isK1 5)]) rfl (hL 59 (by decide))).cons (by simp)
 simp -implicitDefEqProofs [St.wp]
 refine eff_callv cbV218 (t:=61) (fs:= #[]) (caps:= #[]) e61 ?_
 rw [show (#[]++(#[Operand.tmp 62,Operand.tmp 64]:Array Operand).map (evE ρ)++ #[]:Array Value)= #[Value.agg (rowV nm vr ty nu fi mo ({}:Row)),Value.slice (some ⟨B64,0,none⟩) 1 1] by simp [e62,e64]]
 refine (p_fixed hc (kv:=Value.slice (some ⟨B64,0,none⟩) 1 1) (l:=[(isK1 5)]) (.inr ⟨B64,l64,rfl,hb64,ha64⟩)).mono ?_
 rintro _ w1 ⟨v,rfl,hv,hE⟩
 simp -implicitDefEqProofs
 exact hJ.put 60 _ rfl hE hv
theorem s144_61 (hL:∀d∈([]:List Nat),L d=true) (hJ:J144 w0 A T L ρ w):(.eff none (some 66) (.buildSlice 239 3 #[(0,(.func 65)),(1,(.func 80)),(2,(.func 80))]) 239:St).wp Tryz.prog Q (J144 w0 A T (setL 61 L)) ρ w:=by
 simp -implicitDefEqProofs [St.wp]
 refine eff_lit sl239 (by decide) rfl (by simp [Value.cells,FnV]) fun B w1 hB hE hb _=> ?_
 refine hJ.put 61 _ rfl hE (.inr ⟨B,[FnV 65 #[],FnV 80 #[],FnV 80 #[]],rfl,by simpa [Value.cells,FnV] using hb,⟨kf_expr,kf_block,kf_block,trivial⟩⟩)
theorem s144_62 (hL:∀d∈([61]:List Nat),L d=true) (hJ:J144 w0 A T L ρ w):(.eff none (some 67) (.build 241 #[(4,(.tmp 66)),(6,(.const (.int .i64 2))),(7,(.const (.int .i64 3)))]) 241:St).wp Tryz.prog Q (J144 w0 A T (setL 62 L)) ρ w:=by
 obtain ⟨B66,l66,e66,hb66,ha66⟩:=(hJ.get 61 (.kids [isExprK,(isK1 20),(isK1 20)]) rfl (hL 61 (by decide))).cons (by simp)
 have hb:Tryz.prog.built 241 [(4, .slice (some ⟨B66,0,none⟩) 3 3),(6, .int .i64 2),(7, .int .i64 3)]=some #[.nilFunc, .nilFunc, .nilFunc, .nilFunc, .slice (some ⟨B66,0,none⟩) 3 3, .nilFunc, .int .i64 2, .int .i64 3]:=by kernel_rfl
 have hb2:=hb
 try simp only [FnV] at hb2
 simp -implicitDefEqProofs [St.wp,e66,FnV,hb2]
 exact hJ.put 62 _ rfl (ext_refl _) ⟨_,_,_,_,_,_,rfl,⟨rfl,rfl,rfl,rfl, .inr ⟨B66,l66,rfl,hb66,ha66⟩,rfl⟩⟩
theorem s144_63 (hL:∀d∈([62]:List Nat),L d=true) (hJ:J144 w0 A T L ρ w):(.eff none (some 68) (.box 241 (.tmp 67)) 174:St).wp Tryz.prog Q (J144 w0 A T (setL 63 L)) ρ w:=by
 obtain ⟨nm,vr,ty,nu,fi,mo,e67,hc⟩:=hJ.get 62 (.rowA {first:=[isExprK,(isK1 20),(isK1 20)],least:=2,most:=3:Row}) rfl (hL 62 (by decide))
 simp -implicitDefEqProofs [St.wp]
 refine eff_box fun X w1 hX hE hb _=> ?_
 rw [show evE ρ (.tmp 67)=_ from e67,hc.cells] at hb
 refine hJ.put 63 _ rfl hE ⟨X,nm,vr,ty,nu,fi,mo,rfl,hb,hc.at' (SameAt.ext hE)⟩
theorem s144_64 (hL:∀d∈([]:List Nat),L d=true) (hJ:J144 w0 A T L ρ w):(.asg none 69 (.var 1):St).wp Tryz.prog Q (J144 w0 A T (setL 64 L)) ρ w:=by
 simp -implicitDefEqProofs [St.wp,hJ.r1]
 exact hJ.put 64 _ rfl (ext_refl _) rfl
theorem s144_65 (hL:∀d∈([]:List Nat),L d=true) (hJ:J144 w0 A T L ρ w):(.eff none (some 70) (.build 241 #[]) 241:St).wp Tryz.prog Q (J144 w0 A T (setL 65 L)) ρ w:=by
 have hb:Tryz.prog.built 241 []=some #[.nilFunc, .nilFunc, .nilFunc, .nilFunc, .slice none 0 0, .nilFunc, .int .i64 0, .int .i64 0]:=by kernel_rfl
 have hb2:=hb
 try simp only [FnV] at hb2
 simp -implicitDefEqProofs [St.wp,FnV,hb2]
 exact hJ.put 65 _ rfl (ext_refl _) ⟨_,_,_,_,_,_,rfl,⟨rfl,rfl,rfl,rfl, .nil,rfl⟩⟩
theorem s144_66 (hL:∀d∈([]:List Nat),L d=true) (hJ:J144 w0 A T L ρ w):(.eff none (some 71) (.buildSlice 239 2 #[(0,(.func 65)),(1,(.func 80))]) 239:St).wp Tryz.prog Q (J144 w0 A T (setL 66 L)) ρ w:=by
 simp -implicitDefEqProofs [St.wp]
 refine eff_lit sl239 (by decide) rfl (by simp [Value.cells,FnV]) fun B w1 hB hE hb _=> ?_
 refine hJ.put 66 _ rfl hE (.inr ⟨B,[FnV 65 #[],FnV 80 #[]],rfl,by simpa [Value.cells,FnV] using hb,⟨kf_expr,kf_block,trivial⟩⟩)
theorem s144_67 (hL:∀d∈([64,65,66,60]:List Nat),L d=true) (hJ:J144 w0 A T L ρ w):(.eff none (some 72) (.call {callee:= .value (.tmp 69),args:= #[(.tmp 70),(.tmp 71)],argTypes:= #[241,239]}) 174:St).wp Tryz.prog Q (J144 w0 A T (setL 67 L)) ρ w:=by
 have e69:ρ 69=FnV 218 #[]:=hJ.get 64 (.fx) rfl (hL 64 (by decide))
 obtain ⟨nm,vr,ty,nu,fi,mo,e70,hc⟩:=hJ.get 65 (.rowA ({}:Row)) rfl (hL 65 (by decide))
 obtain ⟨B71,l71,e71,hb71,ha71⟩:=(hJ.get 66 (.kids [isExprK,(isK1 20)]) rfl (hL 66 (by decide))).cons (by simp)
 simp -implicitDefEqProofs [St.wp]
 refine eff_callv cbV218 (t:=69) (fs:= #[]) (caps:= #[]) e69 ?_
 rw [show (#[]++(#[Operand.tmp 70,Operand.tmp 71]:Array Operand).map (evE ρ)++ #[]:Array Value)= #[Value.agg (rowV nm vr ty nu fi mo ({}:Row)),Value.slice (some ⟨B71,0,none⟩) 2 2] by simp [e70,e71]]
 refine (p_fixed hc (kv:=Value.slice (some ⟨B71,0,none⟩) 2 2) (l:=[isExprK,(isK1 20)]) (.inr ⟨B71,l71,rfl,hb71,ha71⟩)).mono ?_
 rintro _ w1 ⟨v,rfl,hv,hE⟩
 simp -implicitDefEqProofs
 exact hJ.put 67 _ rfl hE hv
theorem s144_68 (hL:∀d∈([]:List Nat),L d=true) (hJ:J144 w0 A T L ρ w):(.asg none 73 (.var 1):St).wp Tryz.prog Q (J144 w0 A T (setL 68 L)) ρ w:=by
 simp -implicitDefEqProofs [St.wp,hJ.r1]
 exact hJ.put 68 _ rfl (ext_refl _) rfl
theorem s144_69 (hL:∀d∈([]:List Nat),L d=true) (hJ:J144 w0 A T L ρ w):(.asg none 74 (.op1 (.loadN 8) (.var 2)):St).wp Tryz.prog Q (J144 w0 A T (setL 69 L)) ρ w:=by
 obtain ⟨nm,vr,ty,nu,fi,mo,hb,hc⟩:=hJ.ty
 have hrow:=row_blk hb
 simp [rowV] at hrow
 simp -implicitDefEqProofs [St.wp,hJ.r2,hrow]
 exact hJ.put 69 _ rfl (ext_refl _) ⟨nm,vr,ty,nu,fi,mo,rfl,hc⟩
theorem s144_70 (hL:∀d∈([67]:List Nat),L d=true) (hJ:J144 w0 A T L ρ w):(.eff none (some 75) (.call {callee:= .value (.func 223),args:= #[(.const (.int .u8 5))],argTypes:= #[5]}) 98:St).wp Tryz.prog Q (J144 w0 A T (setL 70 L)) ρ w:=by
 simp -implicitDefEqProofs [St.wp]
 refine (p_isKind 5).mono ?_
 rintro _ w1 ⟨v,rfl,hv,hE⟩
 simp -implicitDefEqProofs
 exact hJ.put 70 _ rfl hE hv
theorem s144_71 (hL:∀d∈([70]:List Nat),L d=true) (hJ:J144 w0 A T L ρ w):(.eff none (some 76) (.buildSlice 239 2 #[(0,(.tmp 75)),(1,(.func 80))]) 239:St).wp Tryz.prog Q (J144 w0 A T (setL 71 L)) ρ w:=by
 have hF75:=hJ.get 70 (.knd (isK1 5)) rfl (hL 70 (by decide))
 obtain ⟨F75,c75,e75⟩:=hF75.is
 rw [e75] at hF75
 simp -implicitDefEqProofs [St.wp]
 refine eff_lit sl239 (by decide) rfl (by simp [Value.cells,FnV,e75]) fun B w1 hB hE hb _=> ?_
 refine hJ.put 71 _ rfl hE (.inr ⟨B,[FnV F75 c75,FnV 80 #[]],rfl,by simpa [Value.cells,FnV,e75] using hb,⟨(hF75.at' (SameAt.ext (p:=smT) hE) fun _=>by simp [smT]),kf_block,trivial⟩⟩)
theorem s144_72 (hL:∀d∈([68,69,71,70]:List Nat),L d=true) (hJ:J144 w0 A T L ρ w):(.eff none (some 77) (.call {callee:= .value (.tmp 73),args:= #[(.tmp 74),(.tmp 76)],argTypes:= #[241,239]}) 174:St).wp Tryz.prog Q (J144 w0 A T (setL 72 L)) ρ w:=by
 have e73:ρ 73=FnV 218 #[]:=hJ.get 68 (.fx) rfl (hL 68 (by decide))
 obtain ⟨nm,vr,ty,nu,fi,mo,e74,hc⟩:=hJ.get 69 (.rowA tyR) rfl (hL 69 (by decide))
 obtain ⟨B76,l76,e76,hb76,ha76⟩:=(hJ.get 71 (.kids [(isK1 5),(isK1 20)]) rfl (hL 71 (by decide))).cons (by simp)
 simp -implicitDefEqProofs [St.wp]
 refine eff_callv cbV218 (t:=73) (fs:= #[]) (caps:= #[]) e73 ?_
 rw [show (#[]++(#[Operand.tmp 74,Operand.tmp 76]:Array Operand).map (evE ρ)++ #[]:Array Value)= #[Value.agg (rowV nm vr ty nu fi mo tyR),Value.slice (some ⟨B76,0,none⟩) 2 2] by simp [e74,e76]]
 refine (p_fixed hc (kv:=Value.slice (some ⟨B76,0,none⟩) 2 2) (l:=[(isK1 5),(isK1 20)]) (.inr ⟨B76,l76,rfl,hb76,ha76⟩)).mono ?_
 rintro _ w1 ⟨v,rfl,hv,hE⟩
 simp -implicitDefEqProofs
 exact hJ.put 72 _ rfl hE hv
theorem s144_73 (hL:∀d∈([]:List Nat),L d=true) (hJ:J144 w0 A T L ρ w):(.eff none (some 78) (.buildSlice 239 1 #[(0,(.func 65))]) 239:St).wp Tryz.prog Q (J144 w0 A T (setL 73 L)) ρ w:=by
 simp -implicitDefEqProofs [St.wp]
 refine eff_lit sl239 (by decide) rfl (by simp [Value.cells,FnV]) fun B w1 hB hE hb _=> ?_
 refine hJ.put 73 _ rfl hE (.inr ⟨B,[FnV 65 #[]],rfl,by simpa [Value.cells,FnV] using hb,⟨kf_expr,trivial⟩⟩)
theorem s144_74 (hL:∀d∈([73]:List Nat),L d=true) (hJ:J144 w0 A T L ρ w):(.eff none (some 79) (.build 241 #[(4,(.tmp 78)),(7,(.const (.int .i64 1)))]) 241:St).wp Tryz.prog Q (J144 w0 A T (setL 74 L)) ρ w:=by
 obtain ⟨B78,l78,e78,hb78,ha78⟩:=(hJ.get 73 (.kids [isExprK]) rfl (hL 73 (by decide))).cons (by simp)
 have hb:Tryz.prog.built 241 [(4, .slice (some ⟨B78,0,none⟩) 1 1),(7, .int .i64 1)]=some #[.nilFunc, .nilFunc, .nilFunc, .nilFunc, .slice (some ⟨B78,0,none⟩) 1 1, .nilFunc, .int .i64 0, .int .i64 1]:=by kernel_rfl
 have hb2:=hb
 try simp only [FnV] at hb2
 simp -implicitDefEqProofs [St.wp,e78,FnV,hb2]
 exact hJ.put 74 _ rfl (ext_refl _) ⟨_,_,_,_,_,_,rfl,⟨rfl,rfl,rfl,rfl, .inr ⟨B78,l78,rfl,hb78,ha78⟩,rfl⟩⟩
theorem s144_75 (hL:∀d∈([74]:List Nat),L d=true) (hJ:J144 w0 A T L ρ w):(.eff none (some 80) (.box 241 (.tmp 79)) 174:St).wp Tryz.prog Q (J144 w0 A T (setL 75 L)) ρ w:=by
 obtain ⟨nm,vr,ty,nu,fi,mo,e79,hc⟩:=hJ.get 74 (.rowA {first:=[isExprK],most:=1:Row}) rfl (hL 74 (by decide))
 simp -implicitDefEqProofs [St.wp]
 refine eff_box fun X w1 hX hE hb _=> ?_
 rw [show evE ρ (.tmp 79)=_ from e79,hc.cells] at hb
 refine hJ.put 75 _ rfl hE ⟨X,nm,vr,ty,nu,fi,mo,rfl,hb,hc.at' (SameAt.ext hE)⟩
theorem s144_76 (hL:∀d∈([]:List Nat),L d=true) (hJ:J144 w0 A T L ρ w):(.asg none 81 (.var 1):St).wp Tryz.prog Q (J144 w0 A T (setL 76 L)) ρ w:=by
 simp -implicitDefEqProofs [St.wp,hJ.r1]
 exact hJ.put 76 _ rfl (ext_refl _) rfl
theorem s144_77 (hL:∀d∈([]:List Nat),L d=true) (hJ:J144 w0 A T L ρ w):(.eff none (some 82) (.build 241 #[]) 241:St).wp Tryz.prog Q (J144 w0 A T (setL 77 L)) ρ w:=by
 have hb:Tryz.prog.built 241 []=some #[.nilFunc, .nilFunc, .nilFunc, .nilFunc, .slice none 0 0, .nilFunc, .int .i64 0, .int .i64 0]:=by kernel_rfl
 have hb2:=hb
 try simp only [FnV] at hb2
 simp -implicitDefEqProofs [St.wp,FnV,hb2]
 exact hJ.put 77 _ rfl (ext_refl _) ⟨_,_,_,_,_,_,rfl,⟨rfl,rfl,rfl,rfl, .nil,rfl⟩⟩
theorem s144_78 (hL:∀d∈([]:List Nat),L d=true) (hJ:J144 w0 A T L ρ w):(.eff none (some 83) (.buildSlice 239 1 #[(0,(.func 65))]) 239:St).wp Tryz.prog Q (J144 w0 A T (setL 78 L)) ρ w:=by
 simp -implicitDefEqProofs [St.wp]
 refine eff_lit sl239 (by decide) rfl (by simp [Value.cells,FnV]) fun B w1 hB hE hb _=> ?_
 refine hJ.put 78 _ rfl hE (.inr ⟨B,[FnV 65 #[]],rfl,by simpa [Value.cells,FnV] using hb,⟨kf_expr,trivial⟩⟩)
theorem s144_79 (hL:∀d∈([76,77,78,72]:List Nat),L d=true) (hJ:J144 w0 A T L ρ w):(.eff none (some 84) (.call {callee:= .value (.tmp 81),args:= #[(.tmp 82),(.tmp 83)],argTypes:= #[241,239]}) 174:St).wp Tryz.prog Q (J144 w0 A T (setL 79 L)) ρ w:=by
 have e81:ρ 81=FnV 218 #[]:=hJ.get 76 (.fx) rfl (hL 76 (by decide))
 obtain ⟨nm,vr,ty,nu,fi,mo,e82,hc⟩:=hJ.get 77 (.rowA ({}:Row)) rfl (hL 77 (by decide))
 obtain ⟨B83,l83,e83,hb83,ha83⟩:=(hJ.get 78 (.kids [isExprK]) rfl (hL 78 (by decide))).cons (by simp)
 simp -implicitDefEqProofs [St.wp]
 refine eff_callv cbV218 (t:=81) (fs:= #[]) (caps:= #[]) e81 ?_
 rw [show (#[]++(#[Operand.tmp 82,Operand.tmp 83]:Array Operand).map (evE ρ)++ #[]:Array Value)= #[Value.agg (rowV nm vr ty nu fi mo ({}:Row)),Value.slice (some ⟨B83,0,none⟩) 1 1] by simp [e82,e83]]
 refine (p_fixed hc (kv:=Value.slice (some ⟨B83,0,none⟩) 1 1) (l:=[isExprK]) (.inr ⟨B83,l83,rfl,hb83,ha83⟩)).mono ?_
 rintro _ w1 ⟨v,rfl,hv,hE⟩
 simp -implicitDefEqProofs
 exact hJ.put 79 _ rfl hE hv
theorem s144_80 (hL:∀d∈([]:List Nat),L d=true) (hJ:J144 w0 A T L ρ w):(.asg none 85 (.var 1):St).wp Tryz.prog Q (J144 w0 A T (setL 80 L)) ρ w:=by
 simp -implicitDefEqProofs [St.wp,hJ.r1]
 exact hJ.put 80 _ rfl (ext_refl _) rfl
theorem s144_81 (hL:∀d∈([]:List Nat),L d=true) (hJ:J144 w0 A T L ρ w):(.eff none (some 86) (.build 241 #[(0,(.func 77))]) 241:St).wp Tryz.prog Q (J144 w0 A T (setL 81 L)) ρ w:=by
 have hb:Tryz.prog.built 241 [(0,FnV 77 #[])]=some #[FnV 77 #[], .nilFunc, .nilFunc, .nilFunc, .slice none 0 0, .nilFunc, .int .i64 0, .int .i64 0]:=by kernel_rfl
 have hb2:=hb
 try simp only [FnV] at hb2
 simp -implicitDefEqProofs [St.wp,FnV,hb2]
 exact hJ.put 81 _ rfl (ext_refl _) ⟨_,_,_,_,_,_,rfl,⟨(sf_name (w:=w)),rfl,rfl,rfl, .nil,rfl⟩⟩
theorem s144_82 (hL:∀d∈([80,81,79]:List Nat),L d=true) (hJ:J144 w0 A T L ρ w):(.eff none (some 87) (.call {callee:= .value (.tmp 85),args:= #[(.tmp 86),(.const (.slice none 0 0))],argTypes:= #[241,239]}) 174:St).wp Tryz.prog Q (J144 w0 A T (setL 82 L)) ρ w:=by
 have e85:ρ 85=FnV 218 #[]:=hJ.get 80 (.fx) rfl (hL 80 (by decide))
 obtain ⟨nm,vr,ty,nu,fi,mo,e86,hc⟩:=hJ.get 81 (.rowA {name:=some isName:Row}) rfl (hL 81 (by decide))
 simp -implicitDefEqProofs [St.wp]
 refine eff_callv cbV218 (t:=85) (fs:= #[]) (caps:= #[]) e85 ?_
 rw [show (#[]++(#[Operand.tmp 86,Operand.const (.slice none 0 0)]:Array Operand).map (evE ρ)++ #[]:Array Value)= #[Value.agg (rowV nm vr ty nu fi mo {name:=some isName:Row}),Value.slice none 0 0] by simp [e86]]
 refine (p_fixed hc (kv:=Value.slice none 0 0) (l:=[]) (.nil)).mono ?_
 rintro _ w1 ⟨v,rfl,hv,hE⟩
 simp -implicitDefEqProofs
 exact hJ.put 82 _ rfl hE hv
theorem s144_83 (hL:∀d∈([]:List Nat),L d=true) (hJ:J144 w0 A T L ρ w):(.eff none (some 88) (.buildSlice 239 1 #[(0,(.func 80))]) 239:St).wp Tryz.prog Q (J144 w0 A T (setL 83 L)) ρ w:=by
 simp -implicitDefEqProofs [St.wp]
 refine eff_lit sl239 (by decide) rfl (by simp [Value.cells,FnV]) fun B w1 hB hE hb _=> ?_
 refine hJ.put 83 _ rfl hE (.inr ⟨B,[FnV 80 #[]],rfl,by simpa [Value.cells,FnV] using hb,⟨kf_block,trivial⟩⟩)
theorem s144_84 (hL:∀d∈([82]:List Nat),L d=true) (hJ:J144 w0 A T L ρ w):(.eff none (some 89) (.call {callee:= .value (.func 223),args:= #[(.const (.int .u8 33))],argTypes:= #[5]}) 98:St).wp Tryz.prog Q (J144 w0 A T (setL 84 L)) ρ w:=by
 simp -implicitDefEqProofs [St.wp]
 refine (p_isKind 33).mono ?_
 rintro _ w1 ⟨v,rfl,hv,hE⟩
 simp -implicitDefEqProofs
 exact hJ.put 84 _ rfl hE hv
theorem s144_85 (hL:∀d∈([83,84]:List Nat),L d=true) (hJ:J144 w0 A T L ρ w):(.eff none (some 90) (.build 241 #[(4,(.tmp 88)),(5,(.tmp 89)),(6,(.const (.int .i64 2))),(7,(.const (.int .i64 400)))]) 241:St).wp Tryz.prog Q (J144 w0 A T (setL 85 L)) ρ w:=by
 obtain ⟨B88,l88,e88,hb88,ha88⟩:=(hJ.get 83 (.kids [(isK1 20)]) rfl (hL 83 (by decide))).cons (by simp)
 have hF89:=hJ.get 84 (.knd (isK1 33)) rfl (hL 84 (by decide))
 obtain ⟨F89,c89,e89⟩:=hF89.is
 rw [e89] at hF89
 have hb:Tryz.prog.built 241 [(4, .slice (some ⟨B88,0,none⟩) 1 1),(5,FnV F89 c89),(6, .int .i64 2),(7, .int .i64 400)]=some #[.nilFunc, .nilFunc, .nilFunc, .nilFunc, .slice (some ⟨B88,0,none⟩) 1 1,FnV F89 c89, .int .i64 2, .int .i64 400]:=by kernel_rfl
 have hb2:=hb
 try simp only [FnV] at hb2
 simp -implicitDefEqProofs [St.wp,e88,e89,FnV,hb2]
 exact hJ.put 85 _ rfl (ext_refl _) ⟨_,_,_,_,_,_,rfl,⟨rfl,rfl,rfl,rfl, .inr ⟨B88,l88,rfl,hb88,ha88⟩,hF89⟩⟩
theorem s144_86 (hL:∀d∈([85]:List Nat),L d=true) (hJ:J144 w0 A T L ρ w):(.eff none (some 91) (.box 241 (.tmp 90)) 174:St).wp Tryz.prog Q (J144 w0 A T (setL 86 L)) ρ w:=by
 obtain ⟨nm,vr,ty,nu,fi,mo,e90,hc⟩:=hJ.get 85 (.rowA {first:=[(isK1 20)],more:=some (isK1 33),least:=2,most:=400:Row}) rfl (hL 85 (by decide))
 simp -implicitDefEqProofs [St.wp]
 refine eff_box fun X w1 hX hE hb _=> ?_
 rw [show evE ρ (.tmp 90)=_ from e90,hc.cells] at hb
 refine hJ.put 86 _ rfl hE ⟨X,nm,vr,ty,nu,fi,mo,rfl,hb,hc.at' (SameAt.ext hE)⟩
theorem s144_87 (hL:∀d∈([]:List Nat),L d=true) (hJ:J144 w0 A T L ρ w):(.asg none 92 (.var 1):St).wp Tryz.prog Q (J144 w0 A T (setL 87 L)) ρ w:=by
 simp -implicitDefEqProofs [St.wp,hJ.r1]
 exact hJ.put 87 _ rfl (ext_refl _) rfl
theorem s144_88 (hL:∀d∈([]:List Nat),L d=true) (hJ:J144 w0 A T L ρ w):(.asg none 93 (.var 3):St).wp Tryz.prog Q (J144 w0 A T (setL 88 L)) ρ w:=by
 simp -implicitDefEqProofs [St.wp,hJ.r3]
 exact hJ.put 88 _ rfl (ext_refl _) rfl
theorem s144_89 (hL:∀d∈([88]:List Nat),L d=true) (hJ:J144 w0 A T L ρ w):(.eff none (some 94) (.build 241 #[(0,(.tmp 93))]) 241:St).wp Tryz.prog Q (J144 w0 A T (setL 89 L)) ρ w:=by
 have e93:ρ 93=FnV 219 #[]:=hJ.get 88 (.any) rfl (hL 88 (by decide))
 have hb:Tryz.prog.built 241 [(0,FnV 219 #[])]=some #[FnV 219 #[], .nilFunc, .nilFunc, .nilFunc, .slice none 0 0, .nilFunc, .int .i64 0, .int .i64 0]:=by kernel_rfl
 have hb2:=hb
 try simp only [FnV] at hb2
 simp -implicitDefEqProofs [St.wp,e93,FnV,hb2]
 exact hJ.put 89 _ rfl (ext_refl _) ⟨_,_,_,_,_,_,rfl,⟨(sf_any (w:=w)),rfl,rfl,rfl, .nil,rfl⟩⟩
theorem s144_90 (hL:∀d∈([]:List Nat),L d=true) (hJ:J144 w0 A T L ρ w):(.eff none (some 95) (.buildSlice 239 1 #[(0,(.func 80))]) 239:St).wp Tryz.prog Q (J144 w0 A T (setL 90 L)) ρ w:=by
 simp -implicitDefEqProofs [St.wp]
 refine eff_lit sl239 (by decide) rfl (by simp [Value.cells,FnV]) fun B w1 hB hE hb _=> ?_
 refine hJ.put 90 _ rfl hE (.inr ⟨B,[FnV 80 #[]],rfl,by simpa [Value.cells,FnV] using hb,⟨kf_block,trivial⟩⟩)
theorem s144_91 (hL:∀d∈([87,89,90,84]:List Nat),L d=true) (hJ:J144 w0 A T L ρ w):(.eff none (some 96) (.call {callee:= .value (.tmp 92),args:= #[(.tmp 94),(.tmp 95)],argTypes:= #[241,239]}) 174:St).wp Tryz.prog Q (J144 w0 A T (setL 91 L)) ρ w:=by
 have e92:ρ 92=FnV 218 #[]:=hJ.get 87 (.fx) rfl (hL 87 (by decide))
 obtain ⟨nm,vr,ty,nu,fi,mo,e94,hc⟩:=hJ.get 89 (.rowA {name:=some anyB:Row}) rfl (hL 89 (by decide))
 obtain ⟨B95,l95,e95,hb95,ha95⟩:=(hJ.get 90 (.kids [(isK1 20)]) rfl (hL 90 (by decide))).cons (by simp)
 simp -implicitDefEqProofs [St.wp]
 refine eff_callv cbV218 (t:=92) (fs:= #[]) (caps:= #[]) e92 ?_
 rw [show (#[]++(#[Operand.tmp 94,Operand.tmp 95]:Array Operand).map (evE ρ)++ #[]:Array Value)= #[Value.agg (rowV nm vr ty nu fi mo {name:=some anyB:Row}),Value.slice (some ⟨B95,0,none⟩) 1 1] by simp [e94,e95]]
 refine (p_fixed hc (kv:=Value.slice (some ⟨B95,0,none⟩) 1 1) (l:=[(isK1 20)]) (.inr ⟨B95,l95,rfl,hb95,ha95⟩)).mono ?_
 rintro _ w1 ⟨v,rfl,hv,hE⟩
 simp -implicitDefEqProofs
 exact hJ.put 91 _ rfl hE hv
theorem s144_92 (hL:∀d∈([]:List Nat),L d=true) (hJ:J144 w0 A T L ρ w):(.asg none 97 (.var 1):St).wp Tryz.prog Q (J144 w0 A T (setL 92 L)) ρ w:=by
 simp -implicitDefEqProofs [St.wp,hJ.r1]
 exact hJ.put 92 _ rfl (ext_refl _) rfl
theorem s144_93 (hL:∀d∈([]:List Nat),L d=true) (hJ:J144 w0 A T L ρ w):(.eff none (some 98) (.build 241 #[]) 241:St).wp Tryz.prog Q (J144 w0 A T (setL 93 L)) ρ w:=by
 have hb:Tryz.prog.built 241 []=some #[.nilFunc, .nilFunc, .nilFunc, .nilFunc, .slice none 0 0, .nilFunc, .int .i64 0, .int .i64 0]:=by kernel_rfl
 have hb2:=hb
 try simp only [FnV] at hb2
 simp -implicitDefEqProofs [St.wp,FnV,hb2]
 exact hJ.put 93 _ rfl (ext_refl _) ⟨_,_,_,_,_,_,rfl,⟨rfl,rfl,rfl,rfl, .nil,rfl⟩⟩
theorem s144_94 (hL:∀d∈([92,93,91]:List Nat),L d=true) (hJ:J144 w0 A T L ρ w):(.eff none (some 99) (.call {callee:= .value (.tmp 97),args:= #[(.tmp 98),(.const (.slice none 0 0))],argTypes:= #[241,239]}) 174:St).wp Tryz.prog Q (J144 w0 A T (setL 94 L)) ρ w:=by
 have e97:ρ 97=FnV 218 #[]:=hJ.get 92 (.fx) rfl (hL 92 (by decide))
 obtain ⟨nm,vr,ty,nu,fi,mo,e98,hc⟩:=hJ.get 93 (.rowA ({}:Row)) rfl (hL 93 (by decide))
 simp -implicitDefEqProofs [St.wp]
 refine eff_callv cbV218 (t:=97) (fs:= #[]) (caps:= #[]) e97 ?_
 rw [show (#[]++(#[Operand.tmp 98,Operand.const (.slice none 0 0)]:Array Operand).map (evE ρ)++ #[]:Array Value)= #[Value.agg (rowV nm vr ty nu fi mo ({}:Row)),Value.slice none 0 0] by simp [e98]]
 refine (p_fixed hc (kv:=Value.slice none 0 0) (l:=[]) (.nil)).mono ?_
 rintro _ w1 ⟨v,rfl,hv,hE⟩
 simp -implicitDefEqProofs
 exact hJ.put 94 _ rfl hE hv
theorem s144_95 (hL:∀d∈([]:List Nat),L d=true) (hJ:J144 w0 A T L ρ w):(.eff none (some 100) (.buildSlice 239 1 #[(0,(.func 65))]) 239:St).wp Tryz.prog Q (J144 w0 A T (setL 95 L)) ρ w:=by
 simp -implicitDefEqProofs [St.wp]
 refine eff_lit sl239 (by decide) rfl (by simp [Value.cells,FnV]) fun B w1 hB hE hb _=> ?_
 refine hJ.put 95 _ rfl hE (.inr ⟨B,[FnV 65 #[]],rfl,by simpa [Value.cells,FnV] using hb,⟨kf_expr,trivial⟩⟩)
theorem s144_96 (hL:∀d∈([94]:List Nat),L d=true) (hJ:J144 w0 A T L ρ w):(.eff none (some 101) (.call {callee:= .value (.func 223),args:= #[(.const (.int .u8 36))],argTypes:= #[5]}) 98:St).wp Tryz.prog Q (J144 w0 A T (setL 96 L)) ρ w:=by
 simp -implicitDefEqProofs [St.wp]
 refine (p_isKind 36).mono ?_
 rintro _ w1 ⟨v,rfl,hv,hE⟩
 simp -implicitDefEqProofs
 exact hJ.put 96 _ rfl hE hv
theorem s144_97 (hL:∀d∈([95,96]:List Nat),L d=true) (hJ:J144 w0 A T L ρ w):(.eff none (some 102) (.build 241 #[(4,(.tmp 100)),(5,(.tmp 101)),(6,(.const (.int .i64 2))),(7,(.const (.int .i64 400)))]) 241:St).wp Tryz.prog Q (J144 w0 A T (setL 97 L)) ρ w:=by
 obtain ⟨B100,l100,e100,hb100,ha100⟩:=(hJ.get 95 (.kids [isExprK]) rfl (hL 95 (by decide))).cons (by simp)
 have hF101:=hJ.get 96 (.knd (isK1 36)) rfl (hL 96 (by decide))
 obtain ⟨F101,c101,e101⟩:=hF101.is
 rw [e101] at hF101
 have hb:Tryz.prog.built 241 [(4, .slice (some ⟨B100,0,none⟩) 1 1),(5,FnV F101 c101),(6, .int .i64 2),(7, .int .i64 400)]=some #[.nilFunc, .nilFunc, .nilFunc, .nilFunc, .slice (some ⟨B100,0,none⟩) 1 1,FnV F101 c101, .int .i64 2, .int .i64 400]:=by kernel_rfl
 have hb2:=hb
 try simp only [FnV] at hb2
 simp -implicitDefEqProofs [St.wp,e100,e101,FnV,hb2]
 exact hJ.put 97 _ rfl (ext_refl _) ⟨_,_,_,_,_,_,rfl,⟨rfl,rfl,rfl,rfl, .inr ⟨B100,l100,rfl,hb100,ha100⟩,hF101⟩⟩
theorem s144_98 (hL:∀d∈([97]:List Nat),L d=true) (hJ:J144 w0 A T L ρ w):(.eff none (some 103) (.box 241 (.tmp 102)) 174:St).wp Tryz.prog Q (J144 w0 A T (setL 98 L)) ρ w:=by
 obtain ⟨nm,vr,ty,nu,fi,mo,e102,hc⟩:=hJ.get 97 (.rowA {first:=[isExprK],more:=some (isK1 36),least:=2,most:=400:Row}) rfl (hL 97 (by decide))
 simp -implicitDefEqProofs [St.wp]
 refine eff_box fun X w1 hX hE hb _=> ?_
 rw [show evE ρ (.tmp 102)=_ from e102,hc.cells] at hb
 refine hJ.put 98 _ rfl hE ⟨X,nm,vr,ty,nu,fi,mo,rfl,hb,hc.at' (SameAt.ext hE)⟩
theorem s144_99 (hL:∀d∈([]:List Nat),L d=true) (hJ:J144 w0 A T L ρ w):(.asg none 104 (.var 1):St).wp Tryz.prog Q (J144 w0 A T (setL 99 L)) ρ w:=by
 simp -implicitDefEqProofs [St.wp,hJ.r1]
 exact hJ.put 99 _ rfl (ext_refl _) rfl
theorem s144_100 (hL:∀d∈([]:List Nat),L d=true) (hJ:J144 w0 A T L ρ w):(.eff none (some 105) (.build 241 #[(0,(.func 77)),(1,(.func 77)),(2,(.func 22))]) 241:St).wp Tryz.prog Q (J144 w0 A T (setL 100 L)) ρ w:=by
 have hb:Tryz.prog.built 241 [(0,FnV 77 #[]),(1,FnV 77 #[]),(2,FnV 22 #[])]=some #[FnV 77 #[],FnV 77 #[],FnV 22 #[], .nilFunc, .slice none 0 0, .nilFunc, .int .i64 0, .int .i64 0]:=by kernel_rfl
 have hb2:=hb
 try simp only [FnV] at hb2
 simp -implicitDefEqProofs [St.wp,FnV,hb2]
 exact hJ.put 100 _ rfl (ext_refl _) ⟨_,_,_,_,_,_,rfl,⟨(sf_name (w:=w)),(sf_name (w:=w)),(sf_type (w:=w)),rfl, .nil,rfl⟩⟩
theorem s144_101 (hL:∀d∈([]:List Nat),L d=true) (hJ:J144 w0 A T L ρ w):(.eff none (some 106) (.buildSlice 239 1 #[(0,(.func 80))]) 239:St).wp Tryz.prog Q (J144 w0 A T (setL 101 L)) ρ w:=by
 simp -implicitDefEqProofs [St.wp]
 refine eff_lit sl239 (by decide) rfl (by simp [Value.cells,FnV]) fun B w1 hB hE hb _=> ?_
 refine hJ.put 101 _ rfl hE (.inr ⟨B,[FnV 80 #[]],rfl,by simpa [Value.cells,FnV] using hb,⟨kf_block,trivial⟩⟩)
theorem s144_102 (hL:∀d∈([99,100,101,96]:List Nat),L d=true) (hJ:J144 w0 A T L ρ w):(.eff none (some 107) (.call {callee:= .value (.tmp 104),args:= #[(.tmp 105),(.tmp 106)],argTypes:= #[241,239]}) 174:St).wp Tryz.prog Q (J144 w0 A T (setL 102 L)) ρ w:=by
 have e104:ρ 104=FnV 218 #[]:=hJ.get 99 (.fx) rfl (hL 99 (by decide))
 obtain ⟨nm,vr,ty,nu,fi,mo,e105,hc⟩:=hJ.get 100 (.rowA {name:=some isName,vr:=some isName,typ:=some isType:Row}) rfl (hL 100 (by decide))
 obtain ⟨B106,l106,e106,hb106,ha106⟩:=(hJ.get 101 (.kids [(isK1 20)]) rfl (hL 101 (by decide))).cons (by simp)
 simp -implicitDefEqProofs [St.wp]
 refine eff_callv cbV218 (t:=104) (fs:= #[]) (caps:= #[]) e104 ?_
 rw [show (#[]++(#[Operand.tmp 105,Operand.tmp 106]:Array Operand).map (evE ρ)++ #[]:Array Value)= #[Value.agg (rowV nm vr ty nu fi mo {name:=some isName,vr:=some isName,typ:=some isType:Row}),Value.slice (some ⟨B106,0,none⟩) 1 1] by simp [e105,e106]]
 refine (p_fixed hc (kv:=Value.slice (some ⟨B106,0,none⟩) 1 1) (l:=[(isK1 20)]) (.inr ⟨B106,l106,rfl,hb106,ha106⟩)).mono ?_
 rintro _ w1 ⟨v,rfl,hv,hE⟩
 simp -implicitDefEqProofs
 exact hJ.put 102 _ rfl hE hv
theorem s144_103 (hL:∀d∈([]:List Nat),L d=true) (hJ:J144 w0 A T L ρ w):(.asg none 108 (.var 1):St).wp Tryz.prog Q (J144 w0 A T (setL 103 L)) ρ w:=by
 simp -implicitDefEqProofs [St.wp,hJ.r1]
 exact hJ.put 103 _ rfl (ext_refl _) rfl
theorem s144_104 (hL:∀d∈([]:List Nat),L d=true) (hJ:J144 w0 A T L ρ w):(.eff none (some 109) (.build 241 #[]) 241:St).wp Tryz.prog Q (J144 w0 A T (setL 104 L)) ρ w:=by
 have hb:Tryz.prog.built 241 []=some #[.nilFunc, .nilFunc, .nilFunc, .nilFunc, .slice none 0 0, .nilFunc, .int .i64 0, .int .i64 0]:=by kernel_rfl
 have hb2:=hb
 try simp only [FnV] at hb2
 simp -implicitDefEqProofs [St.wp,FnV,hb2]
 exact hJ.put 104 _ rfl (ext_refl _) ⟨_,_,_,_,_,_,rfl,⟨rfl,rfl,rfl,rfl, .nil,rfl⟩⟩
theorem s144_105 (hL:∀d∈([]:List Nat),L d=true) (hJ:J144 w0 A T L ρ w):(.eff none (some 110) (.buildSlice 239 1 #[(0,(.func 65))]) 239:St).wp Tryz.prog Q (J144 w0 A T (setL 105 L)) ρ w:=by
 simp -implicitDefEqProofs [St.wp]
 refine eff_lit sl239 (by decide) rfl (by simp [Value.cells,FnV]) fun B w1 hB hE hb _=> ?_
 refine hJ.put 105 _ rfl hE (.inr ⟨B,[FnV 65 #[]],rfl,by simpa [Value.cells,FnV] using hb,⟨kf_expr,trivial⟩⟩)
theorem s144_106 (hL:∀d∈([103,104,105,102]:List Nat),L d=true) (hJ:J144 w0 A T L ρ w):(.eff none (some 111) (.call {callee:= .value (.tmp 108),args:= #[(.tmp 109),(.tmp 110)],argTypes:= #[241,239]}) 174:St).wp Tryz.prog Q (J144 w0 A T (setL 106 L)) ρ w:=by
 have e108:ρ 108=FnV 218 #[]:=hJ.get 103 (.fx) rfl (hL 103 (by decide))
 obtain ⟨nm,vr,ty,nu,fi,mo,e109,hc⟩:=hJ.get 104 (.rowA ({}:Row)) rfl (hL 104 (by decide))
 obtain ⟨B110,l110,e110,hb110,ha110⟩:=(hJ.get 105 (.kids [isExprK]) rfl (hL 105 (by decide))).cons (by simp)
 simp -implicitDefEqProofs [St.wp]
 refine eff_callv cbV218 (t:=108) (fs:= #[]) (caps:= #[]) e108 ?_
 rw [show (#[]++(#[Operand.tmp 109,Operand.tmp 110]:Array Operand).map (evE ρ)++ #[]:Array Value)= #[Value.agg (rowV nm vr ty nu fi mo ({}:Row)),Value.slice (some ⟨B110,0,none⟩) 1 1] by simp [e109,e110]]
 refine (p_fixed hc (kv:=Value.slice (some ⟨B110,0,none⟩) 1 1) (l:=[isExprK]) (.inr ⟨B110,l110,rfl,hb110,ha110⟩)).mono ?_
 rintro _ w1 ⟨v,rfl,hv,hE⟩
 simp -implicitDefEqProofs
 exact hJ.put 106 _ rfl hE hv
theorem s144_107 (hL:∀d∈([3,7,10,13,18,21,25,29,33,37,39,43,47,51,55,60,63,67,72,75,79,82,86,91,94,98,102,106]:List Nat),L d=true) (hJ:J144 w0 A T L ρ w):(.eff none (some 112) (.build 175 #[(1,(.tmp 8)),(2,(.tmp 12)),(3,(.tmp 15)),(4,(.tmp 18)),(5,(.tmp 23)),(6,(.tmp 26)),(7,(.tmp 30)),(8,(.tmp 34)),(9,(.tmp 38)),(10,(.tmp 42)),(20,(.tmp 44)),(21,(.tmp 48)),(22,(.tmp 52)),(23,(.tmp 56)),(24,(.tmp 60)),(25,(.tmp 65)),(26,(.tmp 68)),(27,(.tmp 72)),(28,(.tmp 77)),(29,(.tmp 80)),(30,(.tmp 84)),(31,(.tmp 87)),(32,(.tmp 91)),(33,(.tmp 96)),(34,(.tmp 99)),(35,(.tmp 103)),(36,(.tmp 107)),(37,(.tmp 111))]) 175:St).wp Tryz.prog Q (J144 w0 A T (setL 107 L)) ρ w:=by
 obtain ⟨X1,h1⟩:=RowP.ptr (hJ.get 3 (.rowP (fixed {n:=some (upTo 1000000000):Row} [])) rfl (hL 3 (by decide)))
 obtain ⟨X2,h2⟩:=RowP.ptr (hJ.get 7 (.rowP (fixed {n:=some (upTo 1):Row} [])) rfl (hL 7 (by decide)))
 obtain ⟨X3,h3⟩:=RowP.ptr (hJ.get 10 (.rowP (fixed ({}:Row) [])) rfl (hL 10 (by decide)))
 obtain ⟨X4,h4⟩:=RowP.ptr (hJ.get 13 (.rowP (fixed {name:=some isName:Row} [])) rfl (hL 13 (by decide)))
 obtain ⟨X5,h5⟩:=RowP.ptr (hJ.get 18 (.rowP {name:=some anyB,vr:=some anyB,typ:=some anyB,more:=some isExprK,most:=6:Row}) rfl (hL 18 (by decide)))
 obtain ⟨X6,h6⟩:=RowP.ptr (hJ.get 21 (.rowP {name:=some operators.contains,first:=[isExprK,isExprK],least:=1,most:=2:Row}) rfl (hL 21 (by decide)))
 obtain ⟨X7,h7⟩:=RowP.ptr (hJ.get 25 (.rowP (fixed ({}:Row) [isExprK,isExprK])) rfl (hL 25 (by decide)))
 obtain ⟨X8,h8⟩:=RowP.ptr (hJ.get 29 (.rowP (fixed {name:=some isName:Row} [isExprK])) rfl (hL 29 (by decide)))
 obtain ⟨X9,h9⟩:=RowP.ptr (hJ.get 33 (.rowP (fixed ({}:Row) [isExprK])) rfl (hL 33 (by decide)))
 obtain ⟨X10,h10⟩:=RowP.ptr (hJ.get 37 (.rowP (fixed ({}:Row) [isExprK])) rfl (hL 37 (by decide)))
 obtain ⟨X20,h20⟩:=RowP.ptr (hJ.get 39 (.rowP {more:=some isStmtK,most:=400:Row}) rfl (hL 39 (by decide)))
 obtain ⟨X21,h21⟩:=RowP.ptr (hJ.get 43 (.rowP (fixed tyR [isExprK])) rfl (hL 43 (by decide)))
 obtain ⟨X22,h22⟩:=RowP.ptr (hJ.get 47 (.rowP (fixed {name:=some isName:Row} [isExprK])) rfl (hL 47 (by decide)))
 obtain ⟨X23,h23⟩:=RowP.ptr (hJ.get 51 (.rowP (fixed ({}:Row) [isExprK,isExprK,isExprK])) rfl (hL 51 (by decide)))
 obtain ⟨X24,h24⟩:=RowP.ptr (hJ.get 55 (.rowP (fixed {name:=some isName:Row} [isExprK,isExprK])) rfl (hL 55 (by decide)))
 obtain ⟨X25,h25⟩:=RowP.ptr (hJ.get 60 (.rowP (fixed ({}:Row) [(isK1 5)])) rfl (hL 60 (by decide)))
 obtain ⟨X26,h26⟩:=RowP.ptr (hJ.get 63 (.rowP {first:=[isExprK,(isK1 20),(isK1 20)],least:=2,most:=3:Row}) rfl (hL 63 (by decide)))
 obtain ⟨X27,h27⟩:=RowP.ptr (hJ.get 67 (.rowP (fixed ({}:Row) [isExprK,(isK1 20)])) rfl (hL 67 (by decide)))
 obtain ⟨X28,h28⟩:=RowP.ptr (hJ.get 72 (.rowP (fixed tyR [(isK1 5),(isK1 20)])) rfl (hL 72 (by decide)))
 obtain ⟨X29,h29⟩:=RowP.ptr (hJ.get 75 (.rowP {first:=[isExprK],most:=1:Row}) rfl (hL 75 (by decide)))
 obtain ⟨X30,h30⟩:=RowP.ptr (hJ.get 79 (.rowP (fixed ({}:Row) [isExprK])) rfl (hL 79 (by decide)))
 obtain ⟨X31,h31⟩:=RowP.ptr (hJ.get 82 (.rowP (fixed {name:=some isName:Row} [])) rfl (hL 82 (by decide)))
 obtain ⟨X32,h32⟩:=RowP.ptr (hJ.get 86 (.rowP {first:=[(isK1 20)],more:=some (isK1 33),least:=2,most:=400:Row}) rfl (hL 86 (by decide)))
 obtain ⟨X33,h33⟩:=RowP.ptr (hJ.get 91 (.rowP (fixed {name:=some anyB:Row} [(isK1 20)])) rfl (hL 91 (by decide)))
 obtain ⟨X34,h34⟩:=RowP.ptr (hJ.get 94 (.rowP (fixed ({}:Row) [])) rfl (hL 94 (by decide)))
 obtain ⟨X35,h35⟩:=RowP.ptr (hJ.get 98 (.rowP {first:=[isExprK],more:=some (isK1 36),least:=2,most:=400:Row}) rfl (hL 98 (by decide)))
 obtain ⟨X36,h36⟩:=RowP.ptr (hJ.get 102 (.rowP (fixed {name:=some isName,vr:=some isName,typ:=some isType:Row} [(isK1 20)])) rfl (hL 102 (by decide)))
 obtain ⟨X37,h37⟩:=RowP.ptr (hJ.get 106 (.rowP (fixed ({}:Row) [isExprK])) rfl (hL 106 (by decide)))
 have hb:Tryz.prog.built 175 [(1, .pointer (some ⟨X1,0,none⟩)),(2, .pointer (some ⟨X2,0,none⟩)),(3, .pointer (some ⟨X3,0,none⟩)),(4, .pointer (some ⟨X4,0,none⟩)),(5, .pointer (some ⟨X5,0,none⟩)),(6, .pointer (some ⟨X6,0,none⟩)),(7, .pointer (some ⟨X7,0,none⟩)),(8, .pointer (some ⟨X8,0,none⟩)),(9, .pointer (some ⟨X9,0,none⟩)),(10, .pointer (some ⟨X10,0,none⟩)),(20, .pointer (some ⟨X20,0,none⟩)),(21, .pointer (some ⟨X21,0,none⟩)),(22, .pointer (some ⟨X22,0,none⟩)),(23, .pointer (some ⟨X23,0,none⟩)),(24, .pointer (some ⟨X24,0,none⟩)),(25, .pointer (some ⟨X25,0,none⟩)),(26, .pointer (some ⟨X26,0,none⟩)),(27, .pointer (some ⟨X27,0,none⟩)),(28, .pointer (some ⟨X28,0,none⟩)),(29, .pointer (some ⟨X29,0,none⟩)),(30, .pointer (some ⟨X30,0,none⟩)),(31, .pointer (some ⟨X31,0,none⟩)),(32, .pointer (some ⟨X32,0,none⟩)),(33, .pointer (some ⟨X33,0,none⟩)),(34, .pointer (some ⟨X34,0,none⟩)),(35, .pointer (some ⟨X35,0,none⟩)),(36, .pointer (some ⟨X36,0,none⟩)),(37, .pointer (some ⟨X37,0,none⟩))]=some #[.pointer none, .pointer (some ⟨X1,0,none⟩), .pointer (some ⟨X2,0,none⟩), .pointer (some ⟨X3,0,none⟩), .pointer (some ⟨X4,0,none⟩), .pointer (some ⟨X5,0,none⟩), .pointer (some ⟨X6,0,none⟩), .pointer (some ⟨X7,0,none⟩), .pointer (some ⟨X8,0,none⟩), .pointer (some ⟨X9,0,none⟩), .pointer (some ⟨X10,0,none⟩), .pointer none, .pointer none, .pointer none, .pointer none, .pointer none, .pointer none, .pointer none, .pointer none, .pointer none, .pointer (some ⟨X20,0,none⟩), .pointer (some ⟨X21,0,none⟩), .pointer (some ⟨X22,0,none⟩), .pointer (some ⟨X23,0,none⟩), .pointer (some ⟨X24,0,none⟩), .pointer (some ⟨X25,0,none⟩), .pointer (some ⟨X26,0,none⟩), .pointer (some ⟨X27,0,none⟩), .pointer (some ⟨X28,0,none⟩), .pointer (some ⟨X29,0,none⟩), .pointer (some ⟨X30,0,none⟩), .pointer (some ⟨X31,0,none⟩), .pointer (some ⟨X32,0,none⟩), .pointer (some ⟨X33,0,none⟩), .pointer (some ⟨X34,0,none⟩), .pointer (some ⟨X35,0,none⟩), .pointer (some ⟨X36,0,none⟩), .pointer (some ⟨X37,0,none⟩)]:=by kernel_rfl
 simp -implicitDefEqProofs [St.wp,h1.1,h2.1,h3.1,h4.1,h5.1,h6.1,h7.1,h8.1,h9.1,h10.1,h20.1,h21.1,h22.1,h23.1,h24.1,h25.1,h26.1,h27.1,h28.1,h29.1,h30.1,h31.1,h32.1,h33.1,h34.1,h35.1,h36.1,h37.1,hb]
 refine hJ.put 107 _ rfl (ext_refl _) ⟨[.pointer none, .pointer (some ⟨X1,0,none⟩), .pointer (some ⟨X2,0,none⟩), .pointer (some ⟨X3,0,none⟩), .pointer (some ⟨X4,0,none⟩), .pointer (some ⟨X5,0,none⟩), .pointer (some ⟨X6,0,none⟩), .pointer (some ⟨X7,0,none⟩), .pointer (some ⟨X8,0,none⟩), .pointer (some ⟨X9,0,none⟩), .pointer (some ⟨X10,0,none⟩), .pointer none, .pointer none, .pointer none, .pointer none, .pointer none, .pointer none, .pointer none, .pointer none, .pointer none, .pointer (some ⟨X20,0,none⟩), .pointer (some ⟨X21,0,none⟩), .pointer (some ⟨X22,0,none⟩), .pointer (some ⟨X23,0,none⟩), .pointer (some ⟨X24,0,none⟩), .pointer (some ⟨X25,0,none⟩), .pointer (some ⟨X26,0,none⟩), .pointer (some ⟨X27,0,none⟩), .pointer (some ⟨X28,0,none⟩), .pointer (some ⟨X29,0,none⟩), .pointer (some ⟨X30,0,none⟩), .pointer (some ⟨X31,0,none⟩), .pointer (some ⟨X32,0,none⟩), .pointer (some ⟨X33,0,none⟩), .pointer (some ⟨X34,0,none⟩), .pointer (some ⟨X35,0,none⟩), .pointer (some ⟨X36,0,none⟩), .pointer (some ⟨X37,0,none⟩)],rfl,rfl, ?_⟩
 intro k hk
 match k,hk with
 |0,_=>exact rfl
 |1,_=>exact h1.2
 |2,_=>exact h2.2
 |3,_=>exact h3.2
 |4,_=>exact h4.2
 |5,_=>exact h5.2
 |6,_=>exact h6.2
 |7,_=>exact h7.2
 |8,_=>exact h8.2
 |9,_=>exact h9.2
 |10,_=>exact h10.2
 |11,_=>exact rfl
 |12,_=>exact rfl
 |13,_=>exact rfl
 |14,_=>exact rfl
 |15,_=>exact rfl
 |16,_=>exact rfl
 |17,_=>exact rfl
 |18,_=>exact rfl
 |19,_=>exact rfl
 |20,_=>exact h20.2
 |21,_=>exact h21.2
 |22,_=>exact h22.2
 |23,_=>exact h23.2
 |24,_=>exact h24.2
 |25,_=>exact h25.2
 |26,_=>exact h26.2
 |27,_=>exact h27.2
 |28,_=>exact h28.2
 |29,_=>exact h29.2
 |30,_=>exact h30.2
 |31,_=>exact h31.2
 |32,_=>exact h32.2
 |33,_=>exact h33.2
 |34,_=>exact h34.2
 |35,_=>exact h35.2
 |36,_=>exact h36.2
 |37,_=>exact h37.2
 |n+38,h=>exact absurd h (by omega)
end
def ir144_d108:List Nat:=[107,106,0,1,2,3,4,5,6,7,8,9,10,11,12,13,14,15,16,17,18,19,20,21,22,23,24,25,26,27,28,29,30,31,32,33,34,35,36,37,38,39,40,41,42,43,44,45,46,47,48,49,50,51,52,53,54,55,56,57,58,59,60,61,62,63,64,65,66,67,68,69,70,71,72,73,74,75,76,77,78,79,80,81,82,83,84,85,86,87,88,89,90,91,92,93,94,95,96,97,98,99,100,101,102,103,104,105,106,107]
theorem s144_108 {w0:World} {A T:Nat} {L:Nat→Bool} {ρ:Env} {w:World} {Q:Ks} (hL:∀d∈ir144_d108,L d=true) (hJ:J144 w0 A T L ρ w) (hi:L 108=false):(.eff none none (.store 175 (.tmp 0) (.tmp 112)) 0:St).wp Tryz.prog Q (J144 w0 A T (setL 108 L)) ρ w:=by
 obtain ⟨cs,e112,hcs⟩:=hJ.get 107 .arr rfl (hL 107 (by decide))
 have hone:∀c∈cs,c.cells= #[c]∧c.oneCell=true:=fun c hc=>by
  obtain ⟨k,hk,rfl⟩:=List.mem_iff_getElem.1 hc
  have h1:=hcs.2 k (by rw [←hcs.1];exact hk)
  rw [List.getD_eq_getElem?_getD,List.getElem?_eq_getElem hk] at h1
  simp only [Option.getD_some] at h1
  generalize cs[k]=c at h1
  cases hr:rowOf k with
  |none=>rw [hr] at h1;cases h1;exact ⟨rfl,rfl⟩
  |some r=>
   rw [hr] at h1
   obtain ⟨X,_,_,_,_,_,_,rfl,_⟩:=h1
   exact ⟨rfl,rfl⟩
 have hcc:=agg_cells fun c hc=>(hone c hc).1
 have e112':evE ρ (.tmp 112)= .agg cs.toArray:=e112
 simp -implicitDefEqProofs [St.wp]
 refine eff_storeN (B:=A) (by simpa using hJ.r0) (hJ.bA hi) (by rw [e112',hcc];simp [hcs.1]) ?_ (by kernel_rfl) fun W hO hb=> ?_
 ·rw [e112',hcc]
  simpa using fun c hc=>(hone c hc).2
 rw [e112',hcc] at hb
 have hE:Ext w0 W:=hO.ext hJ.ext hJ.A0
 have hs:SameAt smT w W:=(SameAt.only hO (hJ.bA hi)).mono fun _ _ h=> .inr h
 simp -implicitDefEqProofs
 refine ⟨hE,hJ.g0.ext hE,hJ.g0,hJ.r0,hJ.r1,hJ.r2,hJ.r3,hJ.A0,fun e=>by simp [setL] at e,fun _=>⟨cs,hb,hcs.at' hs⟩, ?_,fun k F hF hL=> ?_⟩
 ·obtain ⟨nm,vr,ty,nu,fi,mo,h1,h2⟩:=hJ.ty
  exact ⟨nm,vr,ty,nu,fi,mo,h1.at' hs (by simp [smT]),h2.at' hs⟩
 ·have hk:k<108:=by
   have:=(List.getElem?_eq_some_iff.1 hF).1
   rwa [facts_len] at this
  exact AV.at' hs (hJ.facts k F hF (by simpa [setL,show k≠108 by omega] using hL))
theorem step144 {w0:World} {A T:Nat} {L:Nat→Bool} {ρ:Env} {w:World} {Q:Ks} (i:Nat) (s:St) (ds:List Nat) (hs:ir144_s4[i]? =some (some s)) (hd:ir144_d4[i]? =some ds) (hL:∀d∈ds,L d=true) (hJ:J144 w0 A T L ρ w) (hi:L i=false):s.wp Tryz.prog Q (J144 w0 A T (setL i L)) ρ w:=by
 match i with
 |0=>
  obtain rfl:(.asg none 5 (.var 1):St)=s:=Option.some.inj (Option.some.inj hs)
  obtain rfl:([]:List Nat)=ds:=Option.some.inj hd
  exact s144_0 hL hJ
 |1=>
  obtain rfl:(.eff none (some 6) (.call {callee:= .value (.func 220),args:= #[(.const (.int .i64 1000000000))],argTypes:= #[3]}) 238:St)=s:=Option.some.inj (Option.some.inj hs)
  obtain rfl:([]:List Nat)=ds:=Option.some.inj hd
  exact s144_1 hL hJ
 |2=>
  obtain rfl:(.eff none (some 7) (.build 241 #[(3,(.tmp 6))]) 241:St)=s:=Option.some.inj (Option.some.inj hs)
  obtain rfl:([1]:List Nat)=ds:=Option.some.inj hd
  exact s144_2 hL hJ
 |3=>
  obtain rfl:(.eff none (some 8) (.call {callee:= .value (.tmp 5),args:= #[(.tmp 7),(.const (.slice none 0 0))],argTypes:= #[241,239]}) 174:St)=s:=Option.some.inj (Option.some.inj hs)
  obtain rfl:([0,2,1]:List Nat)=ds:=Option.some.inj hd
  exact s144_3 hL hJ
 |4=>
  obtain rfl:(.asg none 9 (.var 1):St)=s:=Option.some.inj (Option.some.inj hs)
  obtain rfl:([]:List Nat)=ds:=Option.some.inj hd
  exact s144_4 hL hJ
 |5=>
  obtain rfl:(.eff none (some 10) (.call {callee:= .value (.func 220),args:= #[(.const (.int .i64 1))],argTypes:= #[3]}) 238:St)=s:=Option.some.inj (Option.some.inj hs)
  obtain rfl:([3]:List Nat)=ds:=Option.some.inj hd
  exact s144_5 hL hJ
 |6=>
  obtain rfl:(.eff none (some 11) (.build 241 #[(3,(.tmp 10))]) 241:St)=s:=Option.some.inj (Option.some.inj hs)
  obtain rfl:([5]:List Nat)=ds:=Option.some.inj hd
  exact s144_6 hL hJ
 |7=>
  obtain rfl:(.eff none (some 12) (.call {callee:= .value (.tmp 9),args:= #[(.tmp 11),(.const (.slice none 0 0))],argTypes:= #[241,239]}) 174:St)=s:=Option.some.inj (Option.some.inj hs)
  obtain rfl:([4,6,5]:List Nat)=ds:=Option.some.inj hd
  exact s144_7 hL hJ
 |8=>
  obtain rfl:(.asg none 13 (.var 1):St)=s:=Option.some.inj (Option.some.inj hs)
  obtain rfl:([]:List Nat)=ds:=Option.some.inj hd
  exact s144_8 hL hJ
 |9=>
  obtain rfl:(.eff none (some 14) (.build 241 #[]) 241:St)=s:=Option.some.inj (Option.some.inj hs)
  obtain rfl:([]:List Nat)=ds:=Option.some.inj hd
  exact s144_9 hL hJ
 |10=>
  obtain rfl:(.eff none (some 15) (.call {callee:= .value (.tmp 13),args:= #[(.tmp 14),(.const (.slice none 0 0))],argTypes:= #[241,239]}) 174:St)=s:=Option.some.inj (Option.some.inj hs)
  obtain rfl:([8,9,7]:List Nat)=ds:=Option.some.inj hd
  exact s144_10 hL hJ
 |11=>
  obtain rfl:(.asg none 16 (.var 1):St)=s:=Option.some.inj (Option.some.inj hs)
  obtain rfl:([]:List Nat)=ds:=Option.some.inj hd
  exact s144_11 hL hJ
 |12=>
  obtain rfl:(.eff none (some 17) (.build 241 #[(0,(.func 77))]) 241:St)=s:=Option.some.inj (Option.some.inj hs)
  obtain rfl:([]:List Nat)=ds:=Option.some.inj hd
  exact s144_12 hL hJ
 |13=>
  obtain rfl:(.eff none (some 18) (.call {callee:= .value (.tmp 16),args:= #[(.tmp 17),(.const (.slice none 0 0))],argTypes:= #[241,239]}) 174:St)=s:=Option.some.inj (Option.some.inj hs)
  obtain rfl:([11,12,10]:List Nat)=ds:=Option.some.inj hd
  exact s144_13 hL hJ
 |14=>
  obtain rfl:(.asg none 19 (.var 3):St)=s:=Option.some.inj (Option.some.inj hs)
  obtain rfl:([]:List Nat)=ds:=Option.some.inj hd
  exact s144_14 hL hJ
 |15=>
  obtain rfl:(.asg none 20 (.var 3):St)=s:=Option.some.inj (Option.some.inj hs)
  obtain rfl:([]:List Nat)=ds:=Option.some.inj hd
  exact s144_15 hL hJ
 |16=>
  obtain rfl:(.asg none 21 (.var 3):St)=s:=Option.some.inj (Option.some.inj hs)
  obtain rfl:([]:List Nat)=ds:=Option.some.inj hd
  exact s144_16 hL hJ
 |17=>
  obtain rfl:(.eff none (some 22) (.build 241 #[(0,(.tmp 19)),(1,(.tmp 20)),(2,(.tmp 21)),(5,(.func 65)),(7,(.const (.int .i64 6)))]) 241:St)=s:=Option.some.inj (Option.some.inj hs)
  obtain rfl:([14,15,16]:List Nat)=ds:=Option.some.inj hd
  exact s144_17 hL hJ
 |18=>
  obtain rfl:(.eff none (some 23) (.box 241 (.tmp 22)) 174:St)=s:=Option.some.inj (Option.some.inj hs)
  obtain rfl:([17]:List Nat)=ds:=Option.some.inj hd
  exact s144_18 hL hJ
 |19=>
  obtain rfl:(.eff none (some 24) (.buildSlice 239 2 #[(0,(.func 65)),(1,(.func 65))]) 239:St)=s:=Option.some.inj (Option.some.inj hs)
  obtain rfl:([]:List Nat)=ds:=Option.some.inj hd
  exact s144_19 hL hJ
 |20=>
  obtain rfl:(.eff none (some 25) (.build 241 #[(0,(.func 221)),(4,(.tmp 24)),(6,(.const (.int .i64 1))),(7,(.const (.int .i64 2)))]) 241:St)=s:=Option.some.inj (Option.some.inj hs)
  obtain rfl:([19]:List Nat)=ds:=Option.some.inj hd
  exact s144_20 hL hJ
 |21=>
  obtain rfl:(.eff none (some 26) (.box 241 (.tmp 25)) 174:St)=s:=Option.some.inj (Option.some.inj hs)
  obtain rfl:([20]:List Nat)=ds:=Option.some.inj hd
  exact s144_21 hL hJ
 |22=>
  obtain rfl:(.asg none 27 (.var 1):St)=s:=Option.some.inj (Option.some.inj hs)
  obtain rfl:([]:List Nat)=ds:=Option.some.inj hd
  exact s144_22 hL hJ
 |23=>
  obtain rfl:(.eff none (some 28) (.build 241 #[]) 241:St)=s:=Option.some.inj (Option.some.inj hs)
  obtain rfl:([]:List Nat)=ds:=Option.some.inj hd
  exact s144_23 hL hJ
 |24=>
  obtain rfl:(.eff none (some 29) (.buildSlice 239 2 #[(0,(.func 65)),(1,(.func 65))]) 239:St)=s:=Option.some.inj (Option.some.inj hs)
  obtain rfl:([]:List Nat)=ds:=Option.some.inj hd
  exact s144_24 hL hJ
 |25=>
  obtain rfl:(.eff none (some 30) (.call {callee:= .value (.tmp 27),args:= #[(.tmp 28),(.tmp 29)],argTypes:= #[241,239]}) 174:St)=s:=Option.some.inj (Option.some.inj hs)
  obtain rfl:([22,23,24,13]:List Nat)=ds:=Option.some.inj hd
  exact s144_25 hL hJ
 |26=>
  obtain rfl:(.asg none 31 (.var 1):St)=s:=Option.some.inj (Option.some.inj hs)
  obtain rfl:([]:List Nat)=ds:=Option.some.inj hd
  exact s144_26 hL hJ
 |27=>
  obtain rfl:(.eff none (some 32) (.build 241 #[(0,(.func 77))]) 241:St)=s:=Option.some.inj (Option.some.inj hs)
  obtain rfl:([]:List Nat)=ds:=Option.some.inj hd
  exact s144_27 hL hJ
 |28=>
  obtain rfl:(.eff none (some 33) (.buildSlice 239 1 #[(0,(.func 65))]) 239:St)=s:=Option.some.inj (Option.some.inj hs)
  obtain rfl:([]:List Nat)=ds:=Option.some.inj hd
  exact s144_28 hL hJ
 |29=>
  obtain rfl:(.eff none (some 34) (.call {callee:= .value (.tmp 31),args:= #[(.tmp 32),(.tmp 33)],argTypes:= #[241,239]}) 174:St)=s:=Option.some.inj (Option.some.inj hs)
  obtain rfl:([26,27,28,25]:List Nat)=ds:=Option.some.inj hd
  exact s144_29 hL hJ
 |30=>
  obtain rfl:(.asg none 35 (.var 1):St)=s:=Option.some.inj (Option.some.inj hs)
  obtain rfl:([]:List Nat)=ds:=Option.some.inj hd
  exact s144_30 hL hJ
 |31=>
  obtain rfl:(.eff none (some 36) (.build 241 #[]) 241:St)=s:=Option.some.inj (Option.some.inj hs)
  obtain rfl:([]:List Nat)=ds:=Option.some.inj hd
  exact s144_31 hL hJ
 |32=>
  obtain rfl:(.eff none (some 37) (.buildSlice 239 1 #[(0,(.func 65))]) 239:St)=s:=Option.some.inj (Option.some.inj hs)
  obtain rfl:([]:List Nat)=ds:=Option.some.inj hd
  exact s144_32 hL hJ
 |33=>
  obtain rfl:(.eff none (some 38) (.call {callee:= .value (.tmp 35),args:= #[(.tmp 36),(.tmp 37)],argTypes:= #[241,239]}) 174:St)=s:=Option.some.inj (Option.some.inj hs)
  obtain rfl:([30,31,32,29]:List Nat)=ds:=Option.some.inj hd
  exact s144_33 hL hJ
 |34=>
  obtain rfl:(.asg none 39 (.var 1):St)=s:=Option.some.inj (Option.some.inj hs)
  obtain rfl:([]:List Nat)=ds:=Option.some.inj hd
  exact s144_34 hL hJ
 |35=>
  obtain rfl:(.eff none (some 40) (.build 241 #[]) 241:St)=s:=Option.some.inj (Option.some.inj hs)
  obtain rfl:([]:List Nat)=ds:=Option.some.inj hd
  exact s144_35 hL hJ
 |36=>
  obtain rfl:(.eff none (some 41) (.buildSlice 239 1 #[(0,(.func 65))]) 239:St)=s:=Option.some.inj (Option.some.inj hs)
  obtain rfl:([]:List Nat)=ds:=Option.some.inj hd
  exact s144_36 hL hJ
 |37=>
  obtain rfl:(.eff none (some 42) (.call {callee:= .value (.tmp 39),args:= #[(.tmp 40),(.tmp 41)],argTypes:= #[241,239]}) 174:St)=s:=Option.some.inj (Option.some.inj hs)
  obtain rfl:([34,35,36,33]:List Nat)=ds:=Option.some.inj hd
  exact s144_37 hL hJ
 |38=>
  obtain rfl:(.eff none (some 43) (.build 241 #[(5,(.func 222)),(7,(.const (.int .i64 400)))]) 241:St)=s:=Option.some.inj (Option.some.inj hs)
  obtain rfl:([]:List Nat)=ds:=Option.some.inj hd
  exact s144_38 hL hJ
 |39=>
  obtain rfl:(.eff none (some 44) (.box 241 (.tmp 43)) 174:St)=s:=Option.some.inj (Option.some.inj hs)
  obtain rfl:([38]:List Nat)=ds:=Option.some.inj hd
  exact s144_39 hL hJ
 |40=>
  obtain rfl:(.asg none 45 (.var 1):St)=s:=Option.some.inj (Option.some.inj hs)
  obtain rfl:([]:List Nat)=ds:=Option.some.inj hd
  exact s144_40 hL hJ
 |41=>
  obtain rfl:(.asg none 46 (.op1 (.loadN 8) (.var 2)):St)=s:=Option.some.inj (Option.some.inj hs)
  obtain rfl:([]:List Nat)=ds:=Option.some.inj hd
  exact s144_41 hL hJ
 |42=>
  obtain rfl:(.eff none (some 47) (.buildSlice 239 1 #[(0,(.func 65))]) 239:St)=s:=Option.some.inj (Option.some.inj hs)
  obtain rfl:([]:List Nat)=ds:=Option.some.inj hd
  exact s144_42 hL hJ
 |43=>
  obtain rfl:(.eff none (some 48) (.call {callee:= .value (.tmp 45),args:= #[(.tmp 46),(.tmp 47)],argTypes:= #[241,239]}) 174:St)=s:=Option.some.inj (Option.some.inj hs)
  obtain rfl:([40,41,42,37]:List Nat)=ds:=Option.some.inj hd
  exact s144_43 hL hJ
 |44=>
  obtain rfl:(.asg none 49 (.var 1):St)=s:=Option.some.inj (Option.some.inj hs)
  obtain rfl:([]:List Nat)=ds:=Option.some.inj hd
  exact s144_44 hL hJ
 |45=>
  obtain rfl:(.eff none (some 50) (.build 241 #[(0,(.func 77))]) 241:St)=s:=Option.some.inj (Option.some.inj hs)
  obtain rfl:([]:List Nat)=ds:=Option.some.inj hd
  exact s144_45 hL hJ
 |46=>
  obtain rfl:(.eff none (some 51) (.buildSlice 239 1 #[(0,(.func 65))]) 239:St)=s:=Option.some.inj (Option.some.inj hs)
  obtain rfl:([]:List Nat)=ds:=Option.some.inj hd
  exact s144_46 hL hJ
 |47=>
  obtain rfl:(.eff none (some 52) (.call {callee:= .value (.tmp 49),args:= #[(.tmp 50),(.tmp 51)],argTypes:= #[241,239]}) 174:St)=s:=Option.some.inj (Option.some.inj hs)
  obtain rfl:([44,45,46,43]:List Nat)=ds:=Option.some.inj hd
  exact s144_47 hL hJ
 |48=>
  obtain rfl:(.asg none 53 (.var 1):St)=s:=Option.some.inj (Option.some.inj hs)
  obtain rfl:([]:List Nat)=ds:=Option.some.inj hd
  exact s144_48 hL hJ
 |49=>
  obtain rfl:(.eff none (some 54) (.build 241 #[]) 241:St)=s:=Option.some.inj (Option.some.inj hs)
  obtain rfl:([]:List Nat)=ds:=Option.some.inj hd
  exact s144_49 hL hJ
 |50=>
  obtain rfl:(.eff none (some 55) (.buildSlice 239 3 #[(0,(.func 65)),(1,(.func 65)),(2,(.func 65))]) 239:St)=s:=Option.some.inj (Option.some.inj hs)
  obtain rfl:([]:List Nat)=ds:=Option.some.inj hd
  exact s144_50 hL hJ
 |51=>
  obtain rfl:(.eff none (some 56) (.call {callee:= .value (.tmp 53),args:= #[(.tmp 54),(.tmp 55)],argTypes:= #[241,239]}) 174:St)=s:=Option.some.inj (Option.some.inj hs)
  obtain rfl:([48,49,50,47]:List Nat)=ds:=Option.some.inj hd
  exact s144_51 hL hJ
 |52=>
  obtain rfl:(.asg none 57 (.var 1):St)=s:=Option.some.inj (Option.some.inj hs)
  obtain rfl:([]:List Nat)=ds:=Option.some.inj hd
  exact s144_52 hL hJ
 |53=>
  obtain rfl:(.eff none (some 58) (.build 241 #[(0,(.func 77))]) 241:St)=s:=Option.some.inj (Option.some.inj hs)
  obtain rfl:([]:List Nat)=ds:=Option.some.inj hd
  exact s144_53 hL hJ
 |54=>
  obtain rfl:(.eff none (some 59) (.buildSlice 239 2 #[(0,(.func 65)),(1,(.func 65))]) 239:St)=s:=Option.some.inj (Option.some.inj hs)
  obtain rfl:([]:List Nat)=ds:=Option.some.inj hd
  exact s144_54 hL hJ
 |55=>
  obtain rfl:(.eff none (some 60) (.call {callee:= .value (.tmp 57),args:= #[(.tmp 58),(.tmp 59)],argTypes:= #[241,239]}) 174:St)=s:=Option.some.inj (Option.some.inj hs)
  obtain rfl:([52,53,54,51]:List Nat)=ds:=Option.some.inj hd
  exact s144_55 hL hJ
 |56=>
  obtain rfl:(.asg none 61 (.var 1):St)=s:=Option.some.inj (Option.some.inj hs)
  obtain rfl:([]:List Nat)=ds:=Option.some.inj hd
  exact s144_56 hL hJ
 |57=>
  obtain rfl:(.eff none (some 62) (.build 241 #[]) 241:St)=s:=Option.some.inj (Option.some.inj hs)
  obtain rfl:([]:List Nat)=ds:=Option.some.inj hd
  exact s144_57 hL hJ
 |58=>
  obtain rfl:(.eff none (some 63) (.call {callee:= .value (.func 223),args:= #[(.const (.int .u8 5))],argTypes:= #[5]}) 98:St)=s:=Option.some.inj (Option.some.inj hs)
  obtain rfl:([55]:List Nat)=ds:=Option.some.inj hd
  exact s144_58 hL hJ
 |59=>
  obtain rfl:(.eff none (some 64) (.buildSlice 239 1 #[(0,(.tmp 63))]) 239:St)=s:=Option.some.inj (Option.some.inj hs)
  obtain rfl:([58]:List Nat)=ds:=Option.some.inj hd
  exact s144_59 hL hJ
 |60=>
  obtain rfl:(.eff none (some 65) (.call {callee:= .value (.tmp 61),args:= #[(.tmp 62),(.tmp 64)],argTypes:= #[241,239]}) 174:St)=s:=Option.some.inj (Option.some.inj hs)
  obtain rfl:([56,57,59,58]:List Nat)=ds:=Option.some.inj hd
  exact s144_60 hL hJ
 |61=>
  obtain rfl:(.eff none (some 66) (.buildSlice 239 3 #[(0,(.func 65)),(1,(.func 80)),(2,(.func 80))]) 239:St)=s:=Option.some.inj (Option.some.inj hs)
  obtain rfl:([]:List Nat)=ds:=Option.some.inj hd
  exact s144_61 hL hJ
 |62=>
  obtain rfl:(.eff none (some 67) (.build 241 #[(4,(.tmp 66)),(6,(.const (.int .i64 2))),(7,(.const (.int .i64 3)))]) 241:St)=s:=Option.some.inj (Option.some.inj hs)
  obtain rfl:([61]:List Nat)=ds:=Option.some.inj hd
  exact s144_62 hL hJ
 |63=>
  obtain rfl:(.eff none (some 68) (.box 241 (.tmp 67)) 174:St)=s:=Option.some.inj (Option.some.inj hs)
  obtain rfl:([62]:List Nat)=ds:=Option.some.inj hd
  exact s144_63 hL hJ
 |64=>
  obtain rfl:(.asg none 69 (.var 1):St)=s:=Option.some.inj (Option.some.inj hs)
  obtain rfl:([]:List Nat)=ds:=Option.some.inj hd
  exact s144_64 hL hJ
 |65=>
  obtain rfl:(.eff none (some 70) (.build 241 #[]) 241:St)=s:=Option.some.inj (Option.some.inj hs)
  obtain rfl:([]:List Nat)=ds:=Option.some.inj hd
  exact s144_65 hL hJ
 |66=>
  obtain rfl:(.eff none (some 71) (.buildSlice 239 2 #[(0,(.func 65)),(1,(.func 80))]) 239:St)=s:=Option.some.inj (Option.some.inj hs)
  obtain rfl:([]:List Nat)=ds:=Option.some.inj hd
  exact s144_66 hL hJ
 |67=>
  obtain rfl:(.eff none (some 72) (.call {callee:= .value (.tmp 69),args:= #[(.tmp 70),(.tmp 71)],argTypes:= #[241,239]}) 174:St)=s:=Option.some.inj (Option.some.inj hs)
  obtain rfl:([64,65,66,60]:List Nat)=ds:=Option.some.inj hd
  exact s144_67 hL hJ
 |68=>
  obtain rfl:(.asg none 73 (.var 1):St)=s:=Option.some.inj (Option.some.inj hs)
  obtain rfl:([]:List Nat)=ds:=Option.some.inj hd
  exact s144_68 hL hJ
 |69=>
  obtain rfl:(.asg none 74 (.op1 (.loadN 8) (.var 2)):St)=s:=Option.some.inj (Option.some.inj hs)
  obtain rfl:([]:List Nat)=ds:=Option.some.inj hd
  exact s144_69 hL hJ
 |70=>
  obtain rfl:(.eff none (some 75) (.call {callee:= .value (.func 223),args:= #[(.const (.int .u8 5))],argTypes:= #[5]}) 98:St)=s:=Option.some.inj (Option.some.inj hs)
  obtain rfl:([67]:List Nat)=ds:=Option.some.inj hd
  exact s144_70 hL hJ
 |71=>
  obtain rfl:(.eff none (some 76) (.buildSlice 239 2 #[(0,(.tmp 75)),(1,(.func 80))]) 239:St)=s:=Option.some.inj (Option.some.inj hs)
  obtain rfl:([70]:List Nat)=ds:=Option.some.inj hd
  exact s144_71 hL hJ
 |72=>
  obtain rfl:(.eff none (some 77) (.call {callee:= .value (.tmp 73),args:= #[(.tmp 74),(.tmp 76)],argTypes:= #[241,239]}) 174:St)=s:=Option.some.inj (Option.some.inj hs)
  obtain rfl:([68,69,71,70]:List Nat)=ds:=Option.some.inj hd
  exact s144_72 hL hJ
 |73=>
  obtain rfl:(.eff none (some 78) (.buildSlice 239 1 #[(0,(.func 65))]) 239:St)=s:=Option.some.inj (Option.some.inj hs)
  obtain rfl:([]:List Nat)=ds:=Option.some.inj hd
  exact s144_73 hL hJ
 |74=>
  obtain rfl:(.eff none (some 79) (.build 241 #[(4,(.tmp 78)),(7,(.const (.int .i64 1)))]) 241:St)=s:=Option.some.inj (Option.some.inj hs)
  obtain rfl:([73]:List Nat)=ds:=Option.some.inj hd
  exact s144_74 hL hJ
 |75=>
  obtain rfl:(.eff none (some 80) (.box 241 (.tmp 79)) 174:St)=s:=Option.some.inj (Option.some.inj hs)
  obtain rfl:([74]:List Nat)=ds:=Option.some.inj hd
  exact s144_75 hL hJ
 |76=>
  obtain rfl:(.asg none 81 (.var 1):St)=s:=Option.some.inj (Option.some.inj hs)
  obtain rfl:([]:List Nat)=ds:=Option.some.inj hd
  exact s144_76 hL hJ
 |77=>
  obtain rfl:(.eff none (some 82) (.build 241 #[]) 241:St)=s:=Option.some.inj (Option.some.inj hs)
  obtain rfl:([]:List Nat)=ds:=Option.some.inj hd
  exact s144_77 hL hJ
 |78=>
  obtain rfl:(.eff none (some 83) (.buildSlice 239 1 #[(0,(.func 65))]) 239:St)=s:=Option.some.inj (Option.some.inj hs)
  obtain rfl:([]:List Nat)=ds:=Option.some.inj hd
  exact s144_78 hL hJ
 |79=>
  obtain rfl:(.eff none (some 84) (.call {callee:= .value (.tmp 81),args:= #[(.tmp 82),(.tmp 83)],argTypes:= #[241,239]}) 174:St)=s:=Option.some.inj (Option.some.inj hs)
  obtain rfl:([76,77,78,72]:List Nat)=ds:=Option.some.inj hd
  exact s144_79 hL hJ
 |80=>
  obtain rfl:(.asg none 85 (.var 1):St)=s:=Option.some.inj (Option.some.inj hs)
  obtain rfl:([]:List Nat)=ds:=Option.some.inj hd
  exact s144_80 hL hJ
 |81=>
  obtain rfl:(.eff none (some 86) (.build 241 #[(0,(.func 77))]) 241:St)=s:=Option.some.inj (Option.some.inj hs)
  obtain rfl:([]:List Nat)=ds:=Option.some.inj hd
  exact s144_81 hL hJ
 |82=>
  obtain rfl:(.eff none (some 87) (.call {callee:= .value (.tmp 85),args:= #[(.tmp 86),(.const (.slice none 0 0))],argTypes:= #[241,239]}) 174:St)=s:=Option.some.inj (Option.some.inj hs)
  obtain rfl:([80,81,79]:List Nat)=ds:=Option.some.inj hd
  exact s144_82 hL hJ
 |83=>
  obtain rfl:(.eff none (some 88) (.buildSlice 239 1 #[(0,(.func 80))]) 239:St)=s:=Option.some.inj (Option.some.inj hs)
  obtain rfl:([]:List Nat)=ds:=Option.some.inj hd
  exact s144_83 hL hJ
 |84=>
  obtain rfl:(.eff none (some 89) (.call {callee:= .value (.func 223),args:= #[(.const (.int .u8 33))],argTypes:= #[5]}) 98:St)=s:=Option.some.inj (Option.some.inj hs)
  obtain rfl:([82]:List Nat)=ds:=Option.some.inj hd
  exact s144_84 hL hJ
 |85=>
  obtain rfl:(.eff none (some 90) (.build 241 #[(4,(.tmp 88)),(5,(.tmp 89)),(6,(.const (.int .i64 2))),(7,(.const (.int .i64 400)))]) 241:St)=s:=Option.some.inj (Option.some.inj hs)
  obtain rfl:([83,84]:List Nat)=ds:=Option.some.inj hd
  exact s144_85 hL hJ
 |86=>
  obtain rfl:(.eff none (some 91) (.box 241 (.tmp 90)) 174:St)=s:=Option.some.inj (Option.some.inj hs)
  obtain rfl:([85]:List Nat)=ds:=Option.some.inj hd
  exact s144_86 hL hJ
 |87=>
  obtain rfl:(.asg none 92 (.var 1):St)=s:=Option.some.inj (Option.some.inj hs)
  obtain rfl:([]:List Nat)=ds:=Option.some.inj hd
  exact s144_87 hL hJ
 |88=>
  obtain rfl:(.asg none 93 (.var 3):St)=s:=Option.some.inj (Option.some.inj hs)
  obtain rfl:([]:List Nat)=ds:=Option.some.inj hd
  exact s144_88 hL hJ
 |89=>
  obtain rfl:(.eff none (some 94) (.build 241 #[(0,(.tmp 93))]) 241:St)=s:=Option.some.inj (Option.some.inj hs)
  obtain rfl:([88]:List Nat)=ds:=Option.some.inj hd
  exact s144_89 hL hJ
 |90=>
  obtain rfl:(.eff none (some 95) (.buildSlice 239 1 #[(0,(.func 80))]) 239:St)=s:=Option.some.inj (Option.some.inj hs)
  obtain rfl:([]:List Nat)=ds:=Option.some.inj hd
  exact s144_90 hL hJ
 |91=>
  obtain rfl:(.eff none (some 96) (.call {callee:= .value (.tmp 92),args:= #[(.tmp 94),(.tmp 95)],argTypes:= #[241,239]}) 174:St)=s:=Option.some.inj (Option.some.inj hs)
  obtain rfl:([87,89,90,84]:List Nat)=ds:=Option.some.inj hd
  exact s144_91 hL hJ
 |92=>
  obtain rfl:(.asg none 97 (.var 1):St)=s:=Option.some.inj (Option.some.inj hs)
  obtain rfl:([]:List Nat)=ds:=Option.some.inj hd
  exact s144_92 hL hJ
 |93=>
  obtain rfl:(.eff none (some 98) (.build 241 #[]) 241:St)=s:=Option.some.inj (Option.some.inj hs)
  obtain rfl:([]:List Nat)=ds:=Option.some.inj hd
  exact s144_93 hL hJ
 |94=>
  obtain rfl:(.eff none (some 99) (.call {callee:= .value (.tmp 97),args:= #[(.tmp 98),(.const (.slice none 0 0))],argTypes:= #[241,239]}) 174:St)=s:=Option.some.inj (Option.some.inj hs)
  obtain rfl:([92,93,91]:List Nat)=ds:=Option.some.inj hd
  exact s144_94 hL hJ
 |95=>
  obtain rfl:(.eff none (some 100) (.buildSlice 239 1 #[(0,(.func 65))]) 239:St)=s:=Option.some.inj (Option.some.inj hs)
  obtain rfl:([]:List Nat)=ds:=Option.some.inj hd
  exact s144_95 hL hJ
 |96=>
  obtain rfl:(.eff none (some 101) (.call {callee:= .value (.func 223),args:= #[(.const (.int .u8 36))],argTypes:= #[5]}) 98:St)=s:=Option.some.inj (Option.some.inj hs)
  obtain rfl:([94]:List Nat)=ds:=Option.some.inj hd
  exact s144_96 hL hJ
 |97=>
  obtain rfl:(.eff none (some 102) (.build 241 #[(4,(.tmp 100)),(5,(.tmp 101)),(6,(.const (.int .i64 2))),(7,(.const (.int .i64 400)))]) 241:St)=s:=Option.some.inj (Option.some.inj hs)
  obtain rfl:([95,96]:List Nat)=ds:=Option.some.inj hd
  exact s144_97 hL hJ
 |98=>
  obtain rfl:(.eff none (some 103) (.box 241 (.tmp 102)) 174:St)=s:=Option.some.inj (Option.some.inj hs)
  obtain rfl:([97]:List Nat)=ds:=Option.some.inj hd
  exact s144_98 hL hJ
 |99=>
  obtain rfl:(.asg none 104 (.var 1):St)=s:=Option.some.inj (Option.some.inj hs)
  obtain rfl:([]:List Nat)=ds:=Option.some.inj hd
  exact s144_99 hL hJ
 |100=>
  obtain rfl:(.eff none (some 105) (.build 241 #[(0,(.func 77)),(1,(.func 77)),(2,(.func 22))]) 241:St)=s:=Option.some.inj (Option.some.inj hs)
  obtain rfl:([]:List Nat)=ds:=Option.some.inj hd
  exact s144_100 hL hJ
 |101=>
  obtain rfl:(.eff none (some 106) (.buildSlice 239 1 #[(0,(.func 80))]) 239:St)=s:=Option.some.inj (Option.some.inj hs)
  obtain rfl:([]:List Nat)=ds:=Option.some.inj hd
  exact s144_101 hL hJ
 |102=>
  obtain rfl:(.eff none (some 107) (.call {callee:= .value (.tmp 104),args:= #[(.tmp 105),(.tmp 106)],argTypes:= #[241,239]}) 174:St)=s:=Option.some.inj (Option.some.inj hs)
  obtain rfl:([99,100,101,96]:List Nat)=ds:=Option.some.inj hd
  exact s144_102 hL hJ
 |103=>
  obtain rfl:(.asg none 108 (.var 1):St)=s:=Option.some.inj (Option.some.inj hs)
  obtain rfl:([]:List Nat)=ds:=Option.some.inj hd
  exact s144_103 hL hJ
 |104=>
  obtain rfl:(.eff none (some 109) (.build 241 #[]) 241:St)=s:=Option.some.inj (Option.some.inj hs)
  obtain rfl:([]:List Nat)=ds:=Option.some.inj hd
  exact s144_104 hL hJ
 |105=>
  obtain rfl:(.eff none (some 110) (.buildSlice 239 1 #[(0,(.func 65))]) 239:St)=s:=Option.some.inj (Option.some.inj hs)
  obtain rfl:([]:List Nat)=ds:=Option.some.inj hd
  exact s144_105 hL hJ
 |106=>
  obtain rfl:(.eff none (some 111) (.call {callee:= .value (.tmp 108),args:= #[(.tmp 109),(.tmp 110)],argTypes:= #[241,239]}) 174:St)=s:=Option.some.inj (Option.some.inj hs)
  obtain rfl:([103,104,105,102]:List Nat)=ds:=Option.some.inj hd
  exact s144_106 hL hJ
 |107=>
  obtain rfl:(.eff none (some 112) (.build 175 #[(1,(.tmp 8)),(2,(.tmp 12)),(3,(.tmp 15)),(4,(.tmp 18)),(5,(.tmp 23)),(6,(.tmp 26)),(7,(.tmp 30)),(8,(.tmp 34)),(9,(.tmp 38)),(10,(.tmp 42)),(20,(.tmp 44)),(21,(.tmp 48)),(22,(.tmp 52)),(23,(.tmp 56)),(24,(.tmp 60)),(25,(.tmp 65)),(26,(.tmp 68)),(27,(.tmp 72)),(28,(.tmp 77)),(29,(.tmp 80)),(30,(.tmp 84)),(31,(.tmp 87)),(32,(.tmp 91)),(33,(.tmp 96)),(34,(.tmp 99)),(35,(.tmp 103)),(36,(.tmp 107)),(37,(.tmp 111))]) 175:St)=s:=Option.some.inj (Option.some.inj hs)
  obtain rfl:([3,7,10,13,18,21,25,29,33,37,39,43,47,51,55,60,63,67,72,75,79,82,86,91,94,98,102,106]:List Nat)=ds:=Option.some.inj hd
  exact s144_107 hL hJ
 |108=>
  obtain rfl:(.eff none none (.store 175 (.tmp 0) (.tmp 112)) 0:St)=s:=Option.some.inj (Option.some.inj hs)
  obtain rfl:(ir144_d108:List Nat)=ds:=Option.some.inj hd
  exact s144_108 hL hJ hi
 |n+109=>cases hs
theorem z175:zeroCellsOf Tryz.prog 175=some (Array.replicate 38 (.pointer none)):=by kernel_rfl
theorem z241:zeroCellsOf Tryz.prog 241=some #[.nilFunc, .nilFunc, .nilFunc, .nilFunc, .slice none 0 0, .nilFunc, .int .i64 0, .int .i64 0]:=by kernel_rfl
theorem sz241:sizeIs Tryz.prog 241 8=true:=by kernel_rfl
theorem bu241ty:Tryz.prog.built 241 [(0, .func (.func 77) #[] #[]),(2, .func (.func 22) #[] #[])]=some #[FnV 77 #[], .nilFunc,FnV 22 #[], .nilFunc, .slice none 0 0, .nilFunc, .int .i64 0, .int .i64 0]:=by kernel_rfl
theorem p_rows {w:World} (hG:L01.G w):Calls Tryz.prog 144 #[] w fun e w'=>∃cs:List Value,e= .returned (.agg cs.toArray)∧ArrC w' cs∧Ext w w':=by
 refine ir144_calls fun ρ=> ?_
 simp -implicitDefEqProofs [ir144]
 refine eff_alloc z175 fun A w1 hA hE1 hbA _=> ?_
 simp -implicitDefEqProofs [bu241ty]
 refine eff_alloc z241 fun T w2 hT hE2 hbT _=> ?_
 simp -implicitDefEqProofs
 refine eff_storeN (B:=T) (by simp) hbT (by simp [Value.cells,FnV]) (by simp [Value.cells,FnV];exact ⟨rfl,rfl,rfl,rfl⟩) (by simpa [Value.cells,FnV] using sz241) fun w3 hO3 hb3=> ?_
 simp -implicitDefEqProofs [Value.cells,FnV] at hb3
 have hE3:Ext w w3:=hO3.ext (hE1.trans' hE2) (by have:=hE1.size;omega)
 have hA3:=hO3.blk (hbA.ext hE2) (by have:=hbA.lt;omega)
 simp -implicitDefEqProofs
 refine raw_inv ir144_s4_ok ir144_d4_ok (by decide) (by decide) (J144 w A T) ?_ ?_ ?_
 ·intro w' hE _
  refine ⟨hE3.trans' hE,hG.ext (hE3.trans' hE),hG,by simp,by simp [FnV],by simp,by simp [FnV],hA,fun _=>hA3.ext hE,fun e=>(by cases e),⟨FnV 77 #[], .nilFunc,FnV 22 #[], .nilFunc, .slice none 0 0, .nilFunc,(hb3.ext hE),⟨sf_name (w:=w),rfl,sf_type (w:=w),rfl, .nil,rfl⟩⟩,fun k F _ hL=>by cases hL⟩
 ·intro L i s ds hs hd hi hL ρ w hJ
  exact step144 i s ds hs hd hL hJ hi
 ·intro L ρ w4 hL hJ
  obtain ⟨cs,hb,hcs⟩:=hJ.fin (hL 108 (by decide))
  simp -implicitDefEqProofs [ir144_k0]
  refine retK_c1 (by simpa using hJ.r0) hb (by simp [hcs.1]) ?_
  exact ⟨cs,by simp,hcs,hJ.ext⟩
end Go.L02
namespace Go.Eng
open Go.RowKit
section
variable {P:Program} {Q:Ks} {d:Option Nat} {ty:TypeId} {K:Env→World→Prop} {ρ:Env} {w:World}
def isNilF:Value→Bool| .nilFunc=>true|_=>false
def fnT (P:Program) (t:TypeId):Bool:=match P.underlying t with|some (.func ..)=>true|_=>false
theorem run_eql_nilF {t:TypeId} {v:Value} (ht:fnT P t=true) (hv:v= .nilFunc∨∃F a b,v= .func F a b):(Op.equal t v .nilFunc).run P w= .ok (isNilF v) w:=by
 unfold fnT at ht
 split at ht
 ·rename_i hu
  have h:∀d:Nat,(Op.equalIn (d+1) t v .nilFunc).run P w= .ok (isNilF v) w:=fun d=>by
   rcases hv with rfl|⟨F,a,b,rfl⟩<;>simp [Op.equalIn,run_underlying hu,isNilF]
  simp [Op.equal,Op.maxDepth,h 9999]
 ·cases ht
theorem eff_eqlNilF {t t2:TypeId} {x:Operand} {v:Value} (ht:fnT P t=true) (hx:evE ρ x=v) (hv:v= .nilFunc∨∃F a b,v= .func F a b) (h:K (updO ρ d (.bool (isNilF v))) w):effW P Q d (.binOp .eql t x (.const .nilFunc) t2) ty K ρ w:=by
 refine effE_ok (v:= .bool (isNilF v)) (w':=w) ?_ h
 have:=run_eql_nilF (w:=w) ht hv
 rcases hv with rfl|⟨F,a,b,rfl⟩<;>simp [execOp,effOp,hx,eqGuard,binOp,this]
theorem eff_neqNilF {t t2:TypeId} {x:Operand} {v:Value} (ht:fnT P t=true) (hx:evE ρ x=v) (hv:v= .nilFunc∨∃F a b,v= .func F a b) (h:K (updO ρ d (.bool (!isNilF v))) w):effW P Q d (.binOp .neq t x (.const .nilFunc) t2) ty K ρ w:=by
 refine effE_ok (v:= .bool (!isNilF v)) (w':=w) ?_ h
 have:=run_eql_nilF (w:=w) ht hv
 rcases hv with rfl|⟨F,a,b,rfl⟩<;>simp [execOp,effOp,hx,eqGuard,binOp,this]
end
end Go.Eng
namespace Go.L02
open Go Go.Eng Go.RowKit
open Go.Proofs hiding encI
open Go.L01 (Bs Tok encT SlT Own.same retK_c1 isName)
set_option maxRecDepth 100000
set_option maxHeartbeats 2000000
structure Rd (w:World) (v:Value) (xs:List NV):Prop where
 cells:Cells w v 6 (nvV xs)
 kids:∀x∈xs,Cells w x.kv 1 (x.nd.kids.map encI)
theorem _root_.Go.Eng.Cells.ext {w w':World} {v:Value} {sz:Nat} {xs:List Value} (h:Cells w v sz xs) (hE:Ext w w'):Cells w' v sz xs:=⟨h.is,h.len,fun j hj=>hE.cell (h.cell j hj)⟩
theorem Rd.ext {w w':World} {v:Value} {xs:List NV} (h:Rd w v xs) (hE:Ext w w'):Rd w' v xs:=⟨h.cells.ext hE,fun x hx=>(h.kids x hx).ext hE⟩
theorem nvV_get {xs:List NV} {k j:Nat} (hk:k<xs.length) (hj:j<6):(nvV xs)[k*6+j]? =(ndV xs[k])[j]? :=by
 induction xs generalizing k with
 |nil=>simp at hk
 |cons x xs ih=>
  have e:nvV (x::xs)=ndV x++nvV xs:=rfl
  have hl:(ndV x).length=6:=rfl
  rw [e]
  cases k with
  |zero=>rw [List.getElem?_append_left (by omega)];simp
  |succ k=>
   rw [List.getElem?_append_right (by omega),show (k+1)*6+j - (ndV x).length=k*6+j by omega]
   simpa using ih (k:=k) (by simpa using hk)
section
variable {w:World} {v:Value} {xs:List NV}
theorem Rd.len (h:Rd w v xs):slLen v=xs.length:=by have:=h.cells.len;rw [nvV_len] at this;omega
theorem Rd.cell (h:Rd w v xs) {k j:Nat} (hk:k<xs.length) (hj:j<6):w.cell? (slAddr v (k*6+j))=(ndV xs[k])[j]? :=by
 have h1:k*6+j<(nvV xs).length:=by rw [nvV_len];omega
 rw [h.cells.cell _ h1,←List.getElem?_eq_getElem h1,nvV_get hk hj]
theorem Rd.row (h:Rd w v xs) {k:Nat} (hk:k<xs.length):Eng.rowAt w (slAddr v (k*6)) 0 6=some (ndV xs[k]):=by
 have:=rowAt_of (w:=w) (a:=slAddr v (k*6)) (l:=ndV xs[k]) (i:=0) fun j hj=>by
  have hj6:j<6:=hj
  rw [slAddr_add,Nat.zero_add,h.cell hk hj6,List.getElem?_eq_getElem hj]
 exact this
end
structure DOk (d:D):Prop where
 kind:d.kind<256
 name:d.name.length<4294967281
 vr:d.vr.length<4294967281
 typ:d.typ.length<4294967281
theorem fn34:fnT Tryz.prog 34=true:=by kernel_rfl
theorem fn238:fnT Tryz.prog 238=true:=by kernel_rfl
theorem FnV_fn (F:FuncId) (c:Array Value):FnV F c= .nilFunc∨∃F' a b,FnV F c= .func F' a b:= .inr ⟨_,_,_,rfl⟩
theorem p_text {w:World} (hG:L01.G w) {v:Value} {o:Option (Bs→Bool)} (s:Bs) (hs:s.length<4294967281) (h:OptF (StrF w) v o):Calls Tryz.prog 225 #[.string (mkS s),v] w fun e w'=>e= .returned (.bool (txt s o))∧Ext w w':=by
 have e0:(⟨#[]⟩:ByteArray)=mkS []:=rfl
 refine ir225_calls fun ρ r0 r1=> ?_
 simp -implicitDefEqProofs [ir225,r0,r1]
 cases o with
 |none=>
  cases h
  refine eff_eqlNilF fn34 (v:= .nilFunc) (by simp) (.inl rfl) ?_
  simp -implicitDefEqProofs [isNilF,r0,e0,mkS_inj,txt]
  exact ext_refl _
 |some f=>
  obtain ⟨F,caps,rfl,hcb,hc⟩:=StrF.fn h hG
  refine eff_eqlNilF fn34 (v:=FnV F caps) (by simp) (FnV_fn _ _) ?_
  simp -implicitDefEqProofs [isNilF,FnV,ir225_k0,r0,r1]
  refine eff_callv hcb (t:=9) (fs:= #[]) (caps:=caps) (by simp) ?_
  simp -implicitDefEqProofs
  refine (hc s hs).mono ?_
  rintro _ w1 ⟨rfl,hE⟩
  simp -implicitDefEqProofs [txt]
  exact hE
theorem rows_more:∀(k:Nat) (r:Row),rowOf k=some r→r.more=none→r.most≤r.first.length:=by
 intro k r h hm
 unfold rowOf rowsT at h
 rcases k with _|_|_|_|_|_|_|_|_|_|_|_|_|_|_|_|_|_|_|_|_|_|_|_|_|_|_|_|_|_|_|_|_|_|_|_|_|_|k<;>
  simp [Option.join] at h<;>subst h<;>first|(simp [fixed];done)|(simp at hm;done)|(simp;done)
end Go.L02
namespace Go.L02
open Go Go.Eng Go.RowKit
open Go.Proofs hiding encI
open Go.L01 (Bs Tok encT SlT Own.same retK_c1 isName)
set_option maxRecDepth 100000
set_option maxHeartbeats 2000000
theorem un175:Tryz.prog.underlying 175=some (.array 38 174):=by kernel_rfl
theorem un174:Tryz.prog.underlying 174=some (.pointer 241):=by kernel_rfl
theorem in174:∃inf,Tryz.prog.info? 174=some inf∧inf.size=1:=by
 have:(match Tryz.prog.info? 174 with|some inf=>inf.size==1|none=>false)=true:=by kernel_rfl
 cases h:Tryz.prog.info? 174 with
 |none=>rw [h] at this;cases this
 |some inf=>rw [h] at this;exact ⟨inf,rfl,by simpa using this⟩
theorem rowOf_big {k:Nat} (h:38≤k):rowOf k=none:=by
 unfold rowOf
 have:rowsT[k]? =none:=List.getElem?_eq_none (by show rowsT.length≤k;exact h)
 rw [this];rfl
theorem isSl_le {v:Value} (h:isSl v=true):slLen v≤slCap v:=by
 rcases isSl_cases h with ⟨b,o,n,c,rfl,hc⟩|rfl|⟨b,o,s,rfl⟩
 ·exact hc
 ·exact Nat.le_refl _
 ·exact Nat.le_refl _
theorem cells_drop {w:World} {v:Value} {xs:List Value} (h:Cells w v 1 xs) (l:Nat) (hl:l≤xs.length):Cells w (slSub v 1 l (slLen v) (slCap v)) 1 (xs.drop l):=by
 have hlen:=h.len
 have hle:=isSl_le h.is
 refine ⟨isSl_sub h.is 1 l _ _ (by omega) hle (Nat.le_refl _),by rw [slLen_sub _ _ _ _ h.is];simp;omega,fun j hj=> ?_⟩
 have hj':l+j<xs.length:=by simp at hj;omega
 rw [slAddr_sub 1 l _ _ j h.is (by omega) (by omega),Nat.mul_one,h.cell (l+j) hj']
 simp
theorem rows_most:∀(k:Nat) (r:Row),rowOf k=some r→r.most≤400:=by
 intro k r h
 unfold rowOf rowsT at h
 rcases k with _|_|_|_|_|_|_|_|_|_|_|_|_|_|_|_|_|_|_|_|_|_|_|_|_|_|_|_|_|_|_|_|_|_|_|_|_|_|k<;>
  simp [Option.join] at h<;>subst h<;>first|(simp [fixed];done)|(simp;done)
def RB (w:World) (b:Bool) (e:Ending) (w':World):Prop:=e= .returned (.bool b)∧Ext w w'
structure RtS (w W:World) (lv:Value) (xs:List NV) (x:NV) (X Rw:Nat) (nm vr ty nu fi mo:Value) (r:Row):Prop where
 ext:Ext w W
 rd:Rd W lv xs
 bX:Blk W X (ndV x).toArray 44
 bR:Blk W Rw (rowV nm vr ty nu fi mo r) 241
 rc:RowC W nm vr ty nu fi mo r
 kv:Cells W x.kv 1 (x.nd.kids.map encI)
 g:L01.G W
 m:MaxL W
structure RtK (ρ:Env) (lv:Value) (X Rw:Nat):Prop where
 r0:ρ 0=lv
 r4:ρ 4= .pointer (some ⟨X,0,none⟩)
 r7:ρ 7= .pointer (some ⟨Rw,0,none⟩)
structure RtH (xs:List NV) (x:NV) (r:Row):Prop where
 d:DOk x.nd.d
 ds:∀y∈xs,DOk y.nd.d
 len:xs.length≤400
 hin:∀k∈x.nd.kids,0≤k∧k<xs.length
 row:rowOf x.nd.d.kind=some r
section
variable {w W W':World} {lv:Value} {xs:List NV} {x:NV} {X Rw:Nat} {nm vr ty nu fi mo:Value} {r:Row} {ρ:Env}
theorem RtS.to (h:RtS w W lv xs x X Rw nm vr ty nu fi mo r) (hE:Ext W W'):RtS w W' lv xs x X Rw nm vr ty nu fi mo r:=
 ⟨h.ext.trans' hE,h.rd.ext hE,h.bX.ext hE,h.bR.ext hE,h.rc.at' (SameAt.ext hE),h.kv.ext hE,h.g.ext hE,h.m.ext hE⟩
theorem RtS.cX (h:RtS w W lv xs x X Rw nm vr ty nu fi mo r):W.cell? ⟨X,0,none⟩=some (.int .u8 (x.nd.d.kind:Int))∧W.cell? ⟨X,1,none⟩=some (.string (mkS x.nd.d.name))∧W.cell? ⟨X,2,none⟩=some (.string (mkS x.nd.d.vr))∧W.cell? ⟨X,3,none⟩=some (.string (mkS x.nd.d.typ))∧W.cell? ⟨X,4,none⟩=some (.int .i64 x.nd.d.n)∧W.cell? ⟨X,5,none⟩=some x.kv:=
 ⟨by rw [h.bX.cell];rfl,by rw [h.bX.cell];rfl,by rw [h.bX.cell];rfl,by rw [h.bX.cell];rfl,by rw [h.bX.cell];rfl,by rw [h.bX.cell];rfl⟩
theorem RtS.cR (h:RtS w W lv xs x X Rw nm vr ty nu fi mo r):W.cell? ⟨Rw,0,none⟩=some nm∧W.cell? ⟨Rw,1,none⟩=some vr∧W.cell? ⟨Rw,2,none⟩=some ty∧W.cell? ⟨Rw,3,none⟩=some nu∧W.cell? ⟨Rw,4,none⟩=some fi∧W.cell? ⟨Rw,5,none⟩=some mo∧W.cell? ⟨Rw,6,none⟩=some (.int .i64 (r.least:Int))∧W.cell? ⟨Rw,7,none⟩=some (.int .i64 (r.most:Int)):=
 ⟨by rw [h.bR.cell];rfl,by rw [h.bR.cell];rfl,by rw [h.bR.cell];rfl,by rw [h.bR.cell];rfl,by rw [h.bR.cell];rfl,by rw [h.bR.cell];rfl,by rw [h.bR.cell];rfl,by rw [h.bR.cell];rfl⟩
theorem RtS.row (h:RtS w W lv xs x X Rw nm vr ty nu fi mo r):Eng.rowAt W ⟨X,0,none⟩ 0 6=some (ndV x):=by
 have:=row_blk h.bX
 simpa [ndV] using this
theorem RtS.kl (h:RtS w W lv xs x X Rw nm vr ty nu fi mo r):slLen x.kv=x.nd.kids.length:=by have:=h.kv.len;simpa using this.symm
theorem kidN_get {k:Int} (h:0≤k∧k<xs.length):kidN (xs.map (·.nd)) k=(xs[k.toNat]'(by omega)).nd.d.name:=by
 unfold kidN
 rw [List.getElem?_map,List.getElem?_eq_getElem (by omega)];rfl
theorem kidK_get {k:Int} (h:0≤k∧k<xs.length):kidK (xs.map (·.nd)) k=(xs[k.toNat]'(by omega)).nd.d.kind:=by
 unfold kidK
 rw [List.getElem?_map,List.getElem?_eq_getElem (by omega)];rfl
theorem rt_special (hh:RtH xs x r) (h:RtS w W lv xs x X Rw nm vr ty nu fi mo r) (hρ:RtK ρ lv X Rw) (h32:x.nd.d.kind=32→1≤x.nd.kids.length) (hkl:x.nd.kids.length≤400):
  ir147_k8.wp ⟨Tryz.prog,178,ir147_V,[]⟩ (retK [.tmp 6] (RB w (special (xs.map (·.nd)) x.nd))) (ksOf [.tmp 6] (RB w (special (xs.map (·.nd)) x.nd))) ρ W:=by
 obtain ⟨c0,c1,c2,c3,c4,c5⟩:=h.cX
 have e0:(⟨#[]⟩:ByteArray)=mkS []:=rfl
 have en:(⟨#[110,111,116]⟩:ByteArray)=mkS [110,111,116]:=rfl
 have hl:=h.kl
 simp -implicitDefEqProofs [ir147_k8,hρ.r4,c0]
 by_cases k5:x.nd.d.kind=5
 ·have es:special (xs.map (·.nd)) x.nd=called x.nd.d:=by unfold special;rw [if_pos k5]
  rw [es]
  simp -implicitDefEqProofs [k5,hρ.r4,h.row]
  refine (p_called (x:=x) h.g h.m h.kv.is hh.d.name hh.d.vr hh.d.typ).mono ?_
  rintro _ w2 ⟨rfl,hE⟩
  simp -implicitDefEqProofs [RB]
  exact h.ext.trans' hE
 ·by_cases k6:x.nd.d.kind=6
  ·have es:special (xs.map (·.nd)) x.nd=(decide (x.nd.d.name=[110,111,116])==decide (x.nd.kids.length=1)):=by unfold special;rw [if_neg k5,if_pos k6]
   rw [es]
   simp -implicitDefEqProofs [k6,hρ.r4,c1,c5,h.kv.is,hl,en,mkS_inj,RB]
   refine ⟨?_,h.ext⟩
   congr 1
   rw [Bool.eq_iff_iff];simp;omega
  ·by_cases k32:x.nd.d.kind=32
   ·have es:special (xs.map (·.nd)) x.nd=whenOk (xs.map (·.nd)) x.nd.kids.length 0 (x.nd.kids.drop 1):=by unfold special;rw [if_neg k5,if_neg k6,if_pos k32]
    have h1:=h32 k32
    rw [es]
    have hs1:=isSl_sub h.kv.is 1 1 (slLen x.kv) (slCap x.kv) (by rw [hl];exact h1) (isSl_le h.kv.is) (Nat.le_refl _)
    have hkc:=cells_drop h.kv 1 (by simpa using h1)
    generalize hb:whenOk (xs.map (·.nd)) x.nd.kids.length 0 (x.nd.kids.drop 1)=b
    have h1':(1:Int)≤(x.nd.kids.length:Int):=by omega
    rw [hl] at hs1 hkc
    simp -implicitDefEqProofs [k32,hρ.r4,c5,h.kv.is,hl,h1',hs1]
    generalize hkv:slSub x.kv 1 1 x.nd.kids.length (slCap x.kv)=kv at hs1 hkc
    obtain ⟨I,hI⟩:∃I:Nat→Env→World→Prop,∀j ρ' w',I j ρ' w'↔(RtK ρ' lv X Rw∧ρ' 150=kv∧ρ' 151= .int .i64 ((x.nd.kids.length - 1:Nat):Int)∧RtS w w' lv xs x X Rw nm vr ty nu fi mo r∧whenOk (xs.map (·.nd)) x.nd.kids.length j ((x.nd.kids.drop 1).drop j)=b):=⟨_,fun _ _ _=>Iff.rfl⟩
    refine loopC 152 (x.nd.kids.length - 1) I (by simp) ((hI _ _ _).2 ⟨⟨by simp [hρ.r0],by simp [hρ.r4],by simp [hρ.r7]⟩,by simp,by simp,h,hb⟩) ?_
    clear hρ hb h c0 c1 c2 c3 c4 c5 hkc
    rintro j ρ' w' hj rj hIw
    obtain ⟨hρ,r150,r151,h,hb⟩:=(hI _ _ _).1 hIw
    obtain ⟨c0,c1,c2,c3,c4,c5⟩:=h.cX
    have hkc:=cells_drop h.kv 1 (by simpa using h1)
    rw [hl,hkv] at hkc
    have hkl1:slLen kv=x.nd.kids.length - 1:=by have:=hkc.len;simpa using this.symm
    by_cases hlt:j<x.nd.kids.length - 1
    ·have hjl:j<(x.nd.kids.drop 1).length:=by simpa using hlt
     have hj1:j+1<x.nd.kids.length:=by omega
     have hcell:=hkc.cell j (by simpa using hlt)
     have hget:(List.drop 1 (List.map encI x.nd.kids))[j]'(by simpa using hlt)=encI (x.nd.kids[j+1]):=by simp
     rw [hget] at hcell
     have hin:=hh.hin x.nd.kids[j+1] (List.getElem_mem _)
     have hdr:(x.nd.kids.drop 1).drop j=x.nd.kids[j+1]::(x.nd.kids.drop 1).drop (j+1):=by
      rw [List.drop_eq_getElem_cons hjl];simp [List.drop_drop]
     rw [hdr] at hb
     have hb':((isName (kidN (xs.map (·.nd)) x.nd.kids[j+1])|| !(!decide (kidN (xs.map (·.nd)) x.nd.kids[j+1]=[])||decide (j+2<x.nd.kids.length)))&&whenOk (xs.map (·.nd)) x.nd.kids.length (j+1) ((x.nd.kids.drop 1).drop (j+1)))=b:=hb
     rw [kidN_get hin] at hb'
     generalize hk:x.nd.kids[j+1]=k at hcell hin hb'
     have hkn:k.toNat<xs.length:=by omega
     have hkz:((k.toNat:Nat):Int)=k:=by omega
     have cn:w'.cell? (slAddr lv (k.toNat*6+1))=some (.string (mkS (xs[k.toNat]).nd.d.name)):=by rw [h.rd.cell hkn (by omega)];rfl
     have hlt':(j:Int)<((x.nd.kids.length - 1:Nat):Int):=by omega
     simp -implicitDefEqProofs [ir147_l6,rj,r151,hlt',ir147_k5,r150,hs1,hkl1,hlt,hcell,encI,hρ.r0,h.rd.cells.is,h.rd.len,hin.1,hin.2,cn]
     refine (L01.t_isName h.g _).mono ?_
     rintro _ w2 ⟨rfl,hE⟩
     have h2:=h.to hE
     obtain ⟨_,_,_,_,_,c5'⟩:=h2.cX
     have cont:∀ρ2:Env,ρ2 0=lv→ρ2 4= .pointer (some ⟨X,0,none⟩)→ρ2 7= .pointer (some ⟨Rw,0,none⟩)→ρ2 150=kv→ρ2 151= .int .i64 ((x.nd.kids.length - 1:Nat):Int)→whenOk (xs.map (·.nd)) x.nd.kids.length (j+1) ((x.nd.kids.drop 1).drop (j+1))=b→I (j+1) ρ2 w2:=
      fun ρ2 a0 a4 a7 a150 a151 hb2=>(hI _ _ _).2 ⟨⟨a0,a4,a7⟩,a150,a151,h2,hb2⟩
     have hw:IntKind.i64.wrap ((x.nd.kids.length:Int) - 2)=(x.nd.kids.length:Int) - 2:=i64w (by omega)
     have hwj:IntKind.i64.wrap ((j:Int)+1)=(j:Int)+1:=i64w (by omega)
     generalize (xs[k.toNat]'hkn).nd.d.name=nm at hb' cn
     cases hn:isName nm with
     |true=>
      rw [hn] at hb'
      simp -implicitDefEqProofs [ir147_k4,rj,hwj]
      exact cont _ (by simp [hρ.r0]) (by simp [hρ.r4]) (by simp [hρ.r7]) (by simp [r150]) (by simp [r151]) (by simpa using hb')
     |false=>
      rw [hn] at hb'
      by_cases hnm:nm=[]
      ·subst hnm
       by_cases hj2:j+2<x.nd.kids.length
       ·have hj2':(j:Int)<(x.nd.kids.length:Int) - 2:=by omega
        simp -implicitDefEqProofs [e0,hρ.r4,c5',h.kv.is,hl,hw,hj2',RB]
        refine ⟨?_,h2.ext⟩
        rw [←hb'];simp [hj2]
       ·have hj2':¬(j:Int)<(x.nd.kids.length:Int) - 2:=by omega
        simp -implicitDefEqProofs [e0,hρ.r4,c5',h.kv.is,hl,hw,hj2',ir147_k4,rj,hwj]
        exact cont _ (by simp [hρ.r0]) (by simp [hρ.r4]) (by simp [hρ.r7]) (by simp [r150]) (by simp [r151]) (by simpa [hj2] using hb')
      ·simp -implicitDefEqProofs [e0,mkS_inj,hnm,RB]
       refine ⟨?_,h2.ext⟩
       rw [←hb'];simp [hnm]
    ·have hlt':¬(j:Int)<((x.nd.kids.length - 1:Nat):Int):=by omega
     have hd0:(x.nd.kids.drop 1).drop j=[]:=by rw [List.drop_eq_nil_iff];simp;omega
     rw [hd0] at hb
     simp -implicitDefEqProofs [ir147_l6,rj,r151,hlt',hlt,ir147_k7,RB]
     exact ⟨hb.symm,h.ext⟩
   ·have es:special (xs.map (·.nd)) x.nd=true:=by unfold special;rw [if_neg k5,if_neg k6,if_neg k32]
    rw [es]
    have k5':¬(x.nd.d.kind:Int)=5:=by omega
    have k6':¬(x.nd.d.kind:Int)=6:=by omega
    have k32':¬(x.nd.d.kind:Int)=32:=by omega
    simp -implicitDefEqProofs [k5',k6',k32',ir147_k7,RB]
    exact h.ext
theorem kidsF_get {w:World} {v:Value} {l:List (Nat→Bool)} (h:KidsF w v l) {i:Nat} (hi:i<l.length):isSl v=true∧slLen v=l.length∧∃u,w.cell? (slAddr v i)=some u∧KndF w u l[i]:=by
 rcases h with ⟨_,rfl⟩|⟨B,cs,rfl,h2,h3⟩
 ·simp at hi
 ·have hl:=h3.len
  refine ⟨by simp [isSl],rfl,cs[i]'(by omega), ?_,h3.get i (by omega) hi⟩
  simp only [slAddr,Nat.zero_add]
  rw [h2.cell]
  simp [hl,hi]
theorem kidsF_len {w:World} {v:Value} {l:List (Nat→Bool)} (h:KidsF w v l):isSl v=true∧slLen v=l.length:=by
 rcases h with ⟨rfl,rfl⟩|⟨B,cs,rfl,h2,h3⟩
 ·exact ⟨rfl,rfl⟩
 ·exact ⟨by simp [isSl],rfl⟩
theorem rt_kids (hh:RtH xs x r) (h:RtS w W lv xs x X Rw nm vr ty nu fi mo r) (hρ:RtK ρ lv X Rw) (h1:r.least≤x.nd.kids.length) (h2:x.nd.kids.length≤r.most):
  ir147_k9.wp ⟨Tryz.prog,178,ir147_V,[]⟩ (retK [.tmp 6] (RB w (kidsOk (xs.map (·.nd)) r 0 x.nd.kids&&special (xs.map (·.nd)) x.nd))) (ksOf [.tmp 6] (RB w (kidsOk (xs.map (·.nd)) r 0 x.nd.kids&&special (xs.map (·.nd)) x.nd))) ρ W:=by
 obtain ⟨c0,c1,c2,c3,c4,c5⟩:=h.cX
 have hl:=h.kl
 have hmost:r.most≤400:=rows_most _ _ hh.row
 have h32:x.nd.d.kind=32→1≤x.nd.kids.length:=fun e=>by
  have:=hh.row
  rw [e] at this
  have hr:r.least=2:=by
   have h3:rowOf 32=some {first:=[isK1 20],more:=some (isK1 33),least:=2,most:=400}:=rfl
   rw [h3] at this;cases this;rfl
  omega
 generalize hb:(kidsOk (xs.map (·.nd)) r 0 x.nd.kids&&special (xs.map (·.nd)) x.nd)=b
 simp -implicitDefEqProofs [ir147_k9,hρ.r4,c5,h.kv.is,hl]
 obtain ⟨I,hI⟩:∃I:Nat→Env→World→Prop,∀j ρ' w',I j ρ' w'↔(RtK ρ' lv X Rw∧ρ' 97=x.kv∧ρ' 98= .int .i64 (x.nd.kids.length:Int)∧RtS w w' lv xs x X Rw nm vr ty nu fi mo r∧(kidsOk (xs.map (·.nd)) r j (x.nd.kids.drop j)&&special (xs.map (·.nd)) x.nd)=b):=⟨_,fun _ _ _=>Iff.rfl⟩
 refine loopC 99 x.nd.kids.length I (by simp) ((hI _ _ _).2 ⟨⟨by simp [hρ.r0],by simp [hρ.r4],by simp [hρ.r7]⟩,by simp,by simp,h,hb⟩) ?_
 clear hρ hb h c0 c1 c2 c3 c4 c5
 rintro j ρ' w' hj rj hIw
 obtain ⟨hρ,r97,r98,h,hb⟩:=(hI _ _ _).1 hIw
 obtain ⟨d0,d1,d2,d3,d4,d5,d6,d7⟩:=h.cR
 have hwj:IntKind.i64.wrap ((j:Int)+1)=(j:Int)+1:=i64w (by omega)
 by_cases hlt:j<x.nd.kids.length
 ·have hcell:=h.kv.cell j (by simpa using hlt)
  have hget:(List.map encI x.nd.kids)[j]'(by simpa using hlt)=encI (x.nd.kids[j]):=by simp
  rw [hget] at hcell
  have hin:=hh.hin x.nd.kids[j] (List.getElem_mem _)
  rw [List.drop_eq_getElem_cons hlt] at hb
  have hb':(((match r.first[j]? with|some f=>f (kidK (xs.map (·.nd)) x.nd.kids[j])|none=>(match r.more with|some f=>f (kidK (xs.map (·.nd)) x.nd.kids[j])|none=>false))&&kidsOk (xs.map (·.nd)) r (j+1) (x.nd.kids.drop (j+1)))&&special (xs.map (·.nd)) x.nd)=b:=hb
  rw [kidK_get hin] at hb'
  generalize hk:x.nd.kids[j]=k at hcell hin hb'
  have hkn:k.toNat<xs.length:=by omega
  have hkz:((k.toNat:Nat):Int)=k:=by omega
  have hrow:=h.rd.row hkn
  obtain ⟨hfi,hfl⟩:=kidsF_len h.rc.first
  have hlt':(j:Int)<(x.nd.kids.length:Int):=by omega
  have go:∀(ρ2:Env) (u:Value) (f:Nat→Bool),RtK ρ2 lv X Rw→ρ2 97=x.kv→ρ2 98= .int .i64 (x.nd.kids.length:Int)→ρ2 99= .int .i64 (j:Int)→ρ2 10= .int .i64 k→ρ2 11=u→KndF w' u f→((f (xs[k.toNat]'hkn).nd.d.kind&&kidsOk (xs.map (·.nd)) r (j+1) (x.nd.kids.drop (j+1)))&&special (xs.map (·.nd)) x.nd)=b→
    ir147_k0.wp ⟨Tryz.prog,178,ir147_V,[]⟩ (ir147_k1.wp ⟨Tryz.prog,178,ir147_V,[]⟩ (fun ρ'' w''=>ρ'' 99= .int .i64 ((j:Int)+1)∧I (j+1) ρ'' w'') (((ksOf [.tmp 6] (RB w b)).blk 0 (ir147_k8.wp ⟨Tryz.prog,178,ir147_V,[]⟩ (retK [.tmp 6] (RB w b)) (ksOf [.tmp 6] (RB w b)))))) ((((ksOf [.tmp 6] (RB w b)).blk 0 (ir147_k8.wp ⟨Tryz.prog,178,ir147_V,[]⟩ (retK [.tmp 6] (RB w b)) (ksOf [.tmp 6] (RB w b))))).blk 1 (ir147_k1.wp ⟨Tryz.prog,178,ir147_V,[]⟩ (fun ρ'' w''=>ρ'' 99= .int .i64 ((j:Int)+1)∧I (j+1) ρ'' w'') (((ksOf [.tmp 6] (RB w b)).blk 0 (ir147_k8.wp ⟨Tryz.prog,178,ir147_V,[]⟩ (retK [.tmp 6] (RB w b)) (ksOf [.tmp 6] (RB w b))))))) ρ2 w':=by
   intro ρ2 u f hρ2 a97 a98 a99 a10 a11 hu hb2
   obtain ⟨F,caps,rfl,hcb,hc⟩:=hu.fn
   simp -implicitDefEqProofs [ir147_k0,a11,FnV,hρ2.r0,a10,h.rd.cells.is,h.rd.len,hin.1,hin.2,hrow]
   refine eff_callv hcb (t:=122) (fs:= #[]) (caps:=caps) (by simp) ?_
   simp -implicitDefEqProofs
   refine (hc w' (ext_refl _) xs[k.toNat] (h.rd.kids _ (List.getElem_mem _)).is (hh.ds _ (List.getElem_mem _)).kind).mono ?_
   rintro _ w2 ⟨rfl,hE⟩
   have h2:=h.to hE
   cases hf:f (xs[k.toNat]'hkn).nd.d.kind with
   |false=>
    rw [hf] at hb2
    simp -implicitDefEqProofs [RB]
    exact ⟨by rw [←hb2];rfl,h2.ext⟩
   |true=>
    rw [hf] at hb2
    simp -implicitDefEqProofs [ir147_k1,a99,hwj,hlt]
    exact (hI _ _ _).2 ⟨⟨by simp [hρ2.r0],by simp [hρ2.r4],by simp [hρ2.r7]⟩,by simp [a97],by simp [a98],h2,by simpa using hb2⟩
  by_cases hjf:j<r.first.length
  ·have hjf':(j:Int)<(r.first.length:Int):=by omega
   obtain ⟨_,_,u,hu,hku⟩:=kidsF_get h.rc.first hjf
   have e1:r.first[j]? =some r.first[j]:=List.getElem?_eq_getElem hjf
   rw [e1] at hb'
   simp -implicitDefEqProofs [ir147_l3,rj,r98,r97,hlt',hlt,ir147_k2,h.kv.is,hl,hcell,encI,hρ.r7,d4,d5,hfi,hfl,hjf',hjf,hu]
   exact go _ u _ ⟨by simp [hρ.r0],by simp [hρ.r4],by simp [hρ.r7]⟩ (by simp [r97]) (by simp [r98]) (by simp [rj]) (by simp) (by simp) hku hb'
  ·have hjf':¬(j:Int)<(r.first.length:Int):=by omega
   have e1:r.first[j]? =none:=List.getElem?_eq_none (by omega)
   rw [e1] at hb'
   cases hm:r.more with
   |none=>
    have:=rows_more _ _ hh.row hm
    omega
   |some f=>
    rw [hm] at hb'
    have hmo:=h.rc.more
    rw [hm] at hmo
    simp -implicitDefEqProofs [ir147_l3,rj,r98,r97,hlt',hlt,ir147_k2,h.kv.is,hl,hcell,encI,hρ.r7,d4,d5,hfi,hfl,hjf',hjf]
    exact go _ mo f ⟨by simp [hρ.r0],by simp [hρ.r4],by simp [hρ.r7]⟩ (by simp [r97]) (by simp [r98]) (by simp [rj]) (by simp) (by simp) hmo hb'
 ·have hlt':¬(j:Int)<(x.nd.kids.length:Int):=by omega
  have hd0:x.nd.kids.drop j=[]:=List.drop_eq_nil_iff.2 (by omega)
  rw [hd0] at hb
  have hb2:special (xs.map (·.nd)) x.nd=b:=by simpa [kidsOk] using hb
  simp -implicitDefEqProofs [ir147_l3,rj,r98,hlt',hlt]
  rw [←hb2]
  exact rt_special hh h ⟨by simp [hρ.r0],by simp [hρ.r4],by simp [hρ.r7]⟩ h32 (by omega)
theorem rt_head {num:Bool} (hh:RtH xs x r) (h:RtS w W lv xs x X Rw nm vr ty nu fi mo r) (hρ:RtK ρ lv X Rw) (r8:ρ 8= .bool num) {b:Bool}
  (hb:(txt x.nd.d.name r.name&&txt x.nd.d.vr r.vr&&txt x.nd.d.typ r.typ&&num&&(decide (r.least≤x.nd.kids.length)&&decide (x.nd.kids.length≤r.most))&&kidsOk (xs.map (·.nd)) r 0 x.nd.kids&&special (xs.map (·.nd)) x.nd)=b):
  ir147_k11.wp ⟨Tryz.prog,178,ir147_V,[]⟩ (retK [.tmp 6] (RB w b)) (ksOf [.tmp 6] (RB w b)) ρ W:=by
 obtain ⟨c0,c1,c2,c3,c4,c5⟩:=h.cX
 obtain ⟨d0,d1,d2,d3,d4,d5,d6,d7⟩:=h.cR
 have hl:=h.kl
 have fin:∀(ρ2:Env) (W2:World),Ext W W2→ρ2 95= .bool true→b=false→ir147_k10.wp ⟨Tryz.prog,178,ir147_V,[]⟩ (retK [.tmp 6] (RB w b)) (ksOf [.tmp 6] (RB w b)) ρ2 W2:=by
  intro ρ2 W2 hE e1 e2
  subst e2
  simp -implicitDefEqProofs [ir147_k10,e1,RB]
  exact h.ext.trans' hE
 simp -implicitDefEqProofs [-qwps,qwps_eff,qwps_asg,qwps_nil,ir147_k11,hρ.r4,hρ.r7,c1,d0]
 refine qE_call (.bool (txt x.nd.d.name r.name)) cbV225 (fun w' hw'=> ?_) ?_
 ·simp
  refine (p_text (h.to hw').g _ hh.d.name (h.to hw').rc.name).mono ?_
  rintro _ w2 ⟨rfl,hE⟩
  exact ⟨rfl,hw'.trans' hE⟩
 cases h1:txt x.nd.d.name r.name with
 |false=>
  rw [h1] at hb
  simp -implicitDefEqProofs [-qwps,qwps_eff,qwps_asg,qwps_nil]
  intro W2 hE2
  exact fin _ W2 hE2 (by simp) (by rw [←hb];rfl)
 |true=>
 simp -implicitDefEqProofs [-qwps,qwps_eff,qwps_asg,qwps_nil,hρ.r4,hρ.r7,c2,d1]
 refine qE_call (.bool (txt x.nd.d.vr r.vr)) cbV225 (fun w' hw'=> ?_) ?_
 ·simp
  refine (p_text (h.to hw').g _ hh.d.vr (h.to hw').rc.vr).mono ?_
  rintro _ w2 ⟨rfl,hE⟩
  exact ⟨rfl,hw'.trans' hE⟩
 cases h2:txt x.nd.d.vr r.vr with
 |false=>
  rw [h1,h2] at hb
  simp -implicitDefEqProofs [-qwps,qwps_eff,qwps_asg,qwps_nil]
  intro W2 hE2
  exact fin _ W2 hE2 (by simp) (by rw [←hb];rfl)
 |true=>
 simp -implicitDefEqProofs [-qwps,qwps_eff,qwps_asg,qwps_nil,hρ.r4,hρ.r7,c3,d2]
 refine qE_call (.bool (txt x.nd.d.typ r.typ)) cbV225 (fun w' hw'=> ?_) ?_
 ·simp
  refine (p_text (h.to hw').g _ hh.d.typ (h.to hw').rc.typ).mono ?_
  rintro _ w2 ⟨rfl,hE⟩
  exact ⟨rfl,hw'.trans' hE⟩
 cases h3:txt x.nd.d.typ r.typ with
 |false=>
  rw [h1,h2,h3] at hb
  simp -implicitDefEqProofs [-qwps,qwps_eff,qwps_asg,qwps_nil]
  intro W2 hE2
  exact fin _ W2 hE2 (by simp) (by rw [←hb];rfl)
 |true=>
 cases num with
 |false=>
  rw [h1,h2,h3] at hb
  simp -implicitDefEqProofs [-qwps,qwps_eff,qwps_asg,qwps_nil,r8]
  intro W2 hE2
  exact fin _ W2 hE2 (by simp) (by rw [←hb];rfl)
 |true=>
 simp -implicitDefEqProofs [-qwps,qwps_eff,qwps_asg,qwps_nil,r8,hρ.r4,hρ.r7,c5,h.kv.is,hl,d6,d7]
 refine qE_call (.bool (decide (r.least≤x.nd.kids.length)&&decide (x.nd.kids.length≤r.most))) cbV127 (fun w' hw'=> ?_) ?_
 ·simp
  refine (p_in w' _ _ _).mono ?_
  rintro _ _ ⟨rfl,rfl⟩
  refine ⟨?_,hw'⟩
  simp
 cases h4:(decide (r.least≤x.nd.kids.length)&&decide (x.nd.kids.length≤r.most)) with
 |false=>
  rw [h1,h2,h3,h4] at hb
  simp -implicitDefEqProofs [-qwps,qwps_eff,qwps_asg,qwps_nil]
  intro W2 hE2
  exact fin _ W2 hE2 (by simp) (by rw [←hb];rfl)
 |true=>
  rw [h1,h2,h3,h4] at hb
  simp only [Bool.and_eq_true,decide_eq_true_eq] at h4
  simp -implicitDefEqProofs [-qwps,qwps_eff,qwps_asg,qwps_nil]
  intro W2 hE2
  have hb':(kidsOk (xs.map (·.nd)) r 0 x.nd.kids&&special (xs.map (·.nd)) x.nd)=b:=hb
  simp -implicitDefEqProofs [ir147_k10]
  rw [←hb']
  exact rt_kids hh (h.to hE2) ⟨by simp [hρ.r0],by simp [hρ.r4],by simp [hρ.r7]⟩ h4.1 h4.2
theorem rt_num (hh:RtH xs x r) (h:RtS w W lv xs x X Rw nm vr ty nu fi mo r) (hρ:RtK ρ lv X Rw):
  ir147_k12.wp ⟨Tryz.prog,178,ir147_V,[]⟩ (retK [.tmp 6] (RB w (rightP (xs.map (·.nd)) x.nd))) (ksOf [.tmp 6] (RB w (rightP (xs.map (·.nd)) x.nd))) ρ W:=by
 obtain ⟨c0,c1,c2,c3,c4,c5⟩:=h.cX
 obtain ⟨d0,d1,d2,d3,d4,d5,d6,d7⟩:=h.cR
 generalize hb:rightP (xs.map (·.nd)) x.nd=b
 unfold rightP at hb
 rw [hh.row] at hb
 simp -implicitDefEqProofs [ir147_k12,hρ.r4,hρ.r7,c4,d3]
 cases hn:r.n with
 |none=>
  have hnu:=h.rc.n
  rw [hn] at hnu
  cases hnu
  refine eff_neqNilF fn238 (v:= .nilFunc) (by simp) (.inl rfl) ?_
  simp -implicitDefEqProofs [isNilF]
  refine rt_head (num:=decide (x.nd.d.n=0)) hh h ⟨by simp [hρ.r0],by simp [hρ.r4],by simp [hρ.r7]⟩ (by simp;rw [Bool.eq_iff_iff];simp) ?_
  simpa [hn] using hb
 |some f=>
  have hnu:=h.rc.n
  rw [hn] at hnu
  obtain ⟨F,caps,rfl,hcb,hc⟩:=NumF.fn hnu
  refine eff_neqNilF fn238 (v:=FnV F caps) (by simp) (FnV_fn _ _) ?_
  simp -implicitDefEqProofs [isNilF,FnV]
  refine raw_ord ir147_o6_ok (fun W'=>Blk W' X (ndV x).toArray 44∧Blk W' Rw (rowV nm vr ty (FnV F caps) fi mo r) 241) fun w3 hE3 _=>⟨⟨h.bX.ext hE3,h.bR.ext hE3⟩, ?_⟩
  have h3:=h.to hE3
  have cc:∀W',(Blk W' X (ndV x).toArray 44∧Blk W' Rw (rowV nm vr ty (FnV F caps) fi mo r) 241)→W'.cell? ⟨X,4,none⟩=some (.int .i64 x.nd.d.n)∧W'.cell? ⟨Rw,3,none⟩=some (FnV F caps):=fun W' hh=>⟨by rw [hh.1.cell];rfl,by rw [hh.2.cell];rfl⟩
  have hSS:Blk w3 X (ndV x).toArray 44∧Blk w3 Rw (rowV nm vr ty (FnV F caps) fi mo r) 241:=⟨h3.bX,h3.bR⟩
  simp+contextual -implicitDefEqProofs [ir147_o6,cc,hSS,hρ.r4,hρ.r7]
  refine eff_callv hcb (t:=45) (fs:= #[]) (caps:=caps) (by simp [FnV]) ?_
  simp -implicitDefEqProofs
  refine (hc w3 hE3 x.nd.d.n).mono ?_
  rintro _ w4 ⟨rfl,hE⟩
  simp -implicitDefEqProofs
  refine rt_head (num:=f x.nd.d.n) hh (h3.to hE) ⟨by simp [hρ.r0],by simp [hρ.r4],by simp [hρ.r7]⟩ (by simp) ?_
  simpa [hn] using hb
end
section
variable {w:World} {lv:Value} {xs:List NV} {x:NV} {A:Nat} {cs:List Value} {R:Ending→World→Prop}
theorem p_right (hG:L01.G w) (hM:MaxL w) (hR:Rd w lv xs) (hx:Cells w x.kv 1 (x.nd.kids.map encI)) (hd:DOk x.nd.d) (hds:∀y∈xs,DOk y.nd.d) (hlen:xs.length≤400) (hin:∀k∈x.nd.kids,0≤k∧k<xs.length) (hA:Blk w A cs.toArray 175) (hT:ArrC w cs):
  Calls Tryz.prog 147 #[lv,ndA x, .pointer (some ⟨A,0,none⟩)] w (RB w (rightP (xs.map (·.nd)) x.nd)):=by
 generalize hRR:RB w (rightP (xs.map (·.nd)) x.nd)=R
 have hkk:=hd.kind
 refine ir147_calls fun ρ r0 r1 r2=> ?_
 simp -implicitDefEqProofs [ir147]
 refine eff_box fun X w1 hX hE1 hb1 _=> ?_
 rw [show evE ρ (.tmp 1)=ndA x by simp [r1],ndA_cells hx.is] at hb1
 simp -implicitDefEqProofs
 refine raw_ord ir147_o1_ok (fun W=>Blk W X (ndV x).toArray 44) fun w2 hE2 _=>⟨hb1.ext hE2, ?_⟩
 have hb2:=hb1.ext hE2
 have hA2:=hA.ext (hE1.trans' hE2)
 have cX:∀W,Blk W X (ndV x).toArray 44→W.cell? ⟨X,0,none⟩=some (.int .u8 (x.nd.d.kind:Int)):=fun W h=>by rw [h.cell];rfl
 by_cases hk:38≤x.nd.d.kind
 ·have hk':(38:Int)≤(x.nd.d.kind:Int):=by omega
  simp+contextual -implicitDefEqProofs [ir147_o1,cX,hb2,k8 hkk,hk',r2,ir147_k14]
  rw [←hRR]
  refine ⟨?_,hE1.trans' hE2⟩
  simp [rightP,rowOf_big hk]
 ·have hk':¬(38:Int)≤(x.nd.d.kind:Int):=by omega
  obtain ⟨inf,hi1,hi2⟩:=in174
  simp+contextual -implicitDefEqProofs [ir147_o1,cX,hb2,k8 hkk,hk',r2]
  refine eff_ixaA un175 hi1 hi2 (B:=A) (o:=0) (k:=x.nd.d.kind) (by simp) (by simp;rfl) (by omega) ?_
  have hcl:x.nd.d.kind<cs.length:=by rw [hT.1];omega
  have cA:∀W,Blk W A cs.toArray 175→W.cell? ⟨A,x.nd.d.kind,none⟩=some (cs.getD x.nd.d.kind undef):=fun W h=>by
   rw [h.cell,List.getD_eq_getElem?_getD,List.getElem?_eq_getElem hcl]
   simp [hcl]
  have hrow:=hT.2 x.nd.d.kind (by omega)
  simp -implicitDefEqProofs [cA w2 hA2]
  cases hr:rowOf x.nd.d.kind with
  |none=>
   rw [hr] at hrow
   have e:cs.getD x.nd.d.kind undef= .pointer none:=hrow
   refine eff_eqlNilP un174 (p:=none) (by simp;simpa using e) ?_
   simp -implicitDefEqProofs [ir147_k14]
   rw [←hRR]
   refine ⟨?_,hE1.trans' hE2⟩
   simp [rightP,hr]
  |some r=>
   rw [hr] at hrow
   obtain ⟨Rw,nm,vr,ty,nu,fi,mo,e,hbR,hRC⟩:=hrow
   refine eff_eqlNilP un174 (p:=some ⟨Rw,0,none⟩) (by simp;simpa using e) ?_
   simp -implicitDefEqProofs [ir147_k14,ir147_k13]
   refine raw_ord ir147_o3_ok (fun W=>Blk W X (ndV x).toArray 44) fun w3 hE3 _=>⟨hb2.ext hE3, ?_⟩
   have hb3:=hb2.ext hE3
   have hA3:=hA2.ext hE3
   simp+contextual -implicitDefEqProofs [ir147_o3,cX,hb3,k8 hkk,hk',r2]
   refine eff_ixaA un175 hi1 hi2 (B:=A) (o:=0) (k:=x.nd.d.kind) (by simp) (by simp;rfl) (by omega) ?_
   have cA3:=cA w3 hA3
   rw [e] at cA3
   have hbR3:=hbR.ext (((hE1.trans' hE2).trans' hE3))
   have hE03:=(hE1.trans' hE2).trans' hE3
   simp -implicitDefEqProofs [cA3]
   rw [←hRR]
   exact rt_num ⟨hd,hds,hlen,hin,hr⟩ ⟨hE03,hR.ext hE03,hb3,hbR3,hRC.at' (SameAt.ext hE03),hx.ext hE03,hG.ext hE03,hM.ext hE03⟩ ⟨by simp [r0],by simp,by simp⟩
end
end Go.L02
namespace Go.L02
open Go Go.Eng Go.RowKit
open Go.Proofs hiding encI
open Go.L01 (Bs Tok encT SlT Own.same retK_c1 isName)
set_option maxRecDepth 100000
set_option maxHeartbeats 2000000
@[simp] theorem cb50:callB Tryz.prog 50=true:=by kernel_rfl
@[simp] theorem cb26:callB Tryz.prog 26=true:=by kernel_rfl
theorem p_equalI {w:World} {a b:Value} {xs ys:List Int} (ha:Cells w a 1 (xs.map encI)) (hb:Cells w b 1 (ys.map encI)) (hbd:xs.length<4611686018427387904):Calls Tryz.prog 50 #[a,b] w fun e w'=>e= .returned (.bool (decide (xs=ys)))∧Ext w w':=by
 have hla:slLen a=xs.length:=by simpa using ha.len.symm
 have hlb:slLen b=ys.length:=by simpa using hb.len.symm
 refine ir50_calls fun ρ r0 r1=> ?_
 simp -implicitDefEqProofs [ir50,r0,r1,ha.is,hb.is,hla,hlb]
 by_cases hl:xs.length=ys.length
 ·simp -implicitDefEqProofs [hl,ir50_k5,r0,ha.is,hla]
  obtain ⟨I,hI⟩:∃I:Nat→Env→World→Prop,∀j ρ' w',I j ρ' w'↔(ρ' 0=a∧ρ' 1=b∧ρ' 12= .int .i64 (ys.length:Int)∧Ext w w'∧xs.take j=ys.take j):=⟨_,fun _ _ _=>Iff.rfl⟩
  refine loopC 13 ys.length I (by simp) ((hI _ _ _).2 ⟨by simp [r0],by simp [r1],by simp,ext_refl _,by simp⟩) ?_
  rintro j ρ' w' hj rj hIw
  obtain ⟨r0,r1,r12,hE,heq⟩:=(hI _ _ _).1 hIw
  have hwj:IntKind.i64.wrap ((j:Int)+1)=(j:Int)+1:=i64w (by omega)
  by_cases hlt:j<ys.length
  ·have ca:=(ha.ext hE).cell j (by simpa [hl] using hlt)
   have cb:=(hb.ext hE).cell j (by simpa using hlt)
   simp only [List.getElem_map,encI] at ca cb
   simp -implicitDefEqProofs [ir50_l3,rj,r12,hlt,ir50_k2,r0,r1,ha.is,hla,hb.is,hlb,hl,ca,cb]
   intro w2 hE2
   by_cases he:xs[j]=ys[j]
   ·simp -implicitDefEqProofs [ir50_k0,ir50_k1,he,rj,hwj]
    refine (hI _ _ _).2 ⟨by simp [r0],by simp [r1],by simp [r12],hE.trans' hE2, ?_⟩
    rw [List.take_succ_eq_append_getElem (by omega),List.take_succ_eq_append_getElem (by omega),heq,he]
   ·simp -implicitDefEqProofs [ir50_k0,he]
    exact ⟨fun e=>he (by simp [e]),hE.trans' hE2⟩
  ·simp -implicitDefEqProofs [ir50_l3,rj,r12,hlt,ir50_k4]
   refine ⟨?_,hE⟩
   rw [List.take_of_length_le (by omega),List.take_of_length_le (by omega)] at heq
   exact heq
 ·simp -implicitDefEqProofs [hl]
  exact ⟨fun e=>hl (by rw [e]),ext_refl _⟩
theorem own_take {base e:Nat} {w:World} {v:Value} {xs:List Value} (h:Own base e 1 w v xs) (l:Nat) (hl:l≤xs.length):Own base e 1 w (slSub v 1 0 l l) (xs.take l):=by
 rcases h with ⟨rfl,rfl⟩|⟨g,off,n,cap,cur,rfl,hb,hg,hlen,hc,hm,hs,ht⟩
 ·have:l=0:=by simpa using hl
  subst this
  exact .inl ⟨by simp [slSub],rfl⟩
 ·have hn:n=xs.length:=by omega
  have es:slSub (.slice (some ⟨g,off,none⟩) n cap) 1 0 l l= .slice (some ⟨g,off,none⟩) l l:=by
   simp [slSub]
  rw [es]
  refine .inr ⟨g,off,l,l,cur,rfl,hb,hg,by simp;omega,Nat.le_refl _,by omega,by omega, ?_⟩
  rw [←ht,List.take_take]
  congr 1
  omega
def oneB:Option (List Int)→Bool|some o=>decide (o.length=1)|none=>false
theorem z44':zeroCellsOf Tryz.prog 44=some #[.int .u8 0, .string ⟨#[]⟩, .string ⟨#[]⟩, .string ⟨#[]⟩, .int .i64 0, .slice none 0 0]:=by kernel_rfl
theorem p_postorder {w:World} {lv:Value} {xs:List NV} (hR:Rd w lv xs) (hlen:xs.length≤1000000) (hkl:∀x∈xs,x.nd.kids.length≤1000000):Calls Tryz.prog 98 #[lv] w fun e w'=>e= .returned (.bool (postorder (xs.map (·.nd))))∧Ext w w':=by
 have hl:=hR.len
 have his:=hR.cells.is
 generalize hb:stackF (xs.map (·.nd)) 0 []=b
 have hp:postorder (xs.map (·.nd))=oneB b:=by unfold postorder;rw [hb];cases b<;>rfl
 rw [hp]
 clear hp
 refine ir98_calls fun ρ r0=> ?_
 simp -implicitDefEqProofs [ir98,r0,his,hl]
 generalize hRR:(fun (e:Ending) (w':World)=>e= .returned (.bool (oneB b))∧Ext w w')=R
 obtain ⟨I,hI⟩:∃I:Nat→Env→World→Prop,∀j ρ' w',I j ρ' w'↔(ρ' 7=lv∧ρ' 8= .int .i64 (xs.length:Int)∧∃os:List Int,Own w.heap.size 3 1 w' (ρ' 3) (os.map encI)∧os.length≤j∧Ext w w'∧stackF ((xs.drop j).map (·.nd)) j os=b):=⟨_,fun _ _ _=>Iff.rfl⟩
 refine loopC 9 xs.length I (by simp) ((hI _ _ _).2 ⟨by simp,by simp,[],by simpa using Own.nil _ _ _ _,Nat.le_refl _,ext_refl _,hb⟩) ?_
 clear hb r0
 rintro j ρ' w' hj rj hIw
 obtain ⟨r7,r8,os,hos,hol,hE,hb⟩:=(hI _ _ _).1 hIw
 have hR':=hR.ext hE
 generalize hv3:ρ' 3=v3 at hos
 have hoi:=hos.isl
 have hoc:=L01.own_cells hos
 have hoL:slLen v3=os.length:=by simpa using hoc.len.symm
 have hwj:IntKind.i64.wrap ((j:Int)+1)=(j:Int)+1:=i64w (by omega)
 by_cases hlt:j<xs.length
 ·rw [List.drop_eq_getElem_cons hlt] at hb
  have hrow:=hR'.row hlt
  have hk:=hR'.kids xs[j] (List.getElem_mem _)
  have hkL:slLen xs[j].kv=xs[j].nd.kids.length:=by simpa using hk.len.symm
  have hklj:=hkl xs[j] (List.getElem_mem _)
  have hkc:=isSl_cells hk.is
  have hko:=isSl_one hk.is
  generalize xs[j]=x at hrow hk hkL hklj hkc hko hb
  have hb':(if x.nd.kids.length≤os.length∧os.drop (os.length - x.nd.kids.length)=x.nd.kids then stackF ((xs.drop (j+1)).map (·.nd)) (j+1) (os.take (os.length - x.nd.kids.length)++[(j:Int)]) else none)=b:=hb
  have hlt':(j:Int)<(xs.length:Int):=by omega
  simp -implicitDefEqProofs [ir98_l4,rj,r8,hlt',hlt,ir98_k3,r7,hR'.cells.is,hl,hrow]
  refine eff_alloc z44' fun X w1 hX hE1 hb1 _=> ?_
  simp -implicitDefEqProofs
  refine eff_storeN (B:=X) (by simp) hb1 (by simp [Value.cells,ndV,hkc]) (by simp [Value.cells,ndV,hkc,hko]) (by simpa [Value.cells,ndV,hkc] using sz44) fun w2 hO2 hb2=> ?_
  simp -implicitDefEqProofs [Value.cells,ndV,hkc] at hb2
  have hE2:Ext w' w2:=hO2.ext hE1 hX
  have c5:w2.cell? ⟨X,5,none⟩=some x.kv:=by rw [hb2.cell];rfl
  have hw:IntKind.i64.wrap ((os.length:Int) - (x.nd.kids.length:Int))=(os.length:Int) - (x.nd.kids.length:Int):=i64w (by omega)
  simp -implicitDefEqProofs [-qwps,qwps_eff,qwps_asg,qwps_nil,hv3,hoi,hoL,c5,hk.is,hkL,hw]
  by_cases hle:x.nd.kids.length≤os.length
  ·have hn:¬((os.length:Int) - (x.nd.kids.length:Int)<0):=by omega
   have hn0:(0:Int)≤(os.length:Int) - (x.nd.kids.length:Int):=by omega
   have hn1:(os.length:Int) - (x.nd.kids.length:Int)≤(os.length:Int):=by omega
   have hnn:((os.length:Int) - (x.nd.kids.length:Int)).toNat=os.length - x.nd.kids.length:=by omega
   simp -implicitDefEqProofs [-qwps,qwps_eff,qwps_asg,qwps_nil,hle,hn,hv3,hoi,hoL,hn0,hn1,hnn,c5]
   refine qE_call (.bool (decide (os.drop (os.length - x.nd.kids.length)=x.nd.kids))) cb50 (fun w3 hw3=> ?_) ?_
   ·simp
    have hd:=cells_drop (hoc.ext (hE2.trans' hw3)) (os.length - x.nd.kids.length) (by simp)
    rw [hoL,←List.map_drop] at hd
    refine (p_equalI hd (hk.ext (hE2.trans' hw3)) (by simp;omega)).mono ?_
    rintro _ w4 ⟨rfl,hE4⟩
    exact ⟨rfl,hw3.trans' hE4⟩
   by_cases he:os.drop (os.length - x.nd.kids.length)=x.nd.kids
   ·rw [if_pos ⟨hle,he⟩] at hb'
    simp -implicitDefEqProofs [-qwps,qwps_eff,qwps_asg,qwps_nil,he]
    intro w3 hE3
    have hE03:=(hE.trans' hE2).trans' hE3
    have ho3:=own_take ((hos.ext hE2).ext hE3) (os.length - x.nd.kids.length) (by simp)
    have hcap:=isSl_le hoi
    rw [hoL] at hcap
    have hn2:(os.length:Int) - (x.nd.kids.length:Int)≤(slCap v3:Int):=by omega
    simp -implicitDefEqProofs [ir98_k1,ir98_k0,hv3,hoi,hle,hn0,hnn,hn2]
    refine eff_lit sl40 (by decide) (by decide) (by simp [Value.cells]) fun Z w4 hZ hE4 hb4 _=> ?_
    simp -implicitDefEqProofs [Value.cells] at hb4⊢
    refine eff_append ri40 (W0:=w) (hE03.trans' hE4) (sv:=slSub v3 1 0 (os.length - x.nd.kids.length) (os.length - x.nd.kids.length)) (xv:= .slice (some ⟨Z,0,none⟩) 1 1) (by simp) (by simp) (ho3.ext hE4) (Blk.cells (cs:=[encI (j:Int)]) (by simpa [encI] using hb4) rfl) (by simp [encI,Value.oneCell']) (by simp;omega) (by simp;omega) fun v' w5 hE5 ho5 _ _=> ?_
    simp -implicitDefEqProofs [ir98_k2,rj,hwj,hlt]
    exact (hI _ _ _).2 ⟨by simp [r7],by simp [r8],os.take (os.length - x.nd.kids.length)++[(j:Int)],by simpa [List.map_take] using ho5,by simp;omega,hE5,hb'⟩
   ·rw [if_neg (fun h=>he h.2)] at hb'
    subst hb'
    simp -implicitDefEqProofs [-qwps,qwps_eff,qwps_asg,qwps_nil,he]
    intro w3 hE3
    simp -implicitDefEqProofs [ir98_k1]
    rw [←hRR]
    exact ⟨rfl,(hE.trans' hE2).trans' hE3⟩
  ·rw [if_neg (fun h=>hle h.1)] at hb'
   subst hb'
   have hn:((os.length:Int) - (x.nd.kids.length:Int)<0):=by omega
   simp -implicitDefEqProofs [-qwps,qwps_eff,qwps_asg,qwps_nil,hn,hle]
   intro w3 hE3
   simp -implicitDefEqProofs [ir98_k1]
   rw [←hRR]
   exact ⟨rfl,(hE.trans' hE2).trans' hE3⟩
 ·have hd0:xs.drop j=[]:=List.drop_eq_nil_iff.2 (by omega)
  rw [hd0] at hb
  have hb':some os=b:=hb
  subst hb'
  have hlt':¬(j:Int)<(xs.length:Int):=by omega
  simp -implicitDefEqProofs [ir98_l4,rj,r8,hlt',hlt,ir98_k5,hv3,hoi,hoL]
  rw [←hRR]
  refine ⟨?_,hE⟩
  simp only [oneB]
  congr 2
  rw [Bool.eq_iff_iff];simp;omega
theorem p_indexN {w:World} {lv:Value} {xs:List NV} (hR:Rd w lv xs) (hlen:xs.length≤1000000) {F:FuncId} {caps:Array Value} (hcb:callB Tryz.prog F=true) {p:NV→Bool} (hc:∀W,Ext w W→∀x∈xs,Calls Tryz.prog F (#[ndA x]++caps) W fun e w'=>e= .returned (.bool (p x))∧Ext W w'):
  Calls Tryz.prog 224 #[lv,FnV F caps] w fun e w'=>∃n:Int,e= .returned (.int .i64 n)∧decide (0≤n)=xs.any p∧Ext w w':=by
 have hl:=hR.len
 refine ir224_calls fun ρ r0 r1=> ?_
 simp -implicitDefEqProofs [ir224,r0,hR.cells.is,hl]
 generalize hRR:(fun (e:Ending) (w':World)=>∃n:Int,e= .returned (.int .i64 n)∧decide (0≤n)=xs.any p∧Ext w w')=R
 obtain ⟨I,hI⟩:∃I:Nat→Env→World→Prop,∀j ρ' w',I j ρ' w'↔(ρ' 0=lv∧ρ' 1=FnV F caps∧ρ' 7= .int .i64 (xs.length:Int)∧Ext w w'∧(xs.take j).any p=false):=⟨_,fun _ _ _=>Iff.rfl⟩
 refine loopC 8 xs.length I (by simp) ((hI _ _ _).2 ⟨by simp [r0],by simp [r1],by simp,ext_refl _,by simp⟩) ?_
 clear r0 r1
 rintro j ρ' w' hj rj hIw
 obtain ⟨r0,r1,r7,hE,hany⟩:=(hI _ _ _).1 hIw
 have hwj:IntKind.i64.wrap ((j:Int)+1)=(j:Int)+1:=i64w (by omega)
 have hR':=hR.ext hE
 by_cases hlt:j<xs.length
 ·have hlt':(j:Int)<(xs.length:Int):=by omega
  have hrow:=hR'.row hlt
  simp -implicitDefEqProofs [ir224_l2,rj,r7,hlt',hlt,ir224_k1,r0,r1,hR'.cells.is,hl,hrow]
  refine eff_callv hcb (t:=11) (fs:= #[]) (caps:=caps) (by simp [FnV]) ?_
  simp -implicitDefEqProofs
  refine (hc w' hE xs[j] (List.getElem_mem _)).mono ?_
  rintro _ w2 ⟨rfl,hE2⟩
  cases hp:p xs[j] with
  |true=>
   simp -implicitDefEqProofs
   rw [←hRR]
   refine ⟨j,rfl, ?_,hE.trans' hE2⟩
   rw [List.any_eq_true.2 ⟨xs[j],List.getElem_mem _,hp⟩]
   simp
  |false=>
   simp -implicitDefEqProofs [ir224_k0,rj,hwj,hlt]
   refine (hI _ _ _).2 ⟨by simp [r0],by simp [r1],by simp [r7],hE.trans' hE2, ?_⟩
   rw [List.take_succ_eq_append_getElem hlt,List.any_append,hany]
   simp [hp]
 ·have hlt':¬(j:Int)<(xs.length:Int):=by omega
  rw [List.take_of_length_le (by omega)] at hany
  simp -implicitDefEqProofs [ir224_l2,rj,r7,hlt',hlt,ir224_k3]
  rw [←hRR]
  exact ⟨-1,rfl,by rw [hany];rfl,hE⟩
theorem p_containsN {w:World} {lv:Value} {xs:List NV} (hR:Rd w lv xs) (hlen:xs.length≤1000000) {F:FuncId} {caps:Array Value} (hcb:callB Tryz.prog F=true) {p:NV→Bool} (hc:∀W,Ext w W→∀x∈xs,Calls Tryz.prog F (#[ndA x]++caps) W fun e w'=>e= .returned (.bool (p x))∧Ext W w'):
  Calls Tryz.prog 145 #[lv,FnV F caps] w fun e w'=>e= .returned (.bool (xs.any p))∧Ext w w':=by
 refine ir145_calls fun ρ r0 r1=> ?_
 simp -implicitDefEqProofs [ir145,r0,r1]
 refine (p_indexN hR hlen hcb hc).mono ?_
 rintro _ w2 ⟨n,rfl,hn,hE⟩
 simp -implicitDefEqProofs
 exact ⟨hn,hE⟩
theorem post_kids:∀(l:List Nd) (i:Nat) (o:List Int),(∀k∈o,0≤k∧k<i)→stackF l i o≠none→∀x∈l,∀k∈x.kids,0≤k∧k<i+l.length
 |[],_,_,_,_,x,hx,_,_=>by cases hx
 |y::l,i,o,ho,h,x,hx,k,hk=>by
  rw [stackF_cons] at h
  split at h
  ·rename_i hc
   rcases List.mem_cons.1 hx with rfl|hx
   ·rw [←hc.2] at hk
    have:=ho k (List.mem_of_mem_drop hk)
    simp;omega
   ·have:=post_kids l (i+1) _ (fun k hk=>by
     rcases List.mem_append.1 hk with hk|hk
     ·have:=ho k (List.mem_of_mem_take hk);omega
     ·rw [List.mem_singleton.1 hk];omega) h x hx k hk
    simp;omega
  ·exact absurd rfl h
theorem postorder_kids {l:List Nd} (h:postorder l=true):∀x∈l,∀k∈x.kids,0≤k∧k<(l.length:Int):=by
 intro x hx k hk
 have h1:stackF l 0 []≠none:=fun e=>by unfold postorder at h;rw [e] at h;cases h
 have:=post_kids l 0 [] (by simp) h1 x hx k hk
 omega
theorem p_right1 {w:World} {lv:Value} {xs:List NV} {x:NV} {A Lb:Nat} {cs:List Value} (hG:L01.G w) (hM:MaxL w) (hR:Rd w lv xs) (hLb:Blk w Lb #[lv] 29) (hx:x∈xs) (hds:∀y∈xs,DOk y.nd.d) (hlen:xs.length≤400) (hp:postorder (xs.map (·.nd))=true) (hA:Blk w A cs.toArray 175) (hT:ArrC w cs):
  Calls Tryz.prog 146 #[ndA x, .pointer (some ⟨Lb,0,none⟩), .pointer (some ⟨A,0,none⟩)] w fun e w'=>e= .returned (.bool (!rightP (xs.map (·.nd)) x.nd))∧Ext w w':=by
 have hxk:=hR.kids x hx
 refine ir146_calls fun ρ r0 r1 r2=> ?_
 simp -implicitDefEqProofs [ir146]
 refine eff_box fun X w1 hX hE1 hb1 _=> ?_
 rw [show evE ρ (.tmp 0)=ndA x by simp [r0],ndA_cells hxk.is] at hb1
 have cL:w1.cell? ⟨Lb,0,none⟩=some lv:=by rw [(hLb.ext hE1).cell];rfl
 have hrow:Eng.rowAt w1 ⟨X,0,none⟩ 0 6=some (ndV x):=by
  have:=row_blk hb1
  simpa [ndV] using this
 simp -implicitDefEqProofs [r1,r2,cL,hrow]
 refine (p_right (hG.ext hE1) (hM.ext hE1) (hR.ext hE1) (hxk.ext hE1) (hds x hx) hds hlen (fun k hk=> ?_) (hA.ext hE1) (hT.at' (SameAt.ext hE1))).mono ?_
 ·have:=postorder_kids hp x.nd (List.mem_map.2 ⟨x,hx,rfl⟩) k hk
  simpa using this
 rintro _ w2 ⟨rfl,hE2⟩
 simp -implicitDefEqProofs
 exact hE1.trans' hE2
theorem ArrC.cells {w:World} {cs:List Value} (hcs:ArrC w cs):∀c∈cs,c.cells= #[c]∧c.oneCell=true:=fun c hc=>by
 obtain ⟨k,hk,rfl⟩:=List.mem_iff_getElem.1 hc
 have h1:=hcs.2 k (by rw [←hcs.1];exact hk)
 rw [List.getD_eq_getElem?_getD,List.getElem?_eq_getElem hk] at h1
 simp only [Option.getD_some] at h1
 generalize cs[k]=c at h1
 cases hr:rowOf k with
 |none=>rw [hr] at h1;cases h1;exact ⟨rfl,rfl⟩
 |some r=>
  rw [hr] at h1
  obtain ⟨X,_,_,_,_,_,_,rfl,_⟩:=h1
  exact ⟨rfl,rfl⟩
theorem p_whole {w:World} {lv rv:Value} {xs:List NV} {root:Nat→Bool} (hG:L01.G w) (hM:MaxL w) (hR:Rd w lv xs) (hds:∀y∈xs,DOk y.nd.d) (hkl:∀x∈xs,x.nd.kids.length≤1000000) (hr:KndF w rv root):
  Calls Tryz.prog 64 #[lv,rv] w fun e w'=>e= .returned (.bool (whole (xs.map (·.nd)) root))∧Ext w w':=by
 have hl:=hR.len
 have his:=hR.cells.is
 obtain ⟨F,caps,hrv,hcb,hc⟩:=hr.fn
 refine ir64_calls fun ρ r0 r1=> ?_
 simp -implicitDefEqProofs [ir64]
 refine eff_box fun B w1 hB hE1 hb1 _=> ?_
 have hb1':Blk w1 B #[lv] 29:=by simpa [r0,isSl_cells his] using hb1
 have cB:∀W,Ext w1 W→W.cell? ⟨B,0,none⟩=some lv:=fun W hE=>by rw [(hb1'.ext hE).cell];rfl
 simp -implicitDefEqProofs [cB w1 (ext_refl _),his,hl]
 refine (p_in w1 _ 1 400).mono ?_
 rintro _ w1' ⟨rfl,hw1⟩
 obtain rfl:=hw1.symm
 generalize hb:whole (xs.map (·.nd)) root=b
 unfold whole at hb
 rw [List.length_map] at hb
 have hin:((decide (1≤(xs.length:Int))&&decide ((xs.length:Int)≤400)):Bool)=(decide (1≤xs.length)&&decide (xs.length≤400)):=by
  congr 1<;>exact decide_eq_decide.2 (by omega)
 cases hc1:(decide (1≤xs.length)&&decide (xs.length≤400)) with
 |false=>
  rw [hc1] at hb hin
  subst hb
  simp -implicitDefEqProofs [hin]
  exact hE1
 |true=>
 rw [hc1] at hin
 have h400:=hc1
 simp only [Bool.and_eq_true,decide_eq_true_eq] at h400
 rw [h400.1|>decide_eq_true,h400.2|>decide_eq_true] at hb
 simp -implicitDefEqProofs [hin,cB w1 (ext_refl _)]
 refine (p_postorder (hR.ext hE1) (by omega) hkl).mono ?_
 rintro _ w2 ⟨rfl,hE2⟩
 have hE02:=hE1.trans' hE2
 cases hp:postorder (xs.map (·.nd)) with
 |false=>
  rw [hp] at hb
  have hb':b=false:=by rw [←hb];rfl
  subst hb'
  simp -implicitDefEqProofs
  exact hE02
 |true=>
 rw [hp] at hb
 have hrow:=(hR.ext hE02).row (k:=xs.length - 1) (by omega)
 have hwl:IntKind.i64.wrap ((xs.length:Int) - 1)=((xs.length - 1:Nat):Int):=by rw [i64w (by omega)];omega
 have hltl:((xs.length - 1:Nat):Int)<(xs.length:Int):=by omega
 have hltn:xs.length - 1<xs.length:=by omega
 simp -implicitDefEqProofs [r1,hrv,cB w2 hE2,his,hl,hwl,hltl,hltn,hrow]
 refine eff_callv hcb (t:=16) (fs:= #[]) (caps:=caps) (by simp [FnV]) ?_
 simp -implicitDefEqProofs
 have hmem:=List.getElem_mem hltn
 refine (hc w2 hE02 xs[xs.length - 1] (hR.kids _ hmem).is (hds _ hmem).kind).mono ?_
 rintro _ w3 ⟨rfl,hE3⟩
 have hE03:=hE02.trans' hE3
 have hrk:rootK (xs.map (·.nd))=(xs[xs.length - 1]'hltn).nd.d.kind:=by
  unfold rootK
  rw [List.getLast?_eq_getElem?,List.length_map,List.getElem?_map,List.getElem?_eq_getElem hltn]
  rfl
 cases hro:root (xs[xs.length - 1]'hltn).nd.d.kind with
 |false=>
  rw [hrk,hro] at hb
  have hb':b=false:=by rw [←hb];rfl
  subst hb'
  simp -implicitDefEqProofs
  exact hE03
 |true=>
 rw [hrk,hro] at hb
 simp -implicitDefEqProofs [ir64_k0]
 refine (p_rows (hG.ext hE03)).mono ?_
 rintro _ w4 ⟨cs,rfl,hT,hE4⟩
 simp -implicitDefEqProofs
 refine eff_alloc z175 fun A w5 hA hE5 hbA _=> ?_
 simp -implicitDefEqProofs
 have hone:=hT.cells
 have hcc:=agg_cells fun c hc=>(hone c hc).1
 refine eff_storeN (B:=A) (by simp) hbA (by simp [hcc,hT.1]) ?_ (by simp [hcc,hT.1];kernel_rfl) fun w6 hO6 hb6=> ?_
 ·simp only [evE,updO,upd]
  simpa [hcc] using fun c hc=>(hone c hc).2
 have hb6':Blk w6 A cs.toArray 175:=by simpa [hcc] using hb6
 have hE6:Ext w4 w6:=hO6.ext hE5 hA
 have hE06:=(hE03.trans' hE4).trans' hE6
 have cB6:=cB w6 (((hE2.trans' hE3).trans' hE4).trans' hE6)
 have hB6:=hb1'.ext (((hE2.trans' hE3).trans' hE4).trans' hE6)
 simp -implicitDefEqProofs [cB6]
 refine (p_containsN (p:=fun y=> !rightP (xs.map (·.nd)) y.nd) (F:=146) (caps:= #[.pointer (some ⟨B,0,none⟩), .pointer (some ⟨A,0,none⟩)]) (hR.ext hE06) (by omega) (by kernel_rfl) fun W hW y hy=> ?_).mono ?_
 ·simpa using p_right1 (hG.ext (hE06.trans' hW)) (hM.ext (hE06.trans' hW)) (hR.ext (hE06.trans' hW)) (hB6.ext hW) hy hds h400.2 hp (hb6'.ext hW) (hT.at' (SameAt.ext (hE6.trans' hW)))
 rintro _ w7 ⟨rfl,hE7⟩
 simp -implicitDefEqProofs
 refine ⟨?_,hE06.trans' hE7⟩
 rw [←hb]
 simp [List.all_map,Function.comp_def]
 rw [List.any_eq_not_all_not]
 simp
theorem p_CheckNodes {w:World} {lv:Value} {xs:List NV} (hG:L01.G w) (hM:MaxL w) (hR:Rd w lv xs) (hds:∀y∈xs,DOk y.nd.d) (hkl:∀x∈xs,x.nd.kids.length≤1000000):
  Calls Tryz.prog 26 #[lv] w fun e w'=>e= .returned (.int .i64 (if checkNodes (xs.map (·.nd)) then 0 else 21))∧Ext w w':=by
 refine ir26_calls fun ρ r0=> ?_
 simp -implicitDefEqProofs [ir26,r0]
 refine (p_whole hG hM hR hds hkl (kf_block (w:=w))).mono ?_
 rintro _ w2 ⟨rfl,hE⟩
 unfold checkNodes
 cases whole (xs.map (·.nd)) (isK1 20) with
 |false=>
  simp -implicitDefEqProofs
  exact hE
 |true=>
  simp -implicitDefEqProofs [ir26_k0]
  exact hE
end Go.L02
namespace Go.L02
open Go.Eng
open Go.L01 (Bs Tok)
def Sh (s:Bs):Prop:=s.length≤1000000
structure DS (d:D):Prop where
 kind:d.kind≤37
 name:Sh d.name
 vr:Sh d.vr
 typ:Sh d.typ
inductive TOk:T→Prop
 |mk {d:D} {ks:List T}:DS d→(∀t∈ks,TOk t)→TOk (T.mk d ks)
section
variable {L:List Tok} {α β:Type} {P:α→Prop} {Q:β→Prop}
end
section
variable {L:List Tok} (hL:Shrt L) (hn:L.length≤20000)
def TsOk (l:List T):Prop:=∀t∈l,TOk t
theorem tok {d:D} {ks:List T} (h:DS d) (hk:TsOk ks):TOk (T.mk d ks):= .mk h hk
theorem TOk.ks {t:T} (h:TOk t):TsOk t.kids:=by cases h with|mk h1 h2=>exact h2
theorem TOk.ds {t:T} (h:TOk t):DS t.d:=by cases h with|mk h1 h2=>exact h1
section
variable {e b s:M T} {p:M (T×Nat)}
end
end
end Go.L02
namespace Go.L02
open Go Go.Eng Go.RowKit
open Go.Proofs hiding encI
open Go.L01 (Bs Tok encT SlT toksV toksV_len toksV_get SlK retT Own.same ownMono retK_c1 retTT Bd ifc20 isStr leaves_fn)
set_option maxRecDepth 100000
set_option maxHeartbeats 2000000
def Src (L:List Tok) (n:Nat) (m:Mod):Prop:=∃i f j g,oneM L n i f= .ok m j g∧j≤L.length
structure PaS (L:List Tok) (n:Nat) (B P Lv Ln Ou:Nat) (w:World) (tv:Value) (i f:Nat) (nv lv rv:Value) (xs:List NV) (css:List (List Value)) (ls:List Int) (ms:List Mod) (w':World):Prop where
 st:PSt B B w' tv nv L i f xs
 ln:xs.length≤2*i+2
 sp:Sep lv xs
 bP:Blk w' P #[.pointer (some ⟨B,0,none⟩)] 83
 bL:Blk w' Lv #[tv] 48
 bN:Blk w' Ln #[lv] 40
 bO:Blk w' Ou #[rv] 23
 ol:Own w.heap.size 3 1 w' lv (ls.map encI)
 oo:Own w.heap.size 66 7 w' rv css.flatten
 all:All2 (ModC (Nds (fun k=>lv.ownBlock≠some k) w' nv xs) w') css ms
 sm:SameAt (fun k T=>tryP k T∧k<w.heap.size) w w'
 bl:Below B w w'
 src:∀m∈ms,Src L n m
section
variable {L:List Tok} {n B P Lv Ln Ou:Nat} {w w1 w2 w3:World} {tv nv lv lv' rv rv':Value} {i f:Nat} {xs:List NV} {css:List (List Value)} {ls:List Int} {ms:List Mod}
theorem PaS.ext (h:PaS L n B P Lv Ln Ou w tv i f nv lv rv xs css ls ms w1) (hE:Ext w1 w2):PaS L n B P Lv Ln Ou w tv i f nv lv rv xs css ls ms w2:=by
 have hs:SameAt (fun _ _=>True) w1 w2:=SameAt.ext hE
 refine ⟨h.st.ext hE,h.ln,h.sp,h.bP.ext hE,h.bL.ext hE,h.bN.ext hE,h.bO.ext hE,h.ol.ext hE,h.oo.ext hE, ?_,h.sm.trans (SameAt.ext hE),h.bl.trans (ext_below hE (Nat.le_of_lt h.st.blk.lt)),h.src⟩
 exact h.all.imp fun _ _ h=>h.at' hs (fun _=>trivial) (fun _=>trivial) (fun _=>trivial) (fun _=>trivial) fun _ _ h=>h.at' hs (fun _=>trivial) fun _ _=>trivial
theorem PaS.line (h:PaS L n B P Lv Ln Ou w tv i f nv lv rv xs css ls ms w1) {x:Int} (hg:w1.grownBy w2 lv.ownBlock) (ho:Own w.heap.size 3 1 w2 lv' ((ls++[x]).map encI)) (hr:lv'.ownBlock=lv.ownBlock∨lv'.ownBlock=some w1.heap.size) (hB:B≤Ln) (hw:B≤w.heap.size) (hO:Only Ln w2 w3) (hb:Blk w3 Ln #[lv'] 40):
  PaS L n B P Lv Ln Ou w tv i f nv lv' rv xs css (ls++[x]) ms w3:=by
 have smg:=SameAt.grown h.ol hg
 have bN2:=h.bN.at' smg (.inr (by decide))
 have smo:=SameAt.only hO bN2
 have hlt:=h.st.kidLt
 have hq:∀k,k<w1.heap.size→lv.ownBlock≠some k→(lv.ownBlock≠some k∧lv'.ownBlock≠some k):=fun k hk h1=>⟨h1,fun e=>by
  rcases hr with h2|h2
  ·exact h1 (h2▸e)
  ·rw [h2] at e;cases e;omega⟩
 refine ⟨(h.st.grown h.ol hg h.sp (by decide) (by decide) (by decide)).only (cs:= #[lv]) (T:=40) hO (fun _=>bN2.heap) (by decide) (by decide) (by decide) (by decide),h.ln,fun y hy k hk=>(hq k (hlt y hy k hk) (h.sp y hy k hk)).2,
  (h.bP.at' smg (.inr (by decide))).at' smo (.inr (by decide)),(h.bL.at' smg (.inr (by decide))).at' smo (.inr (by decide)),hb,(h.bO.at' smg (.inr (by decide))).at' smo (.inr (by decide)),
  ho.at' smo fun k _=> .inr (by decide),(h.oo.at' smg fun k _=> .inr (by decide)).at' smo fun k _=> .inr (by decide), ?_, ?_,(h.bl.trans (grown_below (v:=lv) hg (fun k hk=>Nat.le_trans hw (h.ol.blk k hk).1) (Nat.le_of_lt h.st.blk.lt))).trans (only_below hO hB),h.src⟩
 ·refine h.all.imp fun _ _ hm=> ?_
  have h1:ModC (Nds (fun k=>lv.ownBlock≠some k∧lv'.ownBlock≠some k) w2 nv xs) w2 _ _:=hm.at' smg (fun _=> .inr (by decide)) (fun _=> .inr (by decide)) (fun _=> .inr (by decide)) (fun _=> .inr (by decide)) fun v l hv=>
   (Nds.mono (q':=fun k=>lv.ownBlock≠some k∧lv'.ownBlock≠some k) hv hlt hq).at2 smg (fun k hk=> .inl hk.1) fun k _=> .inr (by decide)
  exact h1.at' smo (fun _=> .inr (by decide)) (fun _=> .inr (by decide)) (fun _=> .inr (by decide)) (fun _=> .inr (by decide)) fun v l hv=>
   (hv.mono (fun x hx k hk=>Nat.lt_of_lt_of_le (hlt x hx k hk) hg.size) fun k _ hk=>hk.2).at2 smo (fun k _=> .inr (by decide)) fun k _=> .inr (by decide)
 ·refine (h.sm.trans ((smg.mono fun k T hk=> ?_).trans (smo.mono fun k T hk=> ?_)))
  ·exact .inl fun e=>by have:=(h.ol.blk k e).1;have:=hk.2;omega
  ·rcases hk.1 with rfl|rfl|rfl<;>exact .inr (by decide)
end
end Go.L02
namespace Go.L02
open Go Go.Eng Go.RowKit
open Go.Proofs hiding encI
open Go.L01 (Bs Tok encT SlT toksV toksV_len toksV_get SlK retT Own.same ownMono retK_c1 retTT isStr leaves_fn scan fV ScanR)
set_option maxRecDepth 100000
set_option maxHeartbeats 2000000
def RdN (w:World) (v:Value) (l:List Nd):Prop:=∃xs:List NV,xs.map (·.nd)=l∧Rd w v xs
def NOk (l:List Nd):Prop:=(∀x∈l,DOk x.d)∧∀x∈l,x.kids.length≤1000000
theorem DS.ok {d:D} (h:DS d):DOk d:=by
 obtain ⟨h1,h2,h3,h4⟩:=h
 unfold Sh at h2 h3 h4
 exact ⟨by omega,by omega,by omega,by omega⟩
theorem NOk.ds {xs:List NV} {l:List Nd} (h:NOk l) (e:xs.map (·.nd)=l):∀y∈xs,DOk y.nd.d:=fun y hy=>h.1 y.nd (by rw [←e];exact List.mem_map.2 ⟨y,hy,rfl⟩)
theorem NOk.kl {xs:List NV} {l:List Nd} (h:NOk l) (e:xs.map (·.nd)=l):∀y∈xs,y.nd.kids.length≤1000000:=fun y hy=>h.2 y.nd (by rw [←e];exact List.mem_map.2 ⟨y,hy,rfl⟩)
theorem rd_own {w:World} {v:Value} {b b':Nat} {xs:List NV} (h:Own b 44 6 w v (nvV xs)) (hk:∀x∈xs,Own b' 3 1 w x.kv (x.nd.kids.map encI)):Rd w v xs:=⟨L01.own_cells h,fun x hx=>L01.own_cells (hk x hx)⟩
theorem CloR.more {B P:Nat} {tv:Value} {W w2:World} {ok:Bool} {g:Nat} {Ok:World→Prop} {e:Ending} {L:List Tok} {cs:Array Value} (hOk:∀w2,Ok w2→∃(i f:Nat) (nv:Value) (ys:List NV),PSt B B w2 tv nv L i f ys) (hP:Blk W P cs 83) (h:CloR B tv W ok g Ok e w2):
  CloR B tv W ok g (fun w2=>Ok w2∧Blk w2 P cs 83∧(ok=false→g≤L.length)) e w2:=by
 obtain ⟨h1,h2,h3⟩:=h
 have hP2:=hP.at' h1 (.inr (.inr rfl))
 refine ⟨h1,h2, ?_⟩
 rcases h3 with ⟨a,b,c⟩|⟨a,b,j,nv2,hB,hs,c⟩
 ·exact .inl ⟨a,b,c,hP2,fun e=>by rw [a] at e;cases e⟩
 ·refine .inr ⟨a,b,j,nv2,hB,hs,c,hP2,fun _=> ?_⟩
  obtain ⟨i,f,nv,ys,hS⟩:=hOk w2 c
  have e:=hS.blk.heap
  rw [hB.heap] at e
  simp only [Option.some.injEq,Obj.cells.injEq] at e
  have e3:=congrArg (fun a:Array Value=>a[2]?) e.1
  simp at e3
  have:=hS.fl
  omega
end Go.L02
namespace Go.Eng
end Go.Eng
namespace Go.L02
open Go Go.Eng Go.RowKit
open Go.Proofs hiding encI
open Go.L01 (Bs Tok encT SlT Own.same retK_c1 isName)
set_option maxRecDepth 100000
set_option maxHeartbeats 2000000
def RSl {α:Type} (sz:Nat) (C:List Value→α→Prop) (w:World) (v:Value) (l:List α):Prop:=∃css:List (List Value),Cells w v sz css.flatten∧All2 C css l
def RSig (w:World) (cs:List Value) (s:Sig):Prop:=∃av sv,cs=[.bool s.iter,av, .string (mkS s.result),sv]∧Cells w av 1 (s.args.map encT)∧Cells w sv 1 (s.signals.map encT)
def RNeed (w:World) (cs:List Value) (n:Need):Prop:=∃c,cs= .string (mkS n.op)::c∧RSig w c n.sig
def ROpn (w:World) (cs:List Value) (o:Opn):Prop:=∃c,cs= .string (mkS o.name)::c∧RSig w c o.sig
def RRout (w:World) (cs:List Value) (r:Rout):Prop:=∃c pv ndv,cs= .string (mkS r.name)::(c++[pv,ndv])∧RSig w c r.sig∧Cells w pv 1 (r.params.map encT)∧RdN w ndv r.nodes
def RMod (w:World) (cs:List Value) (m:Mod):Prop:=∃needv opv rv,cs=[.string (mkS m.face.name), .int .u8 (m.face.kind:Int), .bool m.face.param,needv,opv, .string (mkS m.rep),rv]∧RSl 5 (RNeed w) w needv m.face.needs∧RSl 5 (ROpn w) w opv m.face.ops∧RSl 7 (RRout w) w rv m.routs
section
variable {w w':World} {cs:List Value} {v:Value}
theorem RSig.ext {s:Sig} (h:RSig w cs s) (hE:Ext w w'):RSig w' cs s:=by
 obtain ⟨av,sv,e,h1,h2⟩:=h
 exact ⟨av,sv,e,h1.ext hE,h2.ext hE⟩
theorem RNeed.ext {s:Need} (h:RNeed w cs s) (hE:Ext w w'):RNeed w' cs s:=by
 obtain ⟨c,e,h1⟩:=h
 exact ⟨c,e,h1.ext hE⟩
theorem ROpn.ext {s:Opn} (h:ROpn w cs s) (hE:Ext w w'):ROpn w' cs s:=by
 obtain ⟨c,e,h1⟩:=h
 exact ⟨c,e,h1.ext hE⟩
theorem RdN.ext {l:List Nd} (h:RdN w v l) (hE:Ext w w'):RdN w' v l:=by
 obtain ⟨xs,e,h⟩:=h
 exact ⟨xs,e,h.ext hE⟩
theorem RRout.ext {s:Rout} (h:RRout w cs s) (hE:Ext w w'):RRout w' cs s:=by
 obtain ⟨c,pv,ndv,e,h1,h2,h3⟩:=h
 exact ⟨c,pv,ndv,e,h1.ext hE,h2.ext hE,h3.ext hE⟩
theorem RSl.ext {α:Type} {sz:Nat} {C C':List Value→α→Prop} {l:List α} (h:RSl sz C w v l) (hE:Ext w w') (hC:∀c a,C c a→C' c a):RSl sz C' w' v l:=by
 obtain ⟨css,h1,h2⟩:=h
 exact ⟨css,h1.ext hE,h2.imp hC⟩
theorem RMod.ext {m:Mod} (h:RMod w cs m) (hE:Ext w w'):RMod w' cs m:=by
 obtain ⟨a,b,c,e,h1,h2,h3⟩:=h
 exact ⟨a,b,c,e,h1.ext hE fun _ _ h=>h.ext hE,h2.ext hE fun _ _ h=>h.ext hE,h3.ext hE fun _ _ h=>h.ext hE⟩
end
theorem RSig.len {w:World} {cs:List Value} {s:Sig} (h:RSig w cs s):cs.length=4:=by obtain ⟨av,sv,rfl,_⟩:=h;rfl
theorem RSig.row {w:World} {cs:List Value} {s:Sig} (h:RSig w cs s):∀c∈cs,c.cells= #[c]∧c.oneCell=true:=by
 obtain ⟨av,sv,rfl,h1,h2⟩:=h
 intro c hc
 simp only [List.mem_cons,List.mem_nil_iff,or_false] at hc
 rcases hc with rfl|rfl|rfl|rfl
 ·exact ⟨rfl,rfl⟩
 ·exact ⟨isSl_cells h1.is,isSl_one h1.is⟩
 ·exact ⟨rfl,rfl⟩
 ·exact ⟨isSl_cells h2.is,isSl_one h2.is⟩
end Go.L02
namespace Go.L02
open Go Go.Eng Go.RowKit
open Go.Proofs hiding encI
open Go.L01 (Bs Tok encT SlT Own.same retK_c1 isName)
set_option maxRecDepth 100000
set_option maxHeartbeats 2000000
theorem flatten_get {α:Type} {sz:Nat}:∀{css:List (List α)},(∀c∈css,c.length=sz)→∀{k j:Nat} (hk:k<css.length),j<sz→css.flatten[k*sz+j]? =css[k][j]?
 |[],_,k,_,hk,_=>by simp at hk
 |c::css,h,k,j,hk,hj=>by
  have hc:=h c (by simp)
  rw [List.flatten_cons]
  cases k with
  |zero=>rw [List.getElem?_append_left (by omega)];simp
  |succ k=>
   have e:(k+1)*sz+j=c.length+(k*sz+j):=by rw [Nat.succ_mul];omega
   rw [e,List.getElem?_append_right (by omega),Nat.add_sub_cancel_left]
   simpa using flatten_get (css:=css) (fun d hd=>h d (by simp [hd])) (k:=k) (by simpa using hk) hj
section
variable {α:Type} {sz:Nat} {C:List Value→α→Prop} {w:World} {v:Value} {l:List α}
theorem RSl.is (h:RSl sz C w v l):isSl v=true:=by obtain ⟨css,h1,_⟩:=h;exact h1.is
theorem RSl.len (h:RSl sz C w v l) (hC:∀c a,C c a→c.length=sz) (h0:0<sz):slLen v=l.length:=by
 obtain ⟨css,h1,h2⟩:=h
 have h3:=flatten_len (n:=sz) (All2.left (P:=fun c=>c.length=sz) hC h2)
 have h4:=h1.len
 rw [h3,h2.len] at h4
 exact (Nat.eq_of_mul_eq_mul_right h0 h4).symm
theorem RSl.at (h:RSl sz C w v l) (hC:∀c a,C c a→c.length=sz) {k:Nat} (hk:k<l.length):∃c,C c l[k]∧c.length=sz∧Eng.rowAt w (slAddr v (k*sz)) 0 sz=some c∧∀j,j<sz→w.cell? (slAddr v (k*sz+j))=c[j]? :=by
 obtain ⟨css,h1,h2⟩:=h
 have hall:=All2.left (P:=fun c=>c.length=sz) hC h2
 have hlen:=h2.len
 have hk':k<css.length:=by omega
 have hcell:∀j,j<sz→w.cell? (slAddr v (k*sz+j))=css[k][j]? :=fun j hj=>by
  have hfl:=flatten_len (n:=sz) hall
  have hlt:k*sz+j<css.flatten.length:=by
   rw [hfl]
   have:(k+1)*sz≤css.length*sz:=Nat.mul_le_mul_right _ hk'
   rw [Nat.succ_mul] at this;omega
  rw [h1.cell _ hlt,←List.getElem?_eq_getElem hlt,flatten_get hall hk' hj]
 refine ⟨css[k],h2.get k hk' hk,hall _ (List.getElem_mem _), ?_,hcell⟩
 have hcl:=hall _ (List.getElem_mem hk')
 have:=rowAt_of (w:=w) (a:=slAddr v (k*sz)) (l:=css[k]) (i:=0) fun j hj=>by
  rw [slAddr_add,Nat.zero_add,hcell j (by omega),List.getElem?_eq_getElem hj]
 rw [hcl] at this
 exact this
end
theorem RNeed.len {w:World} {c:List Value} {n:Need} (h:RNeed w c n):c.length=5:=by obtain ⟨c,rfl,h⟩:=h;simp [h.len]
theorem ROpn.len {w:World} {c:List Value} {n:Opn} (h:ROpn w c n):c.length=5:=by obtain ⟨c,rfl,h⟩:=h;simp [h.len]
theorem RRout.len {w:World} {c:List Value} {n:Rout} (h:RRout w c n):c.length=7:=by obtain ⟨c,pv,ndv,rfl,h,_⟩:=h;simp [h.len]
structure FmS (w W:World) (m:Mod) (X F:Nat) (needv opv rv:Value):Prop where
 ext:Ext w W
 bX:Blk W X #[.string (mkS m.face.name), .int .u8 (m.face.kind:Int), .bool m.face.param,needv,opv, .string (mkS m.rep),rv] 66
 bF:Blk W F #[.string (mkS m.face.name), .int .u8 (m.face.kind:Int), .bool m.face.param,needv,opv] 63
 needs:RSl 5 (RNeed W) W needv m.face.needs
 ops:RSl 5 (ROpn W) W opv m.face.ops
 routs:RSl 7 (RRout W) W rv m.routs
 g:L01.G W
 m:MaxL W
section
variable {w W W':World} {m:Mod} {X F:Nat} {needv opv rv:Value} {ρ:Env} {b:Bool}
theorem FmS.cX (h:FmS w W m X F needv opv rv):W.cell? ⟨X,5,none⟩=some (.string (mkS m.rep))∧W.cell? ⟨X,6,none⟩=some rv:=⟨by rw [h.bX.cell];rfl,by rw [h.bX.cell];rfl⟩
theorem FmS.ol (h:FmS w W m X F needv opv rv):slLen opv=m.face.ops.length:=h.ops.len (fun _ _ h=>h.len) (by decide)
theorem FmS.nl (h:FmS w W m X F needv opv rv):slLen needv=m.face.needs.length:=h.needs.len (fun _ _ h=>h.len) (by decide)
end
theorem cell_map {w:World} {Mb:Nat} {ps:List (ByteArray×Value)} (h:MapB w Mb ps) (a:Addr) (ha:a.block=Mb):w.cell? a=none:=by
 obtain ⟨es,clock,hb,_⟩:=h.ex
 subst ha
 unfold World.cell?
 rw [hb]
theorem cell_only {w w':World} {Mb:Nat} {ps:List (ByteArray×Value)} (h:MapB w Mb ps) (hO:Only Mb w w') {a:Addr} {v:Value} (hc:w.cell? a=some v):w'.cell? a=some v:=by
 have hne:a.block≠Mb:=fun e=>by rw [cell_map h a e] at hc;cases hc
 rw [←hc]
 unfold World.cell?
 rw [hO.block a.block hne]
theorem Cells.map {w w':World} {Mb:Nat} {ps:List (ByteArray×Value)} {v:Value} {sz:Nat} {xs:List Value} (h:Cells w v sz xs) (hm:MapB w Mb ps) (hO:Only Mb w w'):Cells w' v sz xs:=⟨h.is,h.len,fun j hj=>cell_only hm hO (h.cell j hj)⟩
section
variable {w w0 W W':World} {m:Mod} {X F:Nat} {needv opv rv:Value} {ρ:Env} {b:Bool}
end
section
variable {w w0 W W':World} {m:Mod} {X F:Nat} {needv opv rv nsv:Value} {ρ:Env} {b:Bool}
end
theorem RMod.row {w:World} {cs:List Value} {m:Mod} (h:RMod w cs m):cs.length=7∧∀c∈cs,c.cells= #[c]∧c.oneCell=true:=by
 obtain ⟨needv,opv,rv,rfl,h1,h2,h3⟩:=h
 refine ⟨rfl, ?_⟩
 intro c hc
 simp only [List.mem_cons,List.mem_nil_iff,or_false] at hc
 rcases hc with rfl|rfl|rfl|rfl|rfl|rfl|rfl
 ·exact ⟨rfl,rfl⟩
 ·exact ⟨rfl,rfl⟩
 ·exact ⟨rfl,rfl⟩
 ·exact ⟨isSl_cells h1.is,isSl_one h1.is⟩
 ·exact ⟨isSl_cells h2.is,isSl_one h2.is⟩
 ·exact ⟨rfl,rfl⟩
 ·exact ⟨isSl_cells h3.is,isSl_one h3.is⟩
end Go.L02
namespace Go.L02
open Go.Eng
open Go.L01 (Bs Tok right isWord isSign isName isNumber scan)
set_option maxRecDepth 10000
theorem k_lt (P:Nat→Prop) (h:∀k,k<38→P k) (h2:∀k,38≤k→P k) (k:Nat):P k:=by
 by_cases hk:k<38
 ·exact h k hk
 ·exact h2 k (by omega)
theorem letter_big {k:Nat} (h:38≤k):letterK k=63:=by
 unfold letterK isExprK
 rw [if_neg (by omega),if_neg (by omega),if_neg (by simp;omega),if_neg (by omega),if_neg (by omega),if_neg (by simp;omega)]
theorem isExpr_big {k:Nat} (h:38≤k):isExprK k=false:=by unfold isExprK;simp;omega
theorem isStmt_big {k:Nat} (h:38≤k):isStmtK k=false:=by
 unfold isStmtK
 simp only [Bool.or_eq_false_iff,Bool.and_eq_false_iff,decide_eq_false_iff_not]
 omega
theorem fit_e:∀k,fitC (letterK k) 101=isExprK k:=k_lt _ (by decide) fun k h=>by rw [letter_big h,isExpr_big h];decide
theorem fit_q:∀k,fitC (letterK k) 113=isK1 20 k:=k_lt _ (by decide) fun k h=>by rw [letter_big h];simp [fitC,isK1];omega
theorem is_q:∀k,decide (letterK k=113)=isK1 20 k:=k_lt _ (by decide) fun k h=>by rw [letter_big h];simp [isK1];omega
theorem is_c:∀k,decide (letterK k=99)=isK1 5 k:=k_lt _ (by decide) fun k h=>by rw [letter_big h];simp [isK1];omega
theorem all_ec:∀k,([101,99]:Bs).contains (letterK k)=isExprK k:=k_lt _ (by decide) fun k h=>by rw [letter_big h,isExpr_big h];decide
theorem all_s:∀k,([115]:Bs).contains (letterK k)=isStmtK k:=k_lt _ (by decide) fun k h=>by rw [letter_big h,isStmt_big h];decide
theorem all_w:∀k,([119]:Bs).contains (letterK k)=isK1 33 k:=k_lt _ (by decide) fun k h=>by rw [letter_big h];simp [isK1];omega
theorem all_a:∀k,([97]:Bs).contains (letterK k)=isK1 36 k:=k_lt _ (by decide) fun k h=>by rw [letter_big h];simp [isK1];omega
theorem kidsOk_more (l:List Nd) (f:Nat→Bool) (r:Row) (h:r.more=some f):∀(ks:List Int) (i:Nat),r.first.length≤i→kidsOk l r i ks=ks.all fun k=>f (kidK l k)
 |[],_,_=>rfl
 |k::ks,i,hi=>by
  unfold kidsOk
  have:r.first[i]? =none:=List.getElem?_eq_none hi
  rw [this,h]
  simp only [List.all_cons,kidsOk_more l f r h ks (i+1) (by omega)]
def kids0 (ks:List Int):Bool:=decide (ks=[])
def kids1 (l:List Nd) (f:Nat→Bool):List Int→Bool|[a]=>f (kidK l a)|_=>false
def kids2 (l:List Nd) (f g:Nat→Bool):List Int→Bool|[a,b]=>f (kidK l a)&&g (kidK l b)|_=>false
def kids3 (l:List Nd) (f g h:Nat→Bool):List Int→Bool|[a,b,c]=>f (kidK l a)&&(g (kidK l b)&&h (kidK l c))|_=>false
theorem kOk0 (l:List Nd) (r:Row) (h:r.first=[]) (ks:List Int):(decide (0≤ks.length)&&decide (ks.length≤0)&&kidsOk l r 0 ks)=kids0 ks:=by
 cases ks<;>simp [kidsOk,kids0]
theorem kOk1 (l:List Nd) (r:Row) (f:Nat→Bool) (h:r.first=[f]) (ks:List Int):(decide (1≤ks.length)&&decide (ks.length≤1)&&kidsOk l r 0 ks)=kids1 l f ks:=by
 match ks with
 |[]=>simp [kids1]
 |[a]=>simp [kids1,kidsOk,h]
 |a::b::ks=>simp [kids1]
theorem kOk2 (l:List Nd) (r:Row) (f g:Nat→Bool) (h:r.first=[f,g]) (ks:List Int):(decide (2≤ks.length)&&decide (ks.length≤2)&&kidsOk l r 0 ks)=kids2 l f g ks:=by
 match ks with
 |[]=>simp [kids2]
 |[a]=>simp [kids2]
 |[a,b]=>simp [kids2,kidsOk,h]
 |a::b::c::ks=>simp [kids2]
theorem kOk3 (l:List Nd) (r:Row) (f g k:Nat→Bool) (h:r.first=[f,g,k]) (ks:List Int):(decide (3≤ks.length)&&decide (ks.length≤3)&&kidsOk l r 0 ks)=kids3 l f g k ks:=by
 match ks with
 |[]=>simp [kids3]
 |[a]=>simp [kids3]
 |[a,b]=>simp [kids3]
 |[a,b,c]=>simp [kids3,kidsOk,h]
 |a::b::c::d::ks=>simp [kids3]
section
variable (l:List Nd) (x:Nd)
theorem fitR_1 (p:UInt8):fit (kindsR l x) [p]=kids1 l (fun k=>fitC (letterK k) p) x.kids:=by
 unfold kindsR
 match x.kids with
 |[]=>rfl
 |[a]=>simp [fit,kids1]
 |a::b::ks=>simp [fit,kids1]
theorem fitR_2 (p q:UInt8):fit (kindsR l x) [p,q]=kids2 l (fun k=>fitC (letterK k) p) (fun k=>fitC (letterK k) q) x.kids:=by
 unfold kindsR
 match x.kids with
 |[]=>rfl
 |[a]=>simp [fit,kids2]
 |[a,b]=>simp [fit,kids2]
 |a::b::c::ks=>simp [fit,kids2]
theorem fitR_3 (p q r:UInt8):fit (kindsR l x) [p,q,r]=kids3 l (fun k=>fitC (letterK k) p) (fun k=>fitC (letterK k) q) (fun k=>fitC (letterK k) r) x.kids:=by
 unfold kindsR
 match x.kids with
 |[]=>rfl
 |[a]=>simp [fit,kids3]
 |[a,b]=>simp [fit,kids3]
 |[a,b,c]=>simp [fit,kids3]
 |a::b::c::d::ks=>simp [fit,kids3]
theorem eqR_0:decide (kindsR l x=[])=kids0 x.kids:=by unfold kindsR kids0;simp
theorem eqR_1 (p:UInt8):decide (kindsR l x=[p])=kids1 l (fun k=>decide (letterK k=p)) x.kids:=by
 unfold kindsR
 match x.kids with
 |[]=>rfl
 |[a]=>simp [kids1]
 |a::b::ks=>simp [kids1]
theorem eqR_2 (p q:UInt8):decide (kindsR l x=[p,q])=kids2 l (fun k=>decide (letterK k=p)) (fun k=>decide (letterK k=q)) x.kids:=by
 unfold kindsR
 match x.kids with
 |[]=>rfl
 |[a]=>simp [kids2]
 |[a,b]=>simp [kids2,Bool.and_comm]
 |a::b::c::ks=>simp [kids2]
theorem allR_kids (s:Bs) (ks:List Int):allR (ks.map fun k=>letterK (kidK l k)) s=ks.all fun k=>s.contains (letterK (kidK l k)):=by
 unfold allR;rw [List.all_map];rfl
theorem kindsR_len:(kindsR l x).length=x.kids.length:=by simp [kindsR]
end
def fieldsP (r:Row) (d:D):Bool:=txt d.name r.name&&(txt d.vr r.vr&&(txt d.typ r.typ&&(match r.n with|none=>decide (d.n=0)|some f=>f d.n)))
theorem rightP_row (l:List Nd) (x:Nd) (r:Row) (hr:rowOf x.d.kind=some r):rightP l x=(fieldsP r x.d&&((decide (r.least≤x.kids.length)&&decide (x.kids.length≤r.most)&&kidsOk l r 0 x.kids)&&special l x)):=by
 unfold rightP fieldsP
 rw [hr]
 simp only [Bool.and_assoc]
 rfl
theorem special_no (l:List Nd) (x:Nd) (h1:x.d.kind≠5) (h2:x.d.kind≠6) (h3:x.d.kind≠32):special l x=true:=by
 unfold special;rw [if_neg h1,if_neg h2,if_neg h3]
theorem isK1_20:isK1 20=fun k=>fitC (letterK k) 113:=by funext k;rw [fit_q]
theorem expr_f:isExprK=fun k=>fitC (letterK k) 101:=by funext k;rw [fit_e]
theorem isK1_20':isK1 20=fun k=>decide (letterK k=113):=by funext k;rw [is_q]
theorem isK1_5:isK1 5=fun k=>decide (letterK k=99):=by funext k;rw [is_c]
theorem right_1 (l:List Nd) (x:Nd) (h:x.d.kind=1):rightP l x=rightR l x:=by
 rw [rightP_row l x (fixed {n:=some (upTo 1000000000)} []) (by rw [h];rfl),special_no l x (by omega) (by omega) (by omega),Bool.and_true]
 have hk:=kOk0 l (fixed {n:=some (upTo 1000000000)} []) rfl x.kids
 rw [show (decide ((fixed {n:=some (upTo 1000000000)} []).least≤x.kids.length)&&decide (x.kids.length≤(fixed {n:=some (upTo 1000000000)} []).most)&&kidsOk l (fixed {n:=some (upTo 1000000000)} []) 0 x.kids)=_ from hk]
 unfold rightR fieldsP
 simp only [h,Nat.reduceEqDiff,if_false,if_true,or_false,false_or,or_true,true_or,eqR_0,fixed,txt,restR,Bool.false_or,Bool.true_or,Bool.true_and,Bool.and_true,upTo]
 skip
 skip
 simp only [Bool.and_assoc,Bool.and_comm,Bool.and_left_comm]
theorem right_2 (l:List Nd) (x:Nd) (h:x.d.kind=2):rightP l x=rightR l x:=by
 rw [rightP_row l x (fixed {n:=some (upTo 1)} []) (by rw [h];rfl),special_no l x (by omega) (by omega) (by omega),Bool.and_true]
 have hk:=kOk0 l (fixed {n:=some (upTo 1)} []) rfl x.kids
 rw [show (decide ((fixed {n:=some (upTo 1)} []).least≤x.kids.length)&&decide (x.kids.length≤(fixed {n:=some (upTo 1)} []).most)&&kidsOk l (fixed {n:=some (upTo 1)} []) 0 x.kids)=_ from hk]
 unfold rightR fieldsP
 simp only [h,Nat.reduceEqDiff,if_false,if_true,or_false,false_or,or_true,true_or,eqR_0,fixed,txt,restR,Bool.false_or,Bool.true_or,Bool.true_and,Bool.and_true,upTo]
 have hn:(decide (0≤x.d.n)&&decide (x.d.n≤1))=(decide (x.d.n=0)||decide (x.d.n=1)):=by rw [Bool.eq_iff_iff];simp;omega
 rw [hn]
 simp only [Bool.and_assoc]
theorem right_3 (l:List Nd) (x:Nd) (h:x.d.kind=3):rightP l x=rightR l x:=by
 rw [rightP_row l x (fixed {} []) (by rw [h];rfl),special_no l x (by omega) (by omega) (by omega),Bool.and_true]
 have hk:=kOk0 l (fixed {} []) rfl x.kids
 rw [show (decide ((fixed {} []).least≤x.kids.length)&&decide (x.kids.length≤(fixed {} []).most)&&kidsOk l (fixed {} []) 0 x.kids)=_ from hk]
 unfold rightR fieldsP
 simp only [h,Nat.reduceEqDiff,if_false,if_true,or_false,false_or,or_true,true_or,eqR_0,fixed,txt,restR,Bool.false_or,Bool.true_or,Bool.true_and,Bool.and_true,upTo]
 skip
 skip
 simp only [Bool.and_assoc,Bool.and_comm,Bool.and_left_comm]
theorem right_4 (l:List Nd) (x:Nd) (h:x.d.kind=4):rightP l x=rightR l x:=by
 rw [rightP_row l x (fixed {name:=some isName} []) (by rw [h];rfl),special_no l x (by omega) (by omega) (by omega),Bool.and_true]
 have hk:=kOk0 l (fixed {name:=some isName} []) rfl x.kids
 rw [show (decide ((fixed {name:=some isName} []).least≤x.kids.length)&&decide (x.kids.length≤(fixed {name:=some isName} []).most)&&kidsOk l (fixed {name:=some isName} []) 0 x.kids)=_ from hk]
 unfold rightR fieldsP
 simp only [h,Nat.reduceEqDiff,if_false,if_true,or_false,false_or,or_true,true_or,eqR_0,fixed,txt,restR,Bool.false_or,Bool.true_or,Bool.true_and,Bool.and_true,upTo]
 skip
 skip
 simp only [Bool.and_assoc,Bool.and_comm,Bool.and_left_comm]
theorem right_7 (l:List Nd) (x:Nd) (h:x.d.kind=7):rightP l x=rightR l x:=by
 rw [rightP_row l x (fixed {} [isExprK,isExprK]) (by rw [h];rfl),special_no l x (by omega) (by omega) (by omega),Bool.and_true]
 have hk:=kOk2 l (fixed {} [isExprK,isExprK]) _ _ rfl x.kids
 rw [show (decide ((fixed {} [isExprK,isExprK]).least≤x.kids.length)&&decide (x.kids.length≤(fixed {} [isExprK,isExprK]).most)&&kidsOk l (fixed {} [isExprK,isExprK]) 0 x.kids)=_ from hk]
 unfold rightR fieldsP
 simp only [h,Nat.reduceEqDiff,if_false,if_true,or_false,false_or,or_true,true_or,fitR_2,←expr_f,fixed,txt,restR,Bool.false_or,Bool.true_or,Bool.true_and,Bool.and_true,upTo]
 skip
 skip
 simp only [Bool.and_assoc,Bool.and_comm,Bool.and_left_comm]
theorem right_8 (l:List Nd) (x:Nd) (h:x.d.kind=8):rightP l x=rightR l x:=by
 rw [rightP_row l x (fixed {name:=some isName} [isExprK]) (by rw [h];rfl),special_no l x (by omega) (by omega) (by omega),Bool.and_true]
 have hk:=kOk1 l (fixed {name:=some isName} [isExprK]) _ rfl x.kids
 rw [show (decide ((fixed {name:=some isName} [isExprK]).least≤x.kids.length)&&decide (x.kids.length≤(fixed {name:=some isName} [isExprK]).most)&&kidsOk l (fixed {name:=some isName} [isExprK]) 0 x.kids)=_ from hk]
 unfold rightR fieldsP
 simp only [h,Nat.reduceEqDiff,if_false,if_true,or_false,false_or,or_true,true_or,fitR_1,←expr_f,fixed,txt,restR,Bool.false_or,Bool.true_or,Bool.true_and,Bool.and_true,upTo]
 skip
 skip
 simp only [Bool.and_assoc,Bool.and_comm,Bool.and_left_comm]
theorem right_9 (l:List Nd) (x:Nd) (h:x.d.kind=9):rightP l x=rightR l x:=by
 rw [rightP_row l x (fixed {} [isExprK]) (by rw [h];rfl),special_no l x (by omega) (by omega) (by omega),Bool.and_true]
 have hk:=kOk1 l (fixed {} [isExprK]) _ rfl x.kids
 rw [show (decide ((fixed {} [isExprK]).least≤x.kids.length)&&decide (x.kids.length≤(fixed {} [isExprK]).most)&&kidsOk l (fixed {} [isExprK]) 0 x.kids)=_ from hk]
 unfold rightR fieldsP
 simp only [h,Nat.reduceEqDiff,if_false,if_true,or_false,false_or,or_true,true_or,fitR_1,←expr_f,fixed,txt,restR,Bool.false_or,Bool.true_or,Bool.true_and,Bool.and_true,upTo]
 skip
 skip
 simp only [Bool.and_assoc,Bool.and_comm,Bool.and_left_comm]
theorem right_10 (l:List Nd) (x:Nd) (h:x.d.kind=10):rightP l x=rightR l x:=by
 rw [rightP_row l x (fixed {} [isExprK]) (by rw [h];rfl),special_no l x (by omega) (by omega) (by omega),Bool.and_true]
 have hk:=kOk1 l (fixed {} [isExprK]) _ rfl x.kids
 rw [show (decide ((fixed {} [isExprK]).least≤x.kids.length)&&decide (x.kids.length≤(fixed {} [isExprK]).most)&&kidsOk l (fixed {} [isExprK]) 0 x.kids)=_ from hk]
 unfold rightR fieldsP
 simp only [h,Nat.reduceEqDiff,if_false,if_true,or_false,false_or,or_true,true_or,fitR_1,←expr_f,fixed,txt,restR,Bool.false_or,Bool.true_or,Bool.true_and,Bool.and_true,upTo]
 skip
 skip
 simp only [Bool.and_assoc,Bool.and_comm,Bool.and_left_comm]
theorem right_21 (l:List Nd) (x:Nd) (h:x.d.kind=21):rightP l x=rightR l x:=by
 rw [rightP_row l x (fixed {name:=some isName,typ:=some isType} [isExprK]) (by rw [h];rfl),special_no l x (by omega) (by omega) (by omega),Bool.and_true]
 have hk:=kOk1 l (fixed {name:=some isName,typ:=some isType} [isExprK]) _ rfl x.kids
 rw [show (decide ((fixed {name:=some isName,typ:=some isType} [isExprK]).least≤x.kids.length)&&decide (x.kids.length≤(fixed {name:=some isName,typ:=some isType} [isExprK]).most)&&kidsOk l (fixed {name:=some isName,typ:=some isType} [isExprK]) 0 x.kids)=_ from hk]
 unfold rightR fieldsP
 simp only [h,Nat.reduceEqDiff,if_false,if_true,or_false,false_or,or_true,true_or,fitR_1,←expr_f,fixed,txt,restR,Bool.false_or,Bool.true_or,Bool.true_and,Bool.and_true,upTo]
 skip
 skip
 simp only [Bool.and_assoc,Bool.and_comm,Bool.and_left_comm]
theorem right_22 (l:List Nd) (x:Nd) (h:x.d.kind=22):rightP l x=rightR l x:=by
 rw [rightP_row l x (fixed {name:=some isName} [isExprK]) (by rw [h];rfl),special_no l x (by omega) (by omega) (by omega),Bool.and_true]
 have hk:=kOk1 l (fixed {name:=some isName} [isExprK]) _ rfl x.kids
 rw [show (decide ((fixed {name:=some isName} [isExprK]).least≤x.kids.length)&&decide (x.kids.length≤(fixed {name:=some isName} [isExprK]).most)&&kidsOk l (fixed {name:=some isName} [isExprK]) 0 x.kids)=_ from hk]
 unfold rightR fieldsP
 simp only [h,Nat.reduceEqDiff,if_false,if_true,or_false,false_or,or_true,true_or,fitR_1,←expr_f,fixed,txt,restR,Bool.false_or,Bool.true_or,Bool.true_and,Bool.and_true,upTo]
 skip
 skip
 simp only [Bool.and_assoc,Bool.and_comm,Bool.and_left_comm]
theorem right_23 (l:List Nd) (x:Nd) (h:x.d.kind=23):rightP l x=rightR l x:=by
 rw [rightP_row l x (fixed {} [isExprK,isExprK,isExprK]) (by rw [h];rfl),special_no l x (by omega) (by omega) (by omega),Bool.and_true]
 have hk:=kOk3 l (fixed {} [isExprK,isExprK,isExprK]) _ _ _ rfl x.kids
 rw [show (decide ((fixed {} [isExprK,isExprK,isExprK]).least≤x.kids.length)&&decide (x.kids.length≤(fixed {} [isExprK,isExprK,isExprK]).most)&&kidsOk l (fixed {} [isExprK,isExprK,isExprK]) 0 x.kids)=_ from hk]
 unfold rightR fieldsP
 simp only [h,Nat.reduceEqDiff,if_false,if_true,or_false,false_or,or_true,true_or,fitR_3,←expr_f,fixed,txt,restR,Bool.false_or,Bool.true_or,Bool.true_and,Bool.and_true,upTo]
 skip
 skip
 simp only [Bool.and_assoc,Bool.and_comm,Bool.and_left_comm]
theorem right_24 (l:List Nd) (x:Nd) (h:x.d.kind=24):rightP l x=rightR l x:=by
 rw [rightP_row l x (fixed {name:=some isName} [isExprK,isExprK]) (by rw [h];rfl),special_no l x (by omega) (by omega) (by omega),Bool.and_true]
 have hk:=kOk2 l (fixed {name:=some isName} [isExprK,isExprK]) _ _ rfl x.kids
 rw [show (decide ((fixed {name:=some isName} [isExprK,isExprK]).least≤x.kids.length)&&decide (x.kids.length≤(fixed {name:=some isName} [isExprK,isExprK]).most)&&kidsOk l (fixed {name:=some isName} [isExprK,isExprK]) 0 x.kids)=_ from hk]
 unfold rightR fieldsP
 simp only [h,Nat.reduceEqDiff,if_false,if_true,or_false,false_or,or_true,true_or,fitR_2,←expr_f,fixed,txt,restR,Bool.false_or,Bool.true_or,Bool.true_and,Bool.and_true,upTo]
 skip
 skip
 simp only [Bool.and_assoc,Bool.and_comm,Bool.and_left_comm]
theorem right_25 (l:List Nd) (x:Nd) (h:x.d.kind=25):rightP l x=rightR l x:=by
 rw [rightP_row l x (fixed {} [isK1 5]) (by rw [h];rfl),special_no l x (by omega) (by omega) (by omega),Bool.and_true]
 have hk:=kOk1 l (fixed {} [isK1 5]) _ rfl x.kids
 rw [show (decide ((fixed {} [isK1 5]).least≤x.kids.length)&&decide (x.kids.length≤(fixed {} [isK1 5]).most)&&kidsOk l (fixed {} [isK1 5]) 0 x.kids)=_ from hk]
 unfold rightR fieldsP
 simp only [h,Nat.reduceEqDiff,if_false,if_true,or_false,false_or,or_true,true_or,eqR_1,←isK1_5,fixed,txt,restR,Bool.false_or,Bool.true_or,Bool.true_and,Bool.and_true,upTo]
 skip
 skip
 simp only [Bool.and_assoc,Bool.and_comm,Bool.and_left_comm]
theorem right_27 (l:List Nd) (x:Nd) (h:x.d.kind=27):rightP l x=rightR l x:=by
 rw [rightP_row l x (fixed {} [isExprK,isK1 20]) (by rw [h];rfl),special_no l x (by omega) (by omega) (by omega),Bool.and_true]
 have hk:=kOk2 l (fixed {} [isExprK,isK1 20]) _ _ rfl x.kids
 rw [show (decide ((fixed {} [isExprK,isK1 20]).least≤x.kids.length)&&decide (x.kids.length≤(fixed {} [isExprK,isK1 20]).most)&&kidsOk l (fixed {} [isExprK,isK1 20]) 0 x.kids)=_ from hk]
 unfold rightR fieldsP
 simp only [h,Nat.reduceEqDiff,if_false,if_true,or_false,false_or,or_true,true_or,fitR_2,←expr_f,←isK1_20,fixed,txt,restR,Bool.false_or,Bool.true_or,Bool.true_and,Bool.and_true,upTo]
 skip
 skip
 simp only [Bool.and_assoc,Bool.and_comm,Bool.and_left_comm]
theorem right_28 (l:List Nd) (x:Nd) (h:x.d.kind=28):rightP l x=rightR l x:=by
 rw [rightP_row l x (fixed {name:=some isName,typ:=some isType} [isK1 5,isK1 20]) (by rw [h];rfl),special_no l x (by omega) (by omega) (by omega),Bool.and_true]
 have hk:=kOk2 l (fixed {name:=some isName,typ:=some isType} [isK1 5,isK1 20]) _ _ rfl x.kids
 rw [show (decide ((fixed {name:=some isName,typ:=some isType} [isK1 5,isK1 20]).least≤x.kids.length)&&decide (x.kids.length≤(fixed {name:=some isName,typ:=some isType} [isK1 5,isK1 20]).most)&&kidsOk l (fixed {name:=some isName,typ:=some isType} [isK1 5,isK1 20]) 0 x.kids)=_ from hk]
 unfold rightR fieldsP
 simp only [h,Nat.reduceEqDiff,if_false,if_true,or_false,false_or,or_true,true_or,eqR_2,←isK1_5,←isK1_20',fixed,txt,restR,Bool.false_or,Bool.true_or,Bool.true_and,Bool.and_true,upTo]
 skip
 skip
 simp only [Bool.and_assoc,Bool.and_comm,Bool.and_left_comm]
theorem right_30 (l:List Nd) (x:Nd) (h:x.d.kind=30):rightP l x=rightR l x:=by
 rw [rightP_row l x (fixed {} [isExprK]) (by rw [h];rfl),special_no l x (by omega) (by omega) (by omega),Bool.and_true]
 have hk:=kOk1 l (fixed {} [isExprK]) _ rfl x.kids
 rw [show (decide ((fixed {} [isExprK]).least≤x.kids.length)&&decide (x.kids.length≤(fixed {} [isExprK]).most)&&kidsOk l (fixed {} [isExprK]) 0 x.kids)=_ from hk]
 unfold rightR fieldsP
 simp only [h,Nat.reduceEqDiff,if_false,if_true,or_false,false_or,or_true,true_or,fitR_1,←expr_f,fixed,txt,restR,Bool.false_or,Bool.true_or,Bool.true_and,Bool.and_true,upTo]
 skip
 skip
 simp only [Bool.and_assoc,Bool.and_comm,Bool.and_left_comm]
theorem right_31 (l:List Nd) (x:Nd) (h:x.d.kind=31):rightP l x=rightR l x:=by
 rw [rightP_row l x (fixed {name:=some isName} []) (by rw [h];rfl),special_no l x (by omega) (by omega) (by omega),Bool.and_true]
 have hk:=kOk0 l (fixed {name:=some isName} []) rfl x.kids
 rw [show (decide ((fixed {name:=some isName} []).least≤x.kids.length)&&decide (x.kids.length≤(fixed {name:=some isName} []).most)&&kidsOk l (fixed {name:=some isName} []) 0 x.kids)=_ from hk]
 unfold rightR fieldsP
 simp only [h,Nat.reduceEqDiff,if_false,if_true,or_false,false_or,or_true,true_or,eqR_0,fixed,txt,restR,Bool.false_or,Bool.true_or,Bool.true_and,Bool.and_true,upTo]
 skip
 skip
 simp only [Bool.and_assoc,Bool.and_comm,Bool.and_left_comm]
theorem right_34 (l:List Nd) (x:Nd) (h:x.d.kind=34):rightP l x=rightR l x:=by
 rw [rightP_row l x (fixed {} []) (by rw [h];rfl),special_no l x (by omega) (by omega) (by omega),Bool.and_true]
 have hk:=kOk0 l (fixed {} []) rfl x.kids
 rw [show (decide ((fixed {} []).least≤x.kids.length)&&decide (x.kids.length≤(fixed {} []).most)&&kidsOk l (fixed {} []) 0 x.kids)=_ from hk]
 unfold rightR fieldsP
 simp only [h,Nat.reduceEqDiff,if_false,if_true,or_false,false_or,or_true,true_or,eqR_0,fixed,txt,restR,Bool.false_or,Bool.true_or,Bool.true_and,Bool.and_true,upTo]
 skip
 skip
 simp only [Bool.and_assoc,Bool.and_comm,Bool.and_left_comm]
theorem right_36 (l:List Nd) (x:Nd) (h:x.d.kind=36):rightP l x=rightR l x:=by
 rw [rightP_row l x (fixed {name:=some isName,vr:=some isName,typ:=some isType} [isK1 20]) (by rw [h];rfl),special_no l x (by omega) (by omega) (by omega),Bool.and_true]
 have hk:=kOk1 l (fixed {name:=some isName,vr:=some isName,typ:=some isType} [isK1 20]) _ rfl x.kids
 rw [show (decide ((fixed {name:=some isName,vr:=some isName,typ:=some isType} [isK1 20]).least≤x.kids.length)&&decide (x.kids.length≤(fixed {name:=some isName,vr:=some isName,typ:=some isType} [isK1 20]).most)&&kidsOk l (fixed {name:=some isName,vr:=some isName,typ:=some isType} [isK1 20]) 0 x.kids)=_ from hk]
 unfold rightR fieldsP
 simp only [h,Nat.reduceEqDiff,if_false,if_true,or_false,false_or,or_true,true_or,eqR_1,←isK1_20',fixed,txt,restR,Bool.false_or,Bool.true_or,Bool.true_and,Bool.and_true,upTo]
 skip
 skip
 simp only [Bool.and_assoc,Bool.and_comm,Bool.and_left_comm]
theorem right_37 (l:List Nd) (x:Nd) (h:x.d.kind=37):rightP l x=rightR l x:=by
 rw [rightP_row l x (fixed {} [isExprK]) (by rw [h];rfl),special_no l x (by omega) (by omega) (by omega),Bool.and_true]
 have hk:=kOk1 l (fixed {} [isExprK]) _ rfl x.kids
 rw [show (decide ((fixed {} [isExprK]).least≤x.kids.length)&&decide (x.kids.length≤(fixed {} [isExprK]).most)&&kidsOk l (fixed {} [isExprK]) 0 x.kids)=_ from hk]
 unfold rightR fieldsP
 simp only [h,Nat.reduceEqDiff,if_false,if_true,or_false,false_or,or_true,true_or,fitR_1,←expr_f,fixed,txt,restR,Bool.false_or,Bool.true_or,Bool.true_and,Bool.and_true,upTo]
 skip
 skip
 simp only [Bool.and_assoc,Bool.and_comm,Bool.and_left_comm]
theorem right_20 (l:List Nd) (x:Nd) (h:x.d.kind=20) (hl:x.kids.length≤400):rightP l x=rightR l x:=by
 rw [rightP_row l x {more:=some isStmtK,most:=400} (by rw [h];rfl),special_no l x (by omega) (by omega) (by omega),Bool.and_true]
 unfold rightR fieldsP
 rw [kidsOk_more l isStmtK _ rfl x.kids 0 (by simp)]
 have hk:allR (kindsR l x) [115]=x.kids.all fun k=>isStmtK (kidK l k):=by unfold kindsR;rw [allR_kids];simp only [all_s]
 simp only [h,Nat.reduceEqDiff,if_false,if_true,or_false,false_or,hk,txt,restR,Bool.false_or,Bool.true_and,hl,Nat.zero_le,decide_true]
 simp only [Bool.and_assoc,Bool.and_comm,Bool.and_left_comm]
theorem right_5 (l:List Nd) (x:Nd) (h:x.d.kind=5):rightP l x=rightR l x:=by
 rw [rightP_row l x {name:=some anyB,vr:=some anyB,typ:=some anyB,more:=some isExprK,most:=6} (by rw [h];rfl)]
 unfold rightR fieldsP special called
 rw [kidsOk_more l isExprK _ rfl x.kids 0 (by simp)]
 have hk:allR (kindsR l x) [101,99]=x.kids.all fun k=>isExprK (kidK l k):=by unfold kindsR;rw [allR_kids];simp only [all_ec]
 simp only [h,Nat.reduceEqDiff,if_false,if_true,or_false,false_or,hk,txt,restR,anyB,Bool.true_or,Bool.false_or,Bool.true_and,Nat.zero_le,decide_true,kindsR_len]
 by_cases hv:x.d.vr=[]
 ·simp only [hv,if_true,decide_true,Bool.true_and]
  simp only [Bool.and_assoc,Bool.and_comm,Bool.and_left_comm]
 ·simp only [hv,if_false]
  simp only [Bool.and_assoc,Bool.and_comm,Bool.and_left_comm]
theorem operators_eq (s:Bs):operators.contains s=(decide (s=[110,111,116])||opers.contains s):=by
 unfold operators opers
 simp only [List.contains_cons]
 congr 1
 rw [Bool.eq_iff_iff];simp
theorem right_6 (l:List Nd) (x:Nd) (h:x.d.kind=6):rightP l x=rightR l x:=by
 rw [rightP_row l x {name:=some operators.contains,first:=[isExprK,isExprK],least:=1,most:=2} (by rw [h];rfl)]
 unfold rightR fieldsP special
 simp only [h,Nat.reduceEqDiff,if_false,if_true,or_false,false_or,txt,restR,Bool.true_or,Bool.false_or,Bool.true_and,fitR_1,fitR_2,←expr_f,operators_eq]
 have hno:x.d.name=[110,111,116]→opers.contains x.d.name=false:=by intro h;rw [h];decide
 match hk:x.kids with
 |[]=>simp [kids1,kids2]
 |[a]=>
  simp only [kids1,kids2,kidsOk,List.length_cons,List.length_nil,Nat.zero_add,Nat.le_refl,decide_true,Bool.true_and,Bool.and_true,List.getElem?_cons_zero]
  by_cases hn:x.d.name=[110,111,116] <;>cases ho:opers.contains x.d.name<;>simp_all [Bool.and_assoc]
 |[a,b]=>
  simp only [kids1,kids2,kidsOk,List.length_cons,List.length_nil,Nat.zero_add,Nat.le_refl,decide_true,Bool.true_and,Bool.and_true,List.getElem?_cons_zero,List.getElem?_cons_succ]
  by_cases hn:x.d.name=[110,111,116] <;>cases ho:opers.contains x.d.name<;>simp_all [Bool.and_assoc]
 |a::b::c::ks=>simp [kids1,kids2]
theorem right_26 (l:List Nd) (x:Nd) (h:x.d.kind=26):rightP l x=rightR l x:=by
 rw [rightP_row l x {first:=[isExprK,isK1 20,isK1 20],least:=2,most:=3} (by rw [h];rfl),special_no l x (by omega) (by omega) (by omega),Bool.and_true]
 unfold rightR fieldsP
 simp only [h,Nat.reduceEqDiff,if_false,if_true,or_false,false_or,txt,restR,Bool.true_or,Bool.false_or,Bool.true_and,fitR_2,fitR_3,←expr_f,←isK1_20]
 match hk:x.kids with
 |[]=>simp [kids2,kids3]
 |[a]=>simp [kids2,kids3]
 |[a,b]=>simp [kids2,kids3,kidsOk,Bool.and_assoc]
 |[a,b,c]=>simp [kids2,kids3,kidsOk,Bool.and_assoc]
 |a::b::c::d::ks=>simp [kids2,kids3]
theorem right_29 (l:List Nd) (x:Nd) (h:x.d.kind=29):rightP l x=rightR l x:=by
 rw [rightP_row l x {first:=[isExprK],most:=1} (by rw [h];rfl),special_no l x (by omega) (by omega) (by omega),Bool.and_true]
 unfold rightR fieldsP
 simp only [h,Nat.reduceEqDiff,if_false,if_true,or_false,false_or,txt,restR,Bool.true_or,Bool.false_or,Bool.true_and,fitR_1,eqR_0,←expr_f]
 match hk:x.kids with
 |[]=>simp [kids0,kids1,kidsOk,Bool.and_assoc]
 |[a]=>simp [kids0,kids1,kidsOk,Bool.and_assoc]
 |a::b::ks=>simp [kids0,kids1]
theorem right_33 (l:List Nd) (x:Nd) (h:x.d.kind=33):rightR l x=(rightP l x&&(decide (x.d.name=[])||isName x.d.name)):=by
 rw [rightP_row l x (fixed {name:=some anyB} [isK1 20]) (by rw [h];rfl),special_no l x (by omega) (by omega) (by omega),Bool.and_true]
 have hk:=kOk1 l (fixed {name:=some anyB} [isK1 20]) _ rfl x.kids
 rw [show (decide ((fixed {name:=some anyB} [isK1 20]).least≤x.kids.length)&&decide (x.kids.length≤(fixed {name:=some anyB} [isK1 20]).most)&&kidsOk l (fixed {name:=some anyB} [isK1 20]) 0 x.kids)=_ from hk]
 unfold rightR fieldsP
 simp only [h,Nat.reduceEqDiff,if_false,if_true,or_false,false_or,eqR_1,←isK1_20',fixed,txt,restR,anyB,Bool.false_or,Bool.true_or,Bool.true_and,Bool.and_true]
 simp only [Bool.and_assoc,Bool.and_comm,Bool.and_left_comm]
theorem kidsOk_tail (l:List Nd) (f g:Nat→Bool) (r:Row) (h1:r.first=[f]) (h2:r.more=some g) (a:Int) (ks:List Int):kidsOk l r 0 (a::ks)=(f (kidK l a)&&ks.all fun k=>g (kidK l k)):=by
 unfold kidsOk
 rw [kidsOk_more l g r h2 ks 1 (by simp [h1]),h1]
 rfl
theorem right_35 (l:List Nd) (x:Nd) (h:x.d.kind=35) (hl:x.kids.length≤400):rightP l x=rightR l x:=by
 rw [rightP_row l x {first:=[isExprK],more:=some (isK1 36),least:=2,most:=400} (by rw [h];rfl),special_no l x (by omega) (by omega) (by omega),Bool.and_true]
 unfold rightR fieldsP
 simp only [h,Nat.reduceEqDiff,if_false,if_true,or_false,false_or,txt,restR,Bool.true_or,Bool.false_or,Bool.true_and,hl,decide_true,Bool.and_true,kindsR_len]
 unfold kindsR
 match hk:x.kids with
 |[]=>simp
 |a::ks=>
  rw [kidsOk_tail l isExprK (isK1 36) _ rfl rfl]
  simp only [List.map_cons,List.take_succ_cons,List.take_zero,List.drop_succ_cons,List.drop_zero,fit,fit_e,Bool.and_true,allR_kids,all_a,List.length_cons]
  have:decide (1<ks.length+1)=decide (2≤ks.length+1):=by congr 1
  rw [this]
  simp only [Bool.and_assoc,Bool.and_comm,Bool.and_left_comm]
def base32 (l:List Nd) (x:Nd):Bool:=restR x.d false false false false&&(match x.kids with|a::b::ks=>isK1 20 (kidK l a)&&(b::ks).all fun k=>isK1 33 (kidK l k)|_=>false)
theorem rightP_32 (l:List Nd) (x:Nd) (h:x.d.kind=32) (hl:x.kids.length≤400):rightP l x=(base32 l x&&whenOk l x.kids.length 0 (x.kids.drop 1)):=by
 rw [rightP_row l x {first:=[isK1 20],more:=some (isK1 33),least:=2,most:=400} (by rw [h];rfl)]
 unfold fieldsP special base32
 simp only [h,Nat.reduceEqDiff,if_false,if_true,or_false,false_or,txt,restR,Bool.true_or,Bool.false_or,Bool.true_and,hl,decide_true,Bool.and_true]
 match hk:x.kids with
 |[]=>simp
 |[a]=>simp
 |a::b::ks=>
  rw [kidsOk_tail l (isK1 20) (isK1 33) _ rfl rfl]
  simp only [List.length_cons,show decide (2≤ks.length+1+1)=true by simp,Bool.true_and,Bool.and_assoc]
theorem rightR_32 (l:List Nd) (x:Nd) (h:x.d.kind=32):rightR l x=(base32 l x&&exceptR l x):=by
 unfold rightR base32
 simp only [h,Nat.reduceEqDiff,if_false,if_true,or_false,false_or,kindsR_len]
 unfold kindsR
 match hk:x.kids with
 |[]=>simp
 |[a]=>simp
 |a::b::ks=>
  simp only [List.map_cons,List.getD_cons_zero,List.drop_succ_cons,List.drop_zero,is_q,List.length_cons,show decide (2≤ks.length+1+1)=true by simp,Bool.true_and]
  rw [show allR (letterK (kidK l b)::ks.map fun k=>letterK (kidK l k)) [119]=allR ((b::ks).map fun k=>letterK (kidK l k)) [119] from rfl,allR_kids]
  simp only [all_w]
  simp only [Bool.and_assoc,Bool.and_comm,Bool.and_left_comm]
theorem right_eq (l:List Nd) (x:Nd) (hl:x.kids.length≤400) (h1:x.d.kind≠32) (h2:x.d.kind≠33):rightP l x=rightR l x:=by
 have none':rowOf x.d.kind=none→rightP l x=false:=by intro h;unfold rightP;rw [h]
 by_cases hk:38≤x.d.kind
 ·rw [none' (by unfold rowOf;rw [List.getElem?_eq_none (by simpa [rowsT] using hk)];rfl)]
  unfold rightR
  simp only [show∀n,n<38→¬x.d.kind=n from fun n h=>by omega]
  symm
  rw [if_neg (by omega),if_neg (by omega),if_neg (by omega),if_neg (by omega),if_neg (by omega),if_neg (by omega),if_neg (by omega),if_neg (by omega),if_neg (by omega),if_neg (by omega),if_neg (by omega),if_neg (by omega),if_neg (by omega),if_neg (by omega),if_neg (by omega),if_neg (by omega),if_neg (by omega),if_neg (by omega),if_neg (by omega),if_neg (by omega),if_neg (by omega),if_neg (by omega),if_neg (by omega)]
 ·have hk':x.d.kind<38:=by omega
  generalize hn:x.d.kind=n at h1 h2 hk'
  match n,h1,h2,hk' with
  |0,_,_,_=>rw [none' (by rw [hn];rfl)];unfold rightR;simp [hn]
  |1,_,_,_=>exact right_1 l x hn
  |2,_,_,_=>exact right_2 l x hn
  |3,_,_,_=>exact right_3 l x hn
  |4,_,_,_=>exact right_4 l x hn
  |5,_,_,_=>exact right_5 l x hn
  |6,_,_,_=>exact right_6 l x hn
  |7,_,_,_=>exact right_7 l x hn
  |8,_,_,_=>exact right_8 l x hn
  |9,_,_,_=>exact right_9 l x hn
  |10,_,_,_=>exact right_10 l x hn
  |11,_,_,_=>rw [none' (by rw [hn];rfl)];unfold rightR;simp [hn]
  |12,_,_,_=>rw [none' (by rw [hn];rfl)];unfold rightR;simp [hn]
  |13,_,_,_=>rw [none' (by rw [hn];rfl)];unfold rightR;simp [hn]
  |14,_,_,_=>rw [none' (by rw [hn];rfl)];unfold rightR;simp [hn]
  |15,_,_,_=>rw [none' (by rw [hn];rfl)];unfold rightR;simp [hn]
  |16,_,_,_=>rw [none' (by rw [hn];rfl)];unfold rightR;simp [hn]
  |17,_,_,_=>rw [none' (by rw [hn];rfl)];unfold rightR;simp [hn]
  |18,_,_,_=>rw [none' (by rw [hn];rfl)];unfold rightR;simp [hn]
  |19,_,_,_=>rw [none' (by rw [hn];rfl)];unfold rightR;simp [hn]
  |20,_,_,_=>exact right_20 l x hn hl
  |21,_,_,_=>exact right_21 l x hn
  |22,_,_,_=>exact right_22 l x hn
  |23,_,_,_=>exact right_23 l x hn
  |24,_,_,_=>exact right_24 l x hn
  |25,_,_,_=>exact right_25 l x hn
  |26,_,_,_=>exact right_26 l x hn
  |27,_,_,_=>exact right_27 l x hn
  |28,_,_,_=>exact right_28 l x hn
  |29,_,_,_=>exact right_29 l x hn
  |30,_,_,_=>exact right_30 l x hn
  |31,_,_,_=>exact right_31 l x hn
  |34,_,_,_=>exact right_34 l x hn
  |35,_,_,_=>exact right_35 l x hn hl
  |36,_,_,_=>exact right_36 l x hn
  |37,_,_,_=>exact right_37 l x hn
  |32,h,_,_=>exact absurd rfl h
  |33,_,h,_=>exact absurd rfl h
  |n+38,_,_,h=>omega
end Go.L02
namespace Go.L02
open Go.Eng
open Go.L01 (Bs Tok right isWord isSign isName isNumber scan)
mutual
theorem T.kids_le:∀(t:T) (b:Nat),∀x∈t.flat b,x.kids.length<t.size
 | .mk d ks,b,x,hx=>by
  simp only [T.flat,List.mem_append,List.mem_singleton] at hx
  simp only [T.size]
  rcases hx with hx|rfl
  ·have:=kids_les ks b x hx;omega
  ·have h:∀ks:List T,ks.length≤sizes ks:=by
    intro ks
    induction ks with
    |nil=>simp [sizes]
    |cons t ks ih=>have:=t.size_pos;simp only [sizes,List.length_cons];omega
   have:=h ks
   simp only [roots_len];omega
theorem kids_les:∀(ts:List T) (b:Nat),∀x∈flats b ts,x.kids.length<sizes ts
 |[],b,x,hx=>by simp [flats] at hx
 |t::ts,b,x,hx=>by
  simp only [flats,List.mem_append] at hx
  simp only [sizes]
  rcases hx with hx|hx
  ·have:=T.kids_le t b x hx;omega
  ·have:=kids_les ts _ x hx;omega
end
mutual
theorem T.parent:∀(t:T) (b j:Nat),b≤j→j+1<b+t.size→∃x∈t.flat b,(j:Int)∈x.kids
 | .mk d ks,b,j,h1,h2=>by
  simp only [T.size] at h2
  rcases parents ks b j h1 (by omega) with h|⟨x,hx,h⟩
  ·exact ⟨⟨d,roots b ks⟩,by simp [T.flat],h⟩
  ·exact ⟨x,by simp [T.flat,hx],h⟩
theorem parents:∀(ts:List T) (b j:Nat),b≤j→j<b+sizes ts→(j:Int)∈roots b ts∨∃x∈flats b ts,(j:Int)∈x.kids
 |[],b,j,h1,h2=>by simp [sizes] at h2;omega
 |t::ts,b,j,h1,h2=>by
  simp only [sizes] at h2
  by_cases hj:j<b+t.size
  ·by_cases hr:j+1=b+t.size
   ·left
    simp only [roots,List.mem_cons]
    left;omega
   ·obtain ⟨x,hx,h⟩:=T.parent t b j h1 (by omega)
    exact .inr ⟨x,by simp [flats,hx],h⟩
  ·rcases parents ts (b+t.size) j (by omega) (by omega) with h|⟨x,hx,h⟩
   ·exact .inl (by simp [roots,h])
   ·exact .inr ⟨x,by simp [flats,hx],h⟩
end
theorem isName_nil:isName []=false:=rfl
theorem kidsOk_mem (l:List Nd) (r:Row):∀(ks:List Int) (i:Nat),kidsOk l r i ks=true→∀k∈ks,∃f∈r.first++r.more.toList,f (kidK l k)=true
 |[],_,_,k,hk=>by simp at hk
 |a::ks,i,h,k,hk=>by
  unfold kidsOk at h
  simp only [Bool.and_eq_true] at h
  rcases List.mem_cons.1 hk with rfl|hk
  ·have h1:=h.1
   split at h1
   ·rename_i f hf
    exact ⟨f,by simp [List.mem_of_getElem? hf],h1⟩
   ·split at h1
    ·rename_i f hf;exact ⟨f,by simp [hf],h1⟩
    ·cases h1
  ·exact kidsOk_mem l r ks (i+1) h.2 k hk
theorem rows_33:(rowsT.zipIdx.all fun p=>decide (p.2=32)||(match p.1 with|none=>true|some r=>(r.first++r.more.toList).all fun f=> !f 33))=true:=by decide
theorem only_32 {l:List Nd} {x:Nd} (h:rightP l x=true) {k:Int} (hk:k∈x.kids) (h33:kidK l k=33):x.d.kind=32:=by
 unfold rightP at h
 split at h
 ·cases h
 ·rename_i r hr
  simp only [Bool.and_eq_true] at h
  obtain ⟨f,hf,hf2⟩:=kidsOk_mem l r _ _ h.1.2 k hk
  rw [h33] at hf2
  unfold rowOf at hr
  cases hg:rowsT[x.d.kind]? with
  |none=>rw [hg] at hr;cases hr
  |some o=>
   rw [hg] at hr
   simp only [Option.join] at hr
   have hall:=List.all_eq_true.1 rows_33 (o,x.d.kind) (List.mem_zipIdx_iff_getElem?.2 (by simpa using hg))
   simp only [Bool.or_eq_true,decide_eq_true_eq] at hall
   rcases hall with h|h
   ·exact h
   ·have ho:o=some r:=by simpa using hr
    rw [ho] at h
    have:=List.all_eq_true.1 h f hf
    rw [hf2] at this;cases this
theorem whenOk_iff (l:List Nd) (n:Nat):∀(ks:List Int) (i:Nat),whenOk l n i ks=true↔∀j (hj:j<ks.length),isName (kidN l ks[j])=true∨(kidN l ks[j]=[]∧n≤i+j+2)
 |[],i=>by simp [whenOk]
 |k::ks,i=>by
  unfold whenOk
  simp only [Bool.and_eq_true,whenOk_iff l n ks (i+1),Bool.or_eq_true,Bool.not_eq_true',Bool.or_eq_false_iff,Bool.not_eq_false',decide_eq_true_eq,decide_eq_false_iff_not]
  constructor
  ·rintro ⟨h1,h2⟩ j hj
   cases j with
   |zero=>simpa using h1.imp id fun h=>⟨h.1,by omega⟩
   |succ j=>
    have:=h2 j (by simpa using hj)
    simpa using this.imp id fun h=>⟨h.1,by omega⟩
  ·intro h
   refine ⟨?_,fun j hj=> ?_⟩
   ·have:=h 0 (by simp)
    simpa using this.imp id fun h=>⟨h.1,by omega⟩
   ·have:=h (j+1) (by simpa using hj)
    simpa using this.imp id fun h=>⟨h.1,by omega⟩
theorem exceptR_iff (l:List Nd) (x:Nd):exceptR l x=true↔∀j (hj:j<(x.kids.drop 1).length),j+2<x.kids.length→kidN l ((x.kids.drop 1)[j])≠[]:=by
 unfold exceptR
 rw [List.all_eq_true]
 constructor
 ·intro h j hj h2
  have:=h ((x.kids.drop 1)[j]) (by
   rw [List.mem_take_iff_getElem]
   exact ⟨j,by omega,rfl⟩)
  simpa using this
 ·intro h k hk
  rw [List.mem_take_iff_getElem] at hk
  obtain ⟨j,hj,rfl⟩:=hk
  have:=h j (by omega) (by omega)
  simpa using this
theorem kid_mem {l:List Nd} {k:Int} {c:Nat} (h:kidK l k=c) (hc:c≠0):∃y∈l,l[k.toNat]? =some y∧y.d.kind=c∧kidN l k=y.d.name:=by
 unfold kidK at h
 split at h
 ·rename_i y hy
  exact ⟨y,List.mem_of_getElem? hy,hy,h,by unfold kidN;rw [hy]⟩
 ·exact absurd h.symm hc
theorem right_whole {l:List Nd} (hp:postorder l=true) (h400:l.length≤400) (h33:rootK l≠33):l.all (rightP l)=l.all (rightR l):=by
 obtain ⟨t,rfl⟩:=postorder_tree hp
 rw [rootK_flat] at h33
 have hkl:∀x∈t.flat 0,x.kids.length≤400:=fun x hx=>by
  have:=T.kids_le t 0 x hx
  rw [T.flat_len] at h400;omega
 rw [Bool.eq_iff_iff,List.all_eq_true,List.all_eq_true]
 constructor
 ·intro h x hx
  by_cases h2:x.d.kind=32
  ·have h1:=h x hx
   rw [rightP_32 _ x h2 (hkl x hx),Bool.and_eq_true] at h1
   rw [rightR_32 _ x h2,Bool.and_eq_true]
   refine ⟨h1.1,(exceptR_iff _ _).2 fun j hj h3 h4=> ?_⟩
   rcases (whenOk_iff _ _ _ _).1 h1.2 j hj with h5|⟨_,h5⟩
   ·rw [h4,isName_nil] at h5;cases h5
   ·omega
  ·by_cases h3:x.d.kind=33
   ·rw [right_33 _ x h3,h x hx,Bool.true_and]
    obtain ⟨j,hj,rfl⟩:=List.getElem_of_mem hx
    have hroot:j+1<t.size:=by
     rw [T.flat_len] at hj
     by_cases hl:j+1=t.size
     ·have h4:=flat_last t 0
      rw [List.getLast?_eq_getElem?,T.flat_len] at h4
      have h5:t.size - 1=j:=by omega
      rw [h5] at h4
      have h6:(t.flat 0)[j]? =some (t.flat 0)[j]:=List.getElem?_eq_getElem _
      rw [h4] at h6
      simp only [Option.some.injEq] at h6
      rw [←h6] at h3
      exact absurd h3 h33
     ·omega
    obtain ⟨p,hp',hk⟩:=T.parent t 0 j (by omega) (by omega)
    have hkk:kidK (t.flat 0) (j:Int)=33:=by
     unfold kidK
     rw [Int.toNat_natCast,List.getElem?_eq_getElem hj];exact h3
    have h32:=only_32 (h p hp') hk hkk
    have h1:=h p hp'
    rw [rightP_32 _ p h32 (hkl p hp'),Bool.and_eq_true] at h1
    have hkd:(j:Int)∈p.kids.drop 1:=by
     have hb:=h1.1
     unfold base32 at hb
     simp only [Bool.and_eq_true] at hb
     match hm:p.kids,hk,hb.2 with
     |a::b::ks,hk,hb2=>
      rcases List.mem_cons.1 hk with rfl|hk
      ·simp only [Bool.and_eq_true] at hb2
       rw [hkk] at hb2
       exact absurd hb2.1 (by decide)
      ·simpa using hk
    obtain ⟨i,hi,he⟩:=List.getElem_of_mem hkd
    have hn:kidN (t.flat 0) (j:Int)=((t.flat 0)[j]).d.name:=by
     unfold kidN
     rw [Int.toNat_natCast,List.getElem?_eq_getElem hj]
    rcases (whenOk_iff _ _ _ _).1 h1.2 i hi with h5|⟨h5,_⟩
    ·rw [he,hn] at h5;rw [h5,Bool.or_true]
    ·rw [he,hn] at h5;simp [h5]
   ·rw [←right_eq _ x (hkl x hx) h2 h3];exact h x hx
 ·intro h x hx
  by_cases h2:x.d.kind=32
  ·have h1:=h x hx
   rw [rightR_32 _ x h2,Bool.and_eq_true] at h1
   rw [rightP_32 _ x h2 (hkl x hx),Bool.and_eq_true]
   refine ⟨h1.1,(whenOk_iff _ _ _ _).2 fun j hj=> ?_⟩
   have hb:=h1.1
   unfold base32 at hb
   simp only [Bool.and_eq_true] at hb
   have hkk:kidK (t.flat 0) ((x.kids.drop 1)[j])=33:=by
    match hm:x.kids,hj,hb.2 with
    |a::b::ks,hj,hb2=>
     simp only [Bool.and_eq_true] at hb2
     have:=List.all_eq_true.1 hb2.2 ((b::ks)[j]'(by simpa using hj)) (List.getElem_mem _)
     simpa [isK1] using this
   obtain ⟨y,hy,h3,h4,h5⟩:=kid_mem hkk (by decide)
   have h6:=h y hy
   rw [right_33 _ y h4,Bool.and_eq_true,Bool.or_eq_true] at h6
   rw [h5]
   rcases h6.2 with h7|h7
   ·right
    have h8:y.d.name=[]:=by simpa using h7
    refine ⟨h8, ?_⟩
    by_cases hc:j+2<x.kids.length
    ·exact absurd (h5.trans h8) ((exceptR_iff _ _).1 h1.2 j hj hc)
    ·omega
   ·exact .inl h7
  ·by_cases h3:x.d.kind=33
   ·have:=h x hx
    rw [right_33 _ x h3,Bool.and_eq_true] at this
    exact this.1
   ·rw [right_eq _ x (hkl x hx) h2 h3];exact h x hx
theorem whole_eq (l:List Nd) (root:Nat→Bool) (hr:root 33=false):whole l root=(orderedR l&&root (rootK l)):=by
 unfold whole orderedR
 by_cases hp:postorder l=true
 ·by_cases h4:l.length≤400
  ·by_cases hk:root (rootK l)=true
   ·have h33:rootK l≠33:=fun h=>by rw [h,hr] at hk;cases hk
    rw [right_whole hp h4 h33,hk]
    simp only [Bool.and_true]
   ·have:root (rootK l)=false:=by simpa using hk
    rw [this];simp
  ·simp [h4]
 ·have:postorder l=false:=by simpa using hp
  rw [this];simp
end Go.L02
namespace Go.L02
open Go.Eng
open Go.L01 (Bs Tok)
def AtT (l:List Nd) (i:Nat) (u:T):Prop:=∃pre post,l=pre++(u.flat pre.length++post)∧i+1=pre.length+u.size
theorem T.flat_eq (u:T) (b:Nat):u.flat b=flats b u.kids++[⟨u.d,roots b u.kids⟩]:=by cases u;rfl
theorem T.size_eq (u:T):u.size=sizes u.kids+1:=by cases u;rfl
section
variable {l:List Nd} {i:Nat} {u:T}
theorem AtT.lt (h:AtT l i u):i<l.length:=by
 obtain ⟨pre,post,rfl,h⟩:=h
 rw [List.length_append,List.length_append,T.flat_len];omega
theorem AtT.le (h:AtT l i u):u.size≤i+1:=by obtain ⟨pre,post,rfl,h⟩:=h;omega
theorem AtT.node (h:AtT l i u):l[i]? =some ⟨u.d,roots (i+1 - u.size) u.kids⟩:=by
 obtain ⟨pre,post,rfl,h⟩:=h
 have hs:=u.size_eq
 rw [List.getElem?_append_right (by omega),u.flat_eq,List.append_assoc,List.getElem?_append_right (by rw [flats_len];omega),flats_len]
 have e1:i - pre.length - sizes u.kids=0:=by omega
 have e2:i+1 - u.size=pre.length:=by omega
 rw [e1,e2]
 rfl
theorem roots_get:∀(ks:List T) (b j:Nat) (h:j<ks.length),(roots b ks)[j]? =some (((b+sizes (ks.take (j+1)):Nat):Int) - 1)
 |[],_,_,h=>by simp at h
 |k::ks,b,0,_=>by simp [roots,sizes]
 |k::ks,b,j+1,h=>by
  simp only [roots,List.getElem?_cons_succ]
  rw [roots_get ks (b+k.size) j (by simpa using h),List.take_succ_cons,sizes]
  congr 2;omega
theorem AtT.kid (h:AtT l i u) {j:Nat} (hj:j<u.kids.length):AtT l (i+sizes (u.kids.take (j+1)) - u.size) u.kids[j]:=by
 have hle:=h.le
 obtain ⟨pre,post,rfl,h⟩:=h
 have e:u.kids=u.kids.take j++(u.kids[j]::u.kids.drop (j+1)):=by rw [←List.drop_eq_getElem_cons hj,List.take_append_drop]
 have e2:sizes (u.kids.take (j+1))=sizes (u.kids.take j)+u.kids[j].size:=by rw [List.take_succ_eq_append_getElem hj,sizes_append];simp [sizes]
 have hs:u.size=sizes u.kids+1:=u.size_eq
 have hk:sizes u.kids=sizes (u.kids.take j)+(u.kids[j].size+sizes (u.kids.drop (j+1))):=by conv=>lhs;rw [e,sizes_append,sizes]
 have hpos:=u.kids[j].size_pos
 refine ⟨pre++flats pre.length (u.kids.take j),flats (pre.length+(sizes (u.kids.take j)+u.kids[j].size)) (u.kids.drop (j+1))++([⟨u.d,roots pre.length u.kids⟩]++post), ?_, ?_⟩
 ·rw [u.flat_eq]
  conv=>lhs;rw [e]
  rw [flats_append,flats,List.length_append,flats_len]
  simp only [List.append_assoc,Nat.add_assoc]
  rw [←e]
 ·rw [List.length_append,flats_len,e2];omega
theorem AtT.uniq:∀(n:Nat) {i:Nat} {u v:T},u.size≤n→AtT l i u→AtT l i v→u=v
 |0,_,u,_,hn,_,_=>by have:=u.size_pos;omega
 |n+1,i,u,v,hn,h,h'=>by
  have e:=h.node.symm.trans h'.node
  simp only [Option.some.injEq,Nd.mk.injEq] at e
  obtain ⟨ed,er⟩:=e
  have hlen:u.kids.length=v.kids.length:=by
   have:=congrArg List.length er
   rwa [roots_len,roots_len] at this
  have hk:u.kids=v.kids:=by
   refine List.ext_getElem hlen fun j h1 h2=> ?_
   have a:=h.kid h1
   have b:=h'.kid h2
   have g1:=roots_get u.kids (i+1 - u.size) j h1
   have g2:=roots_get v.kids (i+1 - v.size) j h2
   rw [er,g2] at g1
   have l1:=h.le
   have l2:=h'.le
   have e3:i+sizes (u.kids.take (j+1)) - u.size=i+sizes (v.kids.take (j+1)) - v.size:=by
    have p1:0<sizes (u.kids.take (j+1)):=by rw [List.take_succ_eq_append_getElem h1,sizes_append];have:=u.kids[j].size_pos;simp [sizes];omega
    have p2:0<sizes (v.kids.take (j+1)):=by rw [List.take_succ_eq_append_getElem h2,sizes_append];have:=v.kids[j].size_pos;simp [sizes];omega
    have s1:sizes (u.kids.take (j+1))≤sizes u.kids:=by have:=congrArg sizes (List.take_append_drop (j+1) u.kids);rw [sizes_append] at this;omega
    simp only [Option.some.injEq] at g1
    have q1:=h.le;have q2:=h'.le
    have z1:=u.size_eq;have z2:=v.size_eq
    omega
   rw [←e3] at b
   have hsz:u.kids[j].size≤n:=by
    have z1:=u.size_eq
    have:u.kids[j].size≤sizes u.kids:=by
     conv=>rhs;rw [←List.take_append_drop j u.kids,List.drop_eq_getElem_cons h1,sizes_append,sizes]
     omega
    omega
   exact AtT.uniq n hsz a b
  cases u;cases v
  simp only [T.d,T.kids] at ed hk
  rw [ed,hk]
end
def ind (a b k:Int):Nat:=if a≤k∧k<b then 1 else 0
end Go.L02
namespace Go.L02
open Go Go.Eng Go.RowKit
open Go.Proofs hiding encI
open Go.L01 (Bs Tok encT SlT Own.same retK_c1 isName)
set_option maxRecDepth 100000
set_option maxHeartbeats 2000000
theorem blk_cast {w:World} {B:Nat} {a b:Array Value} {T:TypeId} (h:Blk w B a T) (e:a.toList=b.toList):Blk w B b T:=(Array.toList_inj.1 e)▸h
section
variable {w:World} {lv:Value} {xs:List NV}
end
end Go.L02
namespace Go.L02
open Go.Eng
open Go.L01 (Bs Tok right isWord isSign isName isNumber scan)
def joinB (sep:Bs):List Bs→Bs
 |[]=>[]
 |[x]=>x
 |x::y::ys=>x++(sep++joinB sep (y::ys))
def nth (ss:List Bs) (i:Nat):Bs:=ss.getD i []
def kindAt (ks:List T) (i:Nat):Nat:=match ks[i]? with|some t=>t.d.kind|none=>0
def opd (k:Nat) (s:Bs):Bs:=if k=6 then [40]++(s++[41]) else s
def callHead (d:D):Bs:=if d.vr≠[] then d.vr++([36]++d.name) else if d.typ≠[] then d.name++([123]++(d.typ++[125])) else d.name
def xtD (d:D) (ks:List T) (ss:List Bs):Bs:=
 if d.kind=1 then Lib.itoa d.n
 else if d.kind=2 then (if d.n=1 then [116,114,117,101] else [102,97,108,115,101])
 else if d.kind=3 then [110,105,108]
 else if d.kind=4 then d.name
 else if d.kind=5 then callHead d++([40]++(joinB [44,32] ss++[41]))
 else if d.kind=6 then (if ks.length=1 then [110,111,116,32]++opd (kindAt ks 0) (nth ss 0) else opd (kindAt ks 0) (nth ss 0)++([32]++(d.name++([32]++opd (kindAt ks 1) (nth ss 1)))))
 else if d.kind=7 then opd (kindAt ks 0) (nth ss 0)++([91]++(nth ss 1++[93]))
 else if d.kind=8 then opd (kindAt ks 0) (nth ss 0)++([46]++d.name)
 else if d.kind=9 then [117,112,40]++(nth ss 0++[41])
 else [100,111,119,110,40]++(nth ss 0++[41])
mutual
def xt:T→Bs| .mk d ks=>xtD d ks (xts ks)
def xts:List T→List Bs|[]=>[] |t::ts=>xt t::xts ts
end
def ot (t:T):Bs:=opd t.d.kind (xt t)
def semi1 (l:List Bs):List Bs:=l.dropLast++(match l.getLast? with|some s=>[s++[59]] |none=>[])
def semis:List (List Bs)→List Bs
 |[]=>[]
 |[l]=>l
 |l::m::ls=>semi1 l++semis (m::ls)
def ind2 (l:List Bs):List Bs:=l.map ([32,32]++ ·)
def xk (ks:List T) (i:Nat):Bs:=match ks[i]? with|some t=>xt t|none=>[]
def ok (ks:List T) (i:Nat):Bs:=match ks[i]? with|some t=>ot t|none=>[]
def lineD (d:D) (ks:List T):Bs:=
 if d.kind=21 then [118,97,114,32]++(d.name++([58,32]++(d.typ++([32,58,61,32]++xk ks 0))))
 else if d.kind=22 then d.name++([32,58,61,32]++xk ks 0)
 else if d.kind=23 then ok ks 0++([91]++(xk ks 1++([93,32,58,61,32]++xk ks 2)))
 else if d.kind=24 then ok ks 0++([46]++(d.name++([32,58,61,32]++xk ks 1)))
 else if d.kind=25 then xk ks 0
 else if d.kind=37 then [112,117,116,32]++xk ks 0
 else if d.kind=30 then [121,105,101,108,100,32]++xk ks 0
 else if d.kind=31 then [115,105,103,110,97,108,32]++d.name
 else if d.kind=34 then [98,114,101,97,107]
 else if ks.length=0 then [114,101,116,117,114,110] else [114,101,116,117,114,110,32]++xk ks 0
def whenName (s:Bs):Bs:=if s=[] then [111,116,104,101,114,115] else s
mutual
def stL:T→List Bs
 | .mk d ks=>
  if d.kind=26 then condL [105,102] ks++[[101,110,100]]
  else if d.kind=27 then ([119,104,105,108,101,32]++(xk ks 0++[32,100,111]))::(blkL 1 ks++[[101,110,100]])
  else if d.kind=28 then ([102,111,114,32]++(d.name++([58,32]++(d.typ++([32,105,110,32]++(xk ks 0++[32,100,111]))))))::(blkL 1 ks++[[101,110,100]])
  else if d.kind=32 then [98,101,103,105,110]::(blkL 0 ks++([101,120,99,101,112,116]::(whensT ks++[[101,110,100]])))
  else if d.kind=35 then ([116,97,103,99,97,115,101,32]++xk ks 0)::(armsT ks++[[101,110,100]])
  else [lineD d ks]
def stLs:List T→List (List Bs)|[]=>[] |t::ts=>stL t::stLs ts
def blkL:Nat→List T→List Bs
 |_,[]=>[]
 |0, .mk _ qs::_=>ind2 (semis (stLs qs))
 |i+1,_::ks=>blkL i ks
def condL:Bs→List T→List Bs
 |word,[c, .mk _ qs]=>(word++([32]++(xt c++[32,116,104,101,110])))::ind2 (semis (stLs qs))
 |word,[c, .mk _ qs, .mk _ rs]=>(word++([32]++(xt c++[32,116,104,101,110])))::(ind2 (semis (stLs qs))++elseL (ind2 (semis (stLs rs))) rs)
 |_,_=>[]
def elseL:List Bs→List T→List Bs
 |ls,[.mk d ks]=>if d.kind=26 then condL [101,108,115,101,105,102] ks else [101,108,115,101]::ls
 |ls,_=>[101,108,115,101]::ls
def whensT:List T→List Bs|[]=>[] |_::ts=>whensL ts
def armsT:List T→List Bs|[]=>[] |_::ts=>armsL ts
def whensL:List T→List Bs
 |[]=>[]
 | .mk d ks::ts=>([119,104,101,110,32]++(whenName d.name++[58]))::(blkL 0 ks++whensL ts)
def armsL:List T→List Bs
 |[]=>[]
 | .mk d ks::ts=>([116,97,103,32]++(d.name++([40]++(d.vr++([58,32]++(d.typ++[41,58]))))))::(blkL 0 ks++armsL ts)
end
end Go.L02
