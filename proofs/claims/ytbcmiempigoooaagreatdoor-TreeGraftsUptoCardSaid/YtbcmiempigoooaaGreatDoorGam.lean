/- Lemmas for a claim about layer 2 (tree). No conditions but those they state. -/
import Derived.Test.YtbcmiempigoooaaGreatDoorGal
import Derived.Test.YtbcmiempigoooaaGreatDoorProg
import Derived.KernelRfl
set_option linter.all false
namespace Go.Eng
open Go Go.Proofs
theorem sE {V:List Nat} {args:Array Value} {i:Nat} (h:V.contains i=true) (a:i≠gS):xX V args i=args.getD i undef:=by
 unfold xX;rw [if_neg a,if_pos (by simpa using h)]
abbrev C0 (f n:Nat) (V:List Nat) (ir:IR) (rs:List RV):Prop:=∀{w:World} {R:Ending→World→Prop},(∀ρ:qa,ir.wp ⟨Tryz.prog,n,V,[]⟩ (qC rs R) (je rs R) ρ w)→Calls Tryz.prog f #[] w R
theorem c0 (a:List Nat) {f n:Nat} {fn:Func} {V:List Nat} {ir:IR} {rs:List RV} (i:Tryz.prog.funcs[f]? =some fn) (l:fn.body=some (fn.body.getD .skip):=by rfl) (b:(qY Tryz.prog fn.ntmps V a (fn.body.getD .skip)).map IR.norm=some ir:=by kernel_rfl) (c:vv Tryz.prog V fn.results.toList=some rs:=by kernel_rfl) (e:(xu fn V&&Nat.ble 0 fn.ntmps&&Nat.beq fn.ntmps n)=true:=by kernel_rfl):C0 f n V ir rs:=by
 simp only [Bool.and_eq_true] at e;obtain ⟨⟨k,g⟩,a3⟩:=e;have j:=Nat.eq_of_beq_eq_true a3;subst j;exact fun {w R} h=>Q0 (args:= #[]) i l b k c (Nat.le_of_ble_eq_true g) (h _)
abbrev C1 (f n:Nat) (V:List Nat) (ir:IR) (rs:List RV):Prop:=∀{v0:Value} {w:World} {R:Ending→World→Prop},(∀ρ:qa,ρ 0=v0→ir.wp ⟨Tryz.prog,n,V,[]⟩ (qC rs R) (je rs R) ρ w)→Calls Tryz.prog f #[v0] w R
theorem c1 (a:List Nat) {f n:Nat} {fn:Func} {V:List Nat} {ir:IR} {rs:List RV} (i:Tryz.prog.funcs[f]? =some fn) (l:fn.body=some (fn.body.getD .skip):=by rfl) (b:(qY Tryz.prog fn.ntmps V a (fn.body.getD .skip)).map IR.norm=some ir:=by kernel_rfl) (c:vv Tryz.prog V fn.results.toList=some rs:=by kernel_rfl) (e:(xu fn V&&Nat.ble 1 fn.ntmps&&Nat.beq fn.ntmps n&&V.contains 0)=true:=by kernel_rfl):C1 f n V ir rs:=by
 simp only [Bool.and_eq_true] at e;obtain ⟨⟨⟨k,g⟩,a3⟩,b0⟩:=e;have j:=Nat.eq_of_beq_eq_true a3;subst j;exact fun {v0 w R} h=>Q0 (args:= #[v0]) i l b k c (Nat.le_of_ble_eq_true g) (h _ (sE b0 (by decide)))
abbrev C2 (f n:Nat) (V:List Nat) (ir:IR) (rs:List RV):Prop:=∀{v0 v1:Value} {w:World} {R:Ending→World→Prop},(∀ρ:qa,ρ 0=v0→ρ 1=v1→ir.wp ⟨Tryz.prog,n,V,[]⟩ (qC rs R) (je rs R) ρ w)→Calls Tryz.prog f #[v0,v1] w R
theorem c2 (a:List Nat) {f n:Nat} {fn:Func} {V:List Nat} {ir:IR} {rs:List RV} (i:Tryz.prog.funcs[f]? =some fn) (l:fn.body=some (fn.body.getD .skip):=by rfl) (b:(qY Tryz.prog fn.ntmps V a (fn.body.getD .skip)).map IR.norm=some ir:=by kernel_rfl) (c:vv Tryz.prog V fn.results.toList=some rs:=by kernel_rfl) (e:(xu fn V&&Nat.ble 2 fn.ntmps&&Nat.beq fn.ntmps n&&V.contains 0&&V.contains 1)=true:=by kernel_rfl):C2 f n V ir rs:=by
 simp only [Bool.and_eq_true] at e;obtain ⟨⟨⟨⟨k,g⟩,a3⟩,b0⟩,m⟩:=e;have j:=Nat.eq_of_beq_eq_true a3;subst j;exact fun {v0 o w R} h=>Q0 (args:= #[v0,o]) i l b k c (Nat.le_of_ble_eq_true g) (h _ (sE b0 (by decide)) (sE m (by decide)))
abbrev C3 (f n:Nat) (V:List Nat) (ir:IR) (rs:List RV):Prop:=∀{v0 v1 v2:Value} {w:World} {R:Ending→World→Prop},(∀ρ:qa,ρ 0=v0→ρ 1=v1→ρ 2=v2→ir.wp ⟨Tryz.prog,n,V,[]⟩ (qC rs R) (je rs R) ρ w)→Calls Tryz.prog f #[v0,v1,v2] w R
theorem c3 (a:List Nat) {f n:Nat} {fn:Func} {V:List Nat} {ir:IR} {rs:List RV} (j:Tryz.prog.funcs[f]? =some fn) (m:fn.body=some (fn.body.getD .skip):=by rfl) (b:(qY Tryz.prog fn.ntmps V a (fn.body.getD .skip)).map IR.norm=some ir:=by kernel_rfl) (c:vv Tryz.prog V fn.results.toList=some rs:=by kernel_rfl) (e:(xu fn V&&Nat.ble 3 fn.ntmps&&Nat.beq fn.ntmps n&&V.contains 0&&V.contains 1&&V.contains 2)=true:=by kernel_rfl):C3 f n V ir rs:=by
 simp only [Bool.and_eq_true] at e;obtain ⟨⟨⟨⟨⟨l,i⟩,a3⟩,b0⟩,o⟩,b2⟩:=e;have k:=Nat.eq_of_beq_eq_true a3;subst k;exact fun {v0 p g w R} h=>Q0 (args:= #[v0,p,g]) j m b l c (Nat.le_of_ble_eq_true i) (h _ (sE b0 (by decide)) (sE o (by decide)) (sE b2 (by decide)))
abbrev C4 (f n:Nat) (V:List Nat) (ir:IR) (rs:List RV):Prop:=∀{v0 v1 v2 v3:Value} {w:World} {R:Ending→World→Prop},(∀ρ:qa,ρ 0=v0→ρ 1=v1→ρ 2=v2→ρ 3=v3→ir.wp ⟨Tryz.prog,n,V,[]⟩ (qC rs R) (je rs R) ρ w)→Calls Tryz.prog f #[v0,v1,v2,v3] w R
theorem c4 (a:List Nat) {f n:Nat} {fn:Func} {V:List Nat} {ir:IR} {rs:List RV} (j:Tryz.prog.funcs[f]? =some fn) (m:fn.body=some (fn.body.getD .skip):=by rfl) (b:(qY Tryz.prog fn.ntmps V a (fn.body.getD .skip)).map IR.norm=some ir:=by kernel_rfl) (c:vv Tryz.prog V fn.results.toList=some rs:=by kernel_rfl) (e:(xu fn V&&Nat.ble 4 fn.ntmps&&Nat.beq fn.ntmps n&&V.contains 0&&V.contains 1&&V.contains 2&&V.contains 3)=true:=by kernel_rfl):C4 f n V ir rs:=by
 simp only [Bool.and_eq_true] at e;obtain ⟨⟨⟨⟨⟨⟨l,i⟩,a3⟩,b0⟩,o⟩,b2⟩,b3⟩:=e;have k:=Nat.eq_of_beq_eq_true a3;subst k;exact fun {v0 p g v3 w R} h=>Q0 (args:= #[v0,p,g,v3]) j m b l c (Nat.le_of_ble_eq_true i) (h _ (sE b0 (by decide)) (sE o (by decide)) (sE b2 (by decide)) (sE b3 (by decide)))
abbrev C5 (f n:Nat) (V:List Nat) (ir:IR) (rs:List RV):Prop:=∀{v0 v1 v2 v3 v4:Value} {w:World} {R:Ending→World→Prop},(∀ρ:qa,ρ 0=v0→ρ 1=v1→ρ 2=v2→ρ 3=v3→ρ 4=v4→ir.wp ⟨Tryz.prog,n,V,[]⟩ (qC rs R) (je rs R) ρ w)→Calls Tryz.prog f #[v0,v1,v2,v3,v4] w R
theorem c5 (a:List Nat) {f n:Nat} {fn:Func} {V:List Nat} {ir:IR} {rs:List RV} (j:Tryz.prog.funcs[f]? =some fn) (m:fn.body=some (fn.body.getD .skip):=by rfl) (b:(qY Tryz.prog fn.ntmps V a (fn.body.getD .skip)).map IR.norm=some ir:=by kernel_rfl) (c:vv Tryz.prog V fn.results.toList=some rs:=by kernel_rfl) (e:(xu fn V&&Nat.ble 5 fn.ntmps&&Nat.beq fn.ntmps n&&V.contains 0&&V.contains 1&&V.contains 2&&V.contains 3&&V.contains 4)=true:=by kernel_rfl):C5 f n V ir rs:=by
 simp only [Bool.and_eq_true] at e;obtain ⟨⟨⟨⟨⟨⟨⟨l,i⟩,a3⟩,b0⟩,o⟩,b2⟩,b3⟩,b4⟩:=e;have k:=Nat.eq_of_beq_eq_true a3;subst k;exact fun {v0 p g v3 v4 w R} h=>Q0 (args:= #[v0,p,g,v3,v4]) j m b l c (Nat.le_of_ble_eq_true i) (h _ (sE b0 (by decide)) (sE o (by decide)) (sE b2 (by decide)) (sE b3 (by decide)) (sE b4 (by decide)))
abbrev C6 (f n:Nat) (V:List Nat) (ir:IR) (rs:List RV):Prop:=∀{v0 v1 v2 v3 v4 v5:Value} {w:World} {R:Ending→World→Prop},(∀ρ:qa,ρ 0=v0→ρ 1=v1→ρ 2=v2→ρ 3=v3→ρ 4=v4→ρ 5=v5→ir.wp ⟨Tryz.prog,n,V,[]⟩ (qC rs R) (je rs R) ρ w)→Calls Tryz.prog f #[v0,v1,v2,v3,v4,v5] w R
theorem c6 (a:List Nat) {f n:Nat} {fn:Func} {V:List Nat} {ir:IR} {rs:List RV} (j:Tryz.prog.funcs[f]? =some fn) (o:fn.body=some (fn.body.getD .skip):=by rfl) (b:(qY Tryz.prog fn.ntmps V a (fn.body.getD .skip)).map IR.norm=some ir:=by kernel_rfl) (c:vv Tryz.prog V fn.results.toList=some rs:=by kernel_rfl) (e:(xu fn V&&Nat.ble 6 fn.ntmps&&Nat.beq fn.ntmps n&&V.contains 0&&V.contains 1&&V.contains 2&&V.contains 3&&V.contains 4&&V.contains 5)=true:=by kernel_rfl):C6 f n V ir rs:=by
 simp only [Bool.and_eq_true] at e;obtain ⟨⟨⟨⟨⟨⟨⟨⟨m,i⟩,a3⟩,b0⟩,p⟩,b2⟩,b3⟩,b4⟩,k⟩:=e;have l:=Nat.eq_of_beq_eq_true a3;subst l;exact fun {v0 s g v3 v4 v5 w R} h=>Q0 (args:= #[v0,s,g,v3,v4,v5]) j o b m c (Nat.le_of_ble_eq_true i) (h _ (sE b0 (by decide)) (sE p (by decide)) (sE b2 (by decide)) (sE b3 (by decide)) (sE b4 (by decide)) (sE k (by decide)))
end Go.Eng
namespace Go.L02
open Go Go.Eng Go.Proofs
set_option maxRecDepth 100000
set_option maxHeartbeats 2000000
noncomputable def qnb:Code:=((Tryz.f54.body).getD .skip)
noncomputable def qbF:IR:=zq [zE 16 (.makeFunc (.func 116) #[] #[zt 5,zt 2,zt 6,zt 4]) 1, .eff none none (.defer {callee:= .value (zt 16),args:= #[],argTypes:= #[]}) 0,zm 17 1,zE 18 (.call {callee:= .value (zt 17),args:= #[],argTypes:= #[]}) 0,zw 4 (zt 4) (.const (zb true))] <| .ret
noncomputable def qdy:IR:=zq [zE 2 (.box 83 (zt 0)) 0,zA 4 4] <| .seq (.raw (qL qnb 1)) (qbF)
def qai:List Nat:=zV 19 [3]
theorem qzd:(qY Tryz.prog Tryz.f54.ntmps qai [1] (Tryz.f54.body.getD .skip)).map IR.norm=some qdy:=by kernel_rfl
theorem qna {v0 a:Value} {w:World} {R:Ending→World→Prop} (h:∀ρ:qa,ρ 0=v0→ρ 1=a→ρ gS= .tuple #[]→qdy.wp ⟨Tryz.prog,19,qai,wF⟩ (ve Tryz.prog [.cell1 4] R .returning) (zj Tryz.prog [.cell1 4] R) ρ w):
  Calls Tryz.prog 54 #[v0,a] w R:=by
 obtain ⟨e,b,g⟩:=Option.map_eq_some_iff.1 qzd;exact qsq (args:= #[v0,a]) Tryz.func54 (c:=(Tryz.f54.body.getD .skip)) rfl b g (by kernel_rfl) (show vv Tryz.prog qai Tryz.f54.results.toList=some [.cell1 4] by kernel_rfl) (Nat.le_of_ble_eq_true rfl) (h _ rfl rfl rfl)
noncomputable def qgu:OT:=zy 7 (zl (zv 2))<|zy 8 (zN (zv 7))<|zy 9 (zf 1 (zv 8))<|zy 10 (zl (zv 9))<|zy 11 (zl (zv 2))<|zy 12 (zN (zv 11))<|zy 13 (zf 3 (zv 12))<|zy 14 (zl (zv 13))<|zy 15 (zL (zv 14))<| .both (.step (zA 5 3) true<| .step (zA 6 3) true<| .step (zw 3 (zt 5) (zt 10)) true<| .step (zw 3 (zt 6) (zt 15)) false<| .done)<| .step (zA 6 3) true<| .step (zA 5 3) true<| .step (zw 3 (zt 5) (zt 10)) true<| .step (zw 3 (zt 6) (zt 15)) false<| .done
theorem qm9:vD Tryz.prog 19 qai 12 (qL qnb 1)=some qgu:=by kernel_rfl
noncomputable def qq5:Code:=((Tryz.f116.body).getD .skip)
noncomputable def qq4:IR:= .raw (qL qq5 5)
def qd1:List Nat:=zV 31 [15]
noncomputable def qq3:OT:=zy 18 (zl (zv 1))<|zy 19 (zl (zv 1))<|zy 20 (zl (zv 0))<|zy 21 (zl (zv 1))<|zy 22 (zN (zv 21))<|zy 23 (zf 3 (zv 22))<|zy 24 (zl (zv 23))<|zy 25 (zl (zv 2))<|zy 26 (.op3 (.slLoHi 6) (zv 24) (zK 0) (zv 25))<|zy 27 (zN (zv 18))<|zy 28 (zf 1 (zv 27))<| .step (zw 3 (zt 28) (zt 20)) true<| .step (za 29 (zN (zv 19))) false<| .step (za 30 (zf 3 (zv 29))) false<| .step (zw 29 (zt 30) (zt 26)) false<| .step (zw 4 (zt 3) (.const (zb false))) false<| .done
theorem qB8:vD Tryz.prog 31 qd1 12 (qL qq5 5)=some qq3:=by kernel_rfl
noncomputable def qqN:Code:=((Tryz.f142.body).getD .skip)
noncomputable def qqM:IR:= .ret
noncomputable def qqL:IR:=zq [zE 29 (.build 53 #[]) 53,zw 53 (zt 4) (zt 29)] <| .ret
noncomputable def qhA:IR:= .seq (.cond (zv 16) (.seq (.raw (qL qqN 2)) (qqM)) .skip) (qqL)
noncomputable def qqP:IR:=zq [zA 4 53] <| .seq (.drw [za 16 (zI .lss (zI .add (zo 1 (zN (zv 0))) (zv 1)) (zL (zo 0 (zN (zv 0)))))]) (qhA)
def qqO:List Nat:=zV 30 [2,3,5,6,7,8,9,10,11,12,13,14,15]
theorem qBT:C2 142 30 qqO qqP [.cellN 4 3]:=c2 [2] Tryz.func142
noncomputable def qqK:OT:=zy 17 (zv 0)<|zy 18 (zN (zv 17))<|zy 19 (zf 0 (zv 18))<|zy 20 (zl (zv 19))<|zy 21 (zv 0)<|zy 22 (zN (zv 21))<|zy 23 (zf 1 (zv 22))<|zy 24 (zl (zv 23))<|zy 25 (zv 1)<|zy 26 (zI .add (zv 24) (zv 25))<| .step (za 27 (zx 3 (zv 20) (zv 26))) false<| .step (za 28 (zM 3 (zv 27))) false<| .step (zw 53 (zt 4) (zt 28)) false<| .done
theorem qBS:vD Tryz.prog 30 qqO 10 (qL qqN 2)=some qqK:=by kernel_rfl
noncomputable def qqQ:IR:=zq [za 4 (zQ false),zm 6 0,zc 7 142 #[zt 6,zO 0] #[83,3] 53,zA 5 53,zw 53 (zt 5) (zt 7),za 16 (.ite (zB .eql (zo 0 (zv 5)) (.const (zu 2))) (zQ true) (zB .eql (zo 0 (zv 5)) (.const (zu 4)))),zg 16 true 17 (zv 1),zg 16 true 19 (zo 1 (zv 5)),zh 16 true 20 160 #[zt 17,zt 19] #[51,9] 4,za 4 (.ite (zv 16) (zv 20) (zQ false))] <| .ret
def qBV:List Nat:=[0,1,4,5,6,7,16,17,19,20]
theorem qBU:C2 141 22 qBV qqQ [.tmp 4]:=c2 [] Tryz.func141
noncomputable def qq1:IR:=zq [zm 10 0,za 14 (zI .add (zo 1 (zN (zv 10))) (zK 1)),za 16 (zf 1 (zN (zv 10))),zw 3 (zt 16) (zt 14),za 4 (zQ true)] <| .ret
noncomputable def qq2:IR:=zq [za 4 (zQ false),zm 5 0,zm 6 1,zE 7 (.buildSlice 51 1 #[(0,(zt 6))]) 51,zc 8 141 #[zt 5,zt 7] #[83,51] 4,za 9 (zn (zv 8))] <| .seq (.cond (zv 9) (zq [za 4 (zQ false)] <| .ret) .skip) (qq1)
def qB7:List Nat:=zV 17 [2,3,11,12,13,15]
theorem qB6:C2 117 17 qB7 qq2 [.tmp 4]:=c2 [] Tryz.func117
noncomputable def qqi:IR:= .reg [za 8 (zI .add (zv 8) (zK 1))]
noncomputable def qqh:IR:= .seq (.block 1 (zq [za 5 (zl (zx 1 (zv 6) (zv 8))),zm 12 0,zm 13 5,zc 14 117 #[zt 12,zt 13] #[83,9] 4,za 15 (zn (zv 14))] <| .cond (zv 15) (.reg [zm 16 0,zc 17 143 #[zt 16] #[83] 0]) .skip)) (qqi)
noncomputable def qhm:IR:=zq [za 9 (zI .lss (zv 8) (zv 7))] <| .seq (.cond (zv 9) .skip (.exit 0)) (qqh)
noncomputable def qqj:IR:=zq [zm 6 1,za 7 (zL (zv 6)),za 8 (zK 0)] <| .block 0 (.loop qhm)
def qBy:List Nat:=zV 18 [2,3,4,10,11]
theorem qBx:C2 153 19 qBy qqj []:=c2 [] Tryz.func153
noncomputable def qqZ:IR:=zq [zm 11 0,za 15 (zI .add (zo 1 (zN (zv 11))) (zK 1)),za 17 (zf 1 (zN (zv 11))),zw 3 (zt 17) (zt 15),za 2 (zo 1 (zv 3))] <| .ret
noncomputable def qq0:IR:=zq [za 2 (.const (zs #[])),zm 4 0,zc 5 142 #[zt 4,zO 0] #[83,3] 53,zA 3 53,zw 53 (zt 3) (zt 5),za 8 (zB .neq (zo 0 (zv 3)) (.const (zu 1)))] <| .seq (.cond (zv 8) (.reg [zm 9 0,zc 10 143 #[zt 9] #[83] 0]) .skip) (qqZ)
def qB5:List Nat:=zV 18 [1,6,7,12,13,14,16]
theorem qB4:C1 120 20 qB5 qq0 [.tmp 2]:=c1 [] Tryz.func120
noncomputable def qqH:Code:=((Tryz.f143.body).getD .skip)
noncomputable def qqG:IR:= .reg [zE 14 (.build 153 #[]) 153,za 15 (.op1 (.mkif 153) (zv 14)), .eff none none (.panic (zt 15)) 0]
noncomputable def qqJ:IR:= .seq (.raw (qL qqH 0)) (qqG)
def qqI:List Nat:=zV 16 [1]
theorem qBR:C1 143 16 qqI qqJ []:=c1 [0] Tryz.func143
noncomputable def qqF:OT:=zy 2 (zv 0)<|zy 3 (zv 0)<|zy 4 (zN (zv 3))<|zy 5 (zf 2 (zv 4))<|zy 6 (zl (zv 5))<|zy 7 (zv 0)<|zy 8 (zN (zv 7))<|zy 9 (zf 1 (zv 8))<|zy 10 (zl (zv 9))<| .step (zE 11 (.call {callee:= .builtin .max,args:= #[zt 6,zt 10],argTypes:= #[3,3]}) 3) true<| .step (za 12 (zN (zv 2))) false<| .step (za 13 (zf 2 (zv 12))) false<| .step (zw 3 (zt 13) (zt 11)) false<| .done
theorem qBQ:vD Tryz.prog 16 qqI 10 (qL qqH 0)=some qqF:=by kernel_rfl
noncomputable def qgt:IR:= .cond (zv 11) (.reg [zm 12 0,zc 13 143 #[zt 12] #[83] 0]) .skip
noncomputable def qm8:IR:= .seq (.drw [za 11 (zI .lss (zo 1 (zN (zv 0))) (zL (zo 0 (zN (zv 0)))))]) (qgt)
def qzc:List Nat:=[0,11,12,13]
theorem qzb:C1 63 14 qzc qm8 []:=c1 [] Tryz.func63
noncomputable def qqa:IR:= .reg [zm 15 0,za 19 (zI .add (zo 1 (zN (zv 15))) (zK 1)),za 21 (zf 1 (zN (zv 15))),zw 3 (zt 21) (zt 19)]
noncomputable def qqb:IR:=zq [zm 3 0,zc 4 142 #[zt 3,zO 0] #[83,3] 53,zA 2 53,zw 53 (zt 2) (zt 4),za 12 (.ite (zB .neq (zo 0 (zv 2)) (.const (zu 1))) (zQ true) (zS .neq (zo 1 (zv 2)) (.const (zs #[116]))))] <| .seq (.cond (zv 12) (.reg [zm 13 0,zc 14 143 #[zt 13] #[83] 0]) .skip) (qqa)
def qBs:List Nat:=[0,2,3,4,12,13,14,15,19,21]
theorem qBr:C1 156 22 qBs qqb []:=c1 [] Tryz.func156
noncomputable def qm3:IR:= .block 0 (zq [zm 12 0,zc 13 117 #[zt 12,zY #[105,110,116]] #[83,9] 4,zm 14 13,zg 14 false 15 (zv 0),zh 14 false 16 117 #[zt 15,zY #[98,111,111,108]] #[83,9] 4,za 18 (.ite (zv 14) (zQ true) (zv 16)),zg 18 false 19 (zv 0),zh 18 false 20 117 #[zt 19,zY #[110,117,108,108]] #[83,9] 4,za 11 (.ite (zv 18) (zQ true) (zv 20))] <| .cond (zv 11) .skip (zq [zm 23 0,zc 24 117 #[zt 23,zY #[97,114,114,97,121]] #[83,9] 4,zm 22 24] <| .cond (zv 22) (.reg [zm 25 0,zE 26 (.buildSlice 51 1 #[(0,(zY #[91]))]) 51,zc 27 153 #[zt 25,zt 26] #[83,51] 0,zm 28 0,zc 29 72 #[zt 28] #[83] 0,zm 30 0,zE 31 (.buildSlice 51 1 #[(0,(zY #[93]))]) 51,zc 32 153 #[zt 30,zt 31] #[83,51] 0]) (zq [zm 34 0,zc 35 117 #[zt 34,zY #[114,101,99,111,114,100]] #[83,9] 4,zm 36 35,zg 36 false 37 (zv 0),zh 36 false 38 117 #[zt 37,zY #[111,110,101,111,102]] #[83,9] 4,za 33 (.ite (zv 36) (zQ true) (zv 38))] <| .cond (zv 33) (.reg [zm 40 0,zE 41 (.buildSlice 51 1 #[(0,(zY #[91]))]) 51,zc 42 153 #[zt 40,zt 41] #[83,51] 0,zm 43 0,zm 44 0,zE 45 (.makeFunc (.func 155) #[zt 44] #[]) 129,zc 46 154 #[zt 43,zt 45] #[83,129] 51,zm 47 0,zE 48 (.buildSlice 51 1 #[(0,(zY #[93]))]) 51,zc 49 153 #[zt 47,zt 48] #[83,51] 0]) (zq [zm 51 0,zc 52 117 #[zt 51,zY #[63]] #[83,9] 4,zm 50 52] <| .cond (zv 50) (.reg [zm 53 0,zc 54 156 #[zt 53] #[83] 0]) (zq [zm 2 0,zc 3 120 #[zt 2] #[83] 9,zm 4 0,zc 5 117 #[zt 4,zY #[91]] #[83,9] 4] <| .cond (zv 5) (.reg [zm 6 0,zc 7 72 #[zt 6] #[83] 0,zm 8 0,zE 9 (.buildSlice 51 1 #[(0,(zY #[93]))]) 51,zc 10 153 #[zt 8,zt 9] #[83,51] 0]) .skip)))))
def qy4:List Nat:=zV 55 [1,17,21,39]
theorem qy3:C1 72 55 qy4 qm3 []:=c1 [] Tryz.func72
noncomputable def qqc:IR:=zq [za 2 (.const (zs #[])),zm 3 0,zc 4 120 #[zt 3] #[83] 9,zm 5 0,zE 6 (.buildSlice 51 1 #[(0,(zY #[58]))]) 51,zc 7 153 #[zt 5,zt 6] #[83,51] 0,zm 8 0,zc 9 72 #[zt 8] #[83] 0,za 2 (.const (zs #[]))] <| .ret
def qBu:List Nat:=zV 10 [1]
theorem qBt:C1 155 10 qBu qqc [.tmp 2]:=c1 [] Tryz.func155
noncomputable def qqf:IR:= .block 1 (.reg [zm 11 5,zm 12 1,zE 13 (.call {callee:= .value (zt 12),args:= #[],argTypes:= #[]}) 9,zE 14 (.buildSlice 51 1 #[(0,(zt 13))]) 51,zp 15 #[zt 11,zt 14] #[51,51] 51,zm 5 15])
noncomputable def qqd:IR:=zq [zm 9 0,zc 10 117 #[zt 9,zY #[44]] #[83,9] 4] <| .seq (.cond (zv 10) .skip (.exit 0)) (qqf)
noncomputable def qqe:IR:=zq [zm 4 5] <| .ret
noncomputable def qqg:IR:=zq [za 4 (.const (.slice none 0 0)),zm 6 1,zE 7 (.call {callee:= .value (zt 6),args:= #[],argTypes:= #[]}) 9,zE 8 (.buildSlice 51 1 #[(0,(zt 7))]) 51,zm 5 8] <| .seq (.block 0 (.loop qqd)) (qqe)
def qBw:List Nat:=zV 16 [2,3]
theorem qBv:C2 154 17 qBw qqg [.tmp 4]:=c2 [] Tryz.func154
noncomputable def qm1:IR:= .reg [za 8 (zI .add (zv 8) (zK 1))]
noncomputable def qm0:IR:= .seq (.block 1 (.reg [za 11 (zM 3 (zx 3 (zv 6) (zv 8))),zA 5 53,zw 53 (zt 5) (zt 11),za 13 (zo 1 (zv 5)),zc 14 89 #[zt 3,zt 13] #[114,9] 127])) (qm1)
noncomputable def qgs:IR:=zq [za 9 (zI .lss (zv 8) (zv 7))] <| .seq (.cond (zv 9) .skip (.exit 0)) (qm0)
noncomputable def qmZ:IR:=zq [zc 16 90 #[zt 3] #[114] 9,zm 2 16] <| .ret
noncomputable def qm2:IR:=zq [za 2 (.const (zs #[])),zA 3 114,zm 6 0,za 7 (zL (zv 6)),za 8 (zK 0)] <| .seq (.block 0 (.loop qgs)) (qmZ)
def qy2:List Nat:=zV 17 [1,4,10,12,15]
theorem qy1:C1 73 17 qy2 qm2 [.tmp 2]:=c1 [] Tryz.func73
end Go.L02
namespace Go.L01
open Go Go.Eng Go.Proofs
set_option maxRecDepth 100000
set_option maxHeartbeats 2000000
noncomputable def qdx:IR:=zq [za 2 (zQ false),za 11 (.ite (zI .gtr (zT (zv 0)) (zK 0)) (zI .leq (zT (zv 0)) (zK 12)) (zQ false)),zg 11 true 13 (.op2 .ixs (zv 0) (zK 0)),zh 11 true 14 162 #[zt 13] #[188] 4,za 16 (.ite (zv 11) (zv 14) (zQ false)),zg 16 true 17 (zv 0),zh 16 true 18 163 #[zt 17,(.func 164)] #[9,190] 3,za 21 (.ite (zv 16) (zI .lss (zv 18) (zK 0)) (zQ false)),zg 21 true 22 (zv 0),zh 21 true 23 166 #[zt 22] #[9] 4,za 2 (.ite (zv 21) (zn (zv 23)) (zQ false))] <| .ret
def qyW:List Nat:=[0,2,11,13,14,16,17,18,21,22,23]
theorem qyV:C1 77 26 qyW qdx [.tmp 2]:=c1 [] Tryz.func77
noncomputable def qdw:IR:=zq [za 2 (zQ false),za 11 (.ite (zI .gtr (zT (zv 0)) (zK 0)) (zI .leq (zT (zv 0)) (zK 12)) (zQ false)),zg 11 true 13 (.op2 .ixs (zv 0) (zK 0)),zh 11 true 14 167 #[zt 13] #[5] 4,za 16 (.ite (zv 11) (zv 14) (zQ false)),zg 16 true 17 (zv 0),zh 16 true 18 168 #[zt 17] #[9] 3,za 23 (.ite (zv 16) (zI .eql (zv 18) (zT (zv 0))) (zQ false)),zg 23 true 24 (zv 0),zh 23 true 25 169 #[zt 24] #[9] 4,za 2 (.ite (zv 23) (zn (zv 25)) (zQ false))] <| .ret
def qyS:List Nat:=[0,2,11,13,14,16,17,18,23,24,25]
theorem qyR:C1 79 28 qyS qdw [.tmp 2]:=c1 [] Tryz.func79
noncomputable def qpX:IR:=zq [za 2 (zQ false),zc 3 233 #[] #[] 144,zm 4 0,zE 5 (.lookup 144 (zt 3) (zt 4) false) 4,zm 2 5] <| .ret
def qBd:List Nat:=zV 6 [1]
theorem qBc:C1 166 6 qBd qpX [.tmp 2]:=c1 [] Tryz.func166
noncomputable def qpU:IR:=zq [za 2 (zQ false),zc 3 236 #[] #[] 51,zm 4 0,zc 5 235 #[zt 3,zt 4] #[51,9] 4,zm 2 5] <| .ret
def qA7:List Nat:=zV 6 [1]
theorem qA6:C1 169 6 qA7 qpU [.tmp 2]:=c1 [] Tryz.func169
noncomputable def qn5:IR:=zq [za 0 (.const (.slice none 0 0)),zc 1 332 #[zY #[97,110,100,32,97,114,114,97,121,32,98,101,103,105,110,32,98,111,111,108,32,98,114,101,97,107,32,99,108,117,115,116,101,114,32,100,111,32,100,111,119,110,32,101,108,115,101,32,101,108,115,101,105,102,32,101,110,100,32,101,120,99,101,112,116,32,102,97,108,115,101,32,102,111,114,32,104,97,115,32,105,102,32,105,110,32,105,110,116,32,105,115,32,105,116,101,114,32,109,111,100,32,110,105,108,32,110,111,116,32,110,117,108,108,32,111,110,101,111,102,32,111,114,32,111,116,104,101,114,115,32,112,114,111,99,32,112,117,116,32,114,101,99,111,114,100,32,114,101,112,32,114,101,116,117,114,110,32,114,101,116,117,114,110,115,32,115,105,103,110,97,108,32,115,105,103,110,97,108,115,32,116,97,103,32,116,97,103,99,97,115,101,32,116,104,101,110,32,116,114,117,101,32,117,112,32,118,97,114,32,119,104,101,110,32,119,104,101,114,101,32,119,104,105,108,101,32,121,105,101,108,100,32,121,105,101,108,100,115]] #[9] 51,zm 0 1] <| .ret
def qzJ:List Nat:=[0,1]
theorem qzI:C0 286 2 qzJ qn5 [.tmp 0]:=c0 [] Tryz.func286
noncomputable def qoO:IR:=zq [za 0 (.const (.slice none 0 0)),zE 1 (.buildSlice 51 46 #[(0,(zY #[97,110,100])),(1,(zY #[97,114,114,97,121])),(2,(zY #[98,101,103,105,110])),(3,(zY #[98,111,111,108])),(4,(zY #[98,114,101,97,107])),(5,(zY #[99,108,117,115,116,101,114])),(6,(zY #[100,111])),(7,(zY #[100,111,119,110])),(8,(zY #[101,108,115,101])),(9,(zY #[101,108,115,101,105,102])),(10,(zY #[101,110,100])),(11,(zY #[101,120,99,101,112,116])),(12,(zY #[102,97,108,115,101])),(13,(zY #[102,111,114])),(14,(zY #[104,97,115])),(15,(zY #[105,102])),(16,(zY #[105,110])),(17,(zY #[105,110,116])),(18,(zY #[105,115])),(19,(zY #[105,116,101,114])),(20,(zY #[109,111,100])),(21,(zY #[110,105,108])),(22,(zY #[110,111,116])),(23,(zY #[110,117,108,108])),(24,(zY #[111,110,101,111,102])),(25,(zY #[111,114])),(26,(zY #[111,116,104,101,114,115])),(27,(zY #[112,114,111,99])),(28,(zY #[112,117,116])),(29,(zY #[114,101,99,111,114,100])),(30,(zY #[114,101,112])),(31,(zY #[114,101,116,117,114,110])),(32,(zY #[114,101,116,117,114,110,115])),(33,(zY #[115,105,103,110,97,108])),(34,(zY #[115,105,103,110,97,108,115])),(35,(zY #[116,97,103])),(36,(zY #[116,97,103,99,97,115,101])),(37,(zY #[116,104,101,110])),(38,(zY #[116,114,117,101])),(39,(zY #[117,112])),(40,(zY #[118,97,114])),(41,(zY #[119,104,101,110])),(42,(zY #[119,104,101,114,101])),(43,(zY #[119,104,105,108,101])),(44,(zY #[121,105,101,108,100])),(45,(zY #[121,105,101,108,100,115]))]) 51,zm 0 1] <| .ret
def qAl:List Nat:=[0,1]
theorem qAk:C0 236 2 qAl qoO [.tmp 0]:=c0 [] Tryz.func236
noncomputable def qnO:IR:=zq [za 0 (.const (.slice none 0 0)),zc 2 332 #[zY #[36,32,40,32,41,32,42,32,43,32,44,32,45,32,46,32,47,32,58,32,58,61,32,59,32,60,32,60,61,32,61,32,63,32,91,32,93,32,95,32,123,32,125]] #[9] 51,zm 1 2,zm 3 1,zc 4 195 #[zt 3] #[51] 0,zm 0 1] <| .ret
def qzt:List Nat:=zV 5 []
theorem qzs:C0 310 6 qzt qnO [.tmp 0]:=c0 [] Tryz.func310
noncomputable def qou:IR:=zq [za 0 (.const (.slice none 0 0)),zE 1 (.buildSlice 51 21 #[(0,(zY #[36])),(1,(zY #[40])),(2,(zY #[41])),(3,(zY #[42])),(4,(zY #[43])),(5,(zY #[44])),(6,(zY #[45])),(7,(zY #[46])),(8,(zY #[47])),(9,(zY #[58])),(10,(zY #[58,61])),(11,(zY #[59])),(12,(zY #[60])),(13,(zY #[60,61])),(14,(zY #[61])),(15,(zY #[63])),(16,(zY #[91])),(17,(zY #[93])),(18,(zY #[95])),(19,(zY #[123])),(20,(zY #[125]))]) 51,zm 0 1] <| .ret
def qz6:List Nat:=[0,1]
theorem qz5:C0 246 2 qz6 qou [.tmp 0]:=c0 [] Tryz.func246
noncomputable def qne:Code:=((Tryz.f53.body).getD .skip)
noncomputable def qnd:IR:= .ret
noncomputable def qng:IR:=zq [za 2 (.const (.slice none 0 0)),zA 3 26,zm 8 0,zc 9 115 #[zt 8] #[9] 122,zm 7 9,za 10 (ze 0 (zv 7)),za 11 (ze 1 (zv 7)),za 12 (ze 2 (zv 7)),zA 6 26,zm 4 10,zm 5 11,zw 26 (zt 6) (zt 12)] <| .seq (.raw (qL qne 2)) (qnd)
def qnf:List Nat:=zV 15 [1]
theorem qzf:C1 53 15 qnf qng [.tmp 2, .cellN 3 2]:=c1 [2] Tryz.func53
noncomputable def qnc:OT:=zy 13 (zv 4)<|zy 14 (zM 2 (zv 6))<|zy 2 (zv 13)<| .step (zw 26 (zt 3) (zt 14)) false<| .done
theorem qze:vD Tryz.prog 15 qnf 3 (qL qne 2)=some qnc:=by kernel_rfl
noncomputable def qnL:Code:=((Tryz.f33.body).getD .skip)
noncomputable def qnK:IR:= .ret
noncomputable def qnN:IR:=zq [za 2 (.const (.slice none 0 0)),zA 3 26,zm 8 0,zc 9 87 #[zt 8] #[9] 122,zm 7 9,za 10 (ze 0 (zv 7)),za 11 (ze 1 (zv 7)),za 12 (ze 2 (zv 7)),zA 6 26,zm 4 10,zm 5 11,zw 26 (zt 6) (zt 12)] <| .seq (.raw (qL qnL 2)) (qnK)
def qnM:List Nat:=zV 15 [1]
theorem qzr:C1 33 15 qnM qnN [.tmp 2, .cellN 3 2]:=c1 [2] Tryz.func33
noncomputable def qnJ:OT:=zy 13 (zv 4)<|zy 14 (zM 2 (zv 6))<|zy 2 (zv 13)<| .step (zw 26 (zt 3) (zt 14)) false<| .done
theorem qzq:vD Tryz.prog 15 qnM 3 (qL qnL 2)=some qnJ:=by kernel_rfl
noncomputable def qp1:IR:=zq [za 2 (zQ false),za 2 (.ite (zB .geq (zv 0) (.const (zu 97))) (zB .leq (zv 0) (.const (zu 122))) (zQ false))] <| .ret
def qBk:List Nat:=[0,2]
theorem qBj:C1 162 9 qBk qp1 [.tmp 2]:=c1 [] Tryz.func162
noncomputable def qp0:IR:=zq [za 4 (zK 0),zm 5 0,zm 6 1,zc 7 231 #[zt 5,zt 6,(.const (zb true))] #[9,190,4] 3,zm 4 7] <| .ret
def qBi:List Nat:=zV 8 [2,3]
theorem qBh:C2 163 8 qBi qp0 [.tmp 4]:=c2 [] Tryz.func163
noncomputable def qdU:IR:=zq [za 2 (zQ false),za 5 (.op2 (.ibin .gtr .i32) (zv 0) (.const (.int .i32 126))),zg 5 false 7 (.op1 (.conv .u8) (zv 0)),zh 5 false 8 165 #[zt 7] #[188] 4,za 2 (.ite (zv 5) (zQ true) (zn (zv 8)))] <| .ret
def qBg:List Nat:=[0,2,5,7,8]
theorem qpZ:C1 164 11 qBg qdU [.tmp 2]:=c1 [] Tryz.func164
noncomputable def qpY:IR:=zq [za 2 (zQ false),zm 3 0,zc 4 162 #[zt 3] #[188] 4,zm 5 4,zg 5 false 6 (zv 0),zh 5 false 7 232 #[zt 6] #[188] 4,za 2 (.ite (zv 5) (zQ true) (zv 7))] <| .ret
def qBf:List Nat:=zV 8 [1]
theorem qBe:C1 165 9 qBf qpY [.tmp 2]:=c1 [] Tryz.func165
noncomputable def qpW:IR:=zq [za 2 (zQ false),za 2 (.ite (zB .geq (zv 0) (.const (zu 97))) (zB .leq (zv 0) (.const (zu 122))) (zQ false))] <| .ret
def qBb:List Nat:=[0,2]
theorem qBa:C1 167 9 qBb qpW [.tmp 2]:=c1 [] Tryz.func167
noncomputable def qhj:IR:= .block 1 (.reg [za 3 (zI .add (zv 3) (zK 1))])
noncomputable def qhh:IR:=zq [za 8 (zI .lss (zv 3) (zT (zv 0))),zg 8 true 11 (.op2 .ixs (zv 0) (zv 3)),zh 8 true 12 167 #[zt 11] #[5] 4,zg 8 true 13 (zv 12),zg 13 false 16 (.op2 .ixs (zv 0) (zv 3)),zh 13 false 17 234 #[zt 16] #[5] 4,za 19 (.ite (zv 8) (.ite (zv 13) (zQ true) (zv 17)) (zQ false))] <| .seq (.cond (zv 19) .skip (.exit 0)) (qhj)
noncomputable def qhi:IR:=zq [zm 2 3] <| .ret
noncomputable def qpV:IR:=zq [za 2 (zK 0),za 3 (zK 0)] <| .seq (.block 0 (.loop qhh)) (qhi)
def qA9:List Nat:=[0,2,3,8,11,12,13,16,17,19]
theorem qA8:C1 168 23 qA9 qpV [.tmp 2]:=c1 [] Tryz.func168
noncomputable def qoW:IR:= .reg [za 7 (zI .add (zv 7) (zK 1))]
noncomputable def qoV:IR:= .seq (.block 1 (.reg [za 3 (zl (zx 1 (zv 5) (zv 7))),zm 11 1,zm 12 3, .eff none none (.mapUpdate 144 (zt 11) (zt 12) (.const (zb true))) 0])) (qoW)
noncomputable def qgZ:IR:=zq [za 8 (zI .lss (zv 7) (zv 6))] <| .seq (.cond (zv 8) .skip (.exit 0)) (qoV)
noncomputable def qoU:IR:=zq [zm 0 1] <| .ret
noncomputable def qoX:IR:=zq [za 0 (.const (.map none)),zE 4 (.makeMap 144 none) 144,zm 1 4,zc 5 286 #[] #[] 51,za 6 (zL (zv 5)),za 7 (zK 0)] <| .seq (.block 0 (.loop qgZ)) (qoU)
def qAr:List Nat:=zV 13 [2,9,10]
theorem qAq:C0 233 15 qAr qoX [.tmp 0]:=c0 [] Tryz.func233
noncomputable def qoR:IR:= .reg [za 5 (zI .add (zv 5) (zK 1))]
noncomputable def qoQ:IR:= .seq (.block 1 (zq [za 17 (zS .eql (zl (zx 1 (zv 0) (zv 5))) (zv 1))] <| .cond (zv 17) (zq [za 4 (zQ true)] <| .ret) .skip)) (qoR)
noncomputable def qgY:IR:=zq [za 9 (zI .lss (zv 5) (zL (zv 0)))] <| .seq (.cond (zv 9) .skip (.exit 0)) (qoQ)
noncomputable def qoP:IR:=zq [za 4 (zQ false)] <| .ret
noncomputable def qoS:IR:=zq [za 4 (zQ false),za 5 (zK 0)] <| .seq (.block 0 (.loop qgY)) (qoP)
def qAn:List Nat:=[0,1,4,5,9,17]
theorem qAm:C2 235 18 qAn qoS [.tmp 4]:=c2 [] Tryz.func235
noncomputable def qhE:Code:=((Tryz.f115.body).getD .skip)
noncomputable def qbL:Code:=(qcG qhE).getD 0 .skip
noncomputable def qq7:IR:= .ret
noncomputable def qd2:IR:= .seq (.raw (qL qhE 8)) (qq7)
noncomputable def qq6:IR:=zq [zE 11 (.makeFunc (.func 200) #[] #[zt 2,zt 3,zt 4]) 1, .eff none none (.defer {callee:= .value (zt 11),args:= #[],argTypes:= #[]}) 0,zm 12 0,zE 13 (.build 215 #[(0,(zt 12)),(2,(zO 1))]) 215,zE 14 (.build 217 #[(0,(zt 13))]) 217,zE 15 (.box 217 (zt 14)) 213,zm 5 15,zm 16 5,zE 17 (.makeFunc (.func 201) #[zt 16] #[]) 218] <| .seq (.block 0 (.raw qbL)) (qd2)
noncomputable def qhF:IR:=zq [zA 2 48,zA 3 51,zA 4 26,za 9 (zI .gtr (zT (zv 0)) (zK 20000))] <| .seq (.cond (zv 9) (zq [zE 10 (.build 26 #[(0,(zO 2))]) 26,zw 48 (zt 2) (.const (.slice none 0 0)),zw 51 (zt 3) (.const (.slice none 0 0)),zw 26 (zt 4) (zt 10)] <| .ret) .skip) (qq6)
def yd:List Nat:=zV 29 [1,7,8]
noncomputable def qq9:IR:= .reg [zA 6 53,zw 53 (zt 6) (zt 18)]
noncomputable def qq8:IR:= .block 1 (.reg [za 19 (zl (zv 2)),za 20 (zM 3 (zv 6)),zE 21 (.buildSlice 48 1 #[(0,(zt 20))]) 48,zp 22 #[zt 19,zt 21] #[48,48] 48,zw 48 (zt 2) (zt 22)])
theorem qB9:∃A B,qbL= .rangeFunc (.tmp 17) #[18] A B∧Part Tryz.prog 29 yd A qq9∧Part Tryz.prog 29 yd B qq8:=
 ⟨rfA qbL,rfB qbL,by kernel_rfl,⟨by kernel_rfl,by kernel_rfl⟩,⟨by kernel_rfl,by kernel_rfl⟩⟩
theorem qCa:(qY Tryz.prog Tryz.f115.ntmps yd [8] (Tryz.f115.body.getD .skip)).map IR.norm=some qhF:=by kernel_rfl
theorem qCc {v0:Value} {w:World} {R:Ending→World→Prop} (h:∀ρ:qa,ρ 0=v0→ρ gS= .tuple #[]→qhF.wp ⟨Tryz.prog,29,yd,wF⟩ (ve Tryz.prog [.cell1 2, .cell1 3, .cellN 4 2] R .returning) (zj Tryz.prog [.cell1 2, .cell1 3, .cellN 4 2] R) ρ w):
  Calls Tryz.prog 115 #[v0] w R:=by
 obtain ⟨b,a,e⟩:=Option.map_eq_some_iff.1 qCa;exact qsq (args:= #[v0]) Tryz.func115 (c:=(Tryz.f115.body.getD .skip)) rfl a e (by kernel_rfl) (show vv Tryz.prog yd Tryz.f115.results.toList=some [.cell1 2, .cell1 3, .cellN 4 2] by kernel_rfl) (Nat.le_of_ble_eq_true rfl) (h _ rfl rfl)
noncomputable def qhD:OT:=zy 23 (zl (zv 2))<|zy 24 (zv 5)<|zy 25 (zN (zv 24))<|zy 26 (zf 3 (zv 25))<|zy 27 (zl (zv 26))<| .both (.step (zE 28 (.build 26 #[]) 26) true<| .step (zw 48 (zt 2) (zt 23)) true<| .step (zw 51 (zt 3) (zt 27)) true<| .step (zw 26 (zt 4) (zt 28)) false<| .done)<| .step (zw 48 (zt 2) (zt 23)) true<| .both (.step (zE 28 (.build 26 #[]) 26) true<| .step (zw 51 (zt 3) (zt 27)) true<| .step (zw 26 (zt 4) (zt 28)) false<| .done)<| .step (zw 51 (zt 3) (zt 27)) true<| .step (zE 28 (.build 26 #[]) 26) true<| .step (zw 26 (zt 4) (zt 28)) false<| .done
theorem qCb:vD Tryz.prog 29 yd 8 (qL qhE 8)=some qhD:=by kernel_rfl
noncomputable def qmt:IR:= .reg [zm 37 5,zm 38 10,za 44 (.op3 .stLoHi (zv 0) (zv 8) (zI .add (zv 8) (zv 11))),zm 45 7,zE 46 (.build 53 #[(0,(zt 38)),(1,(zt 44)),(2,(zt 45))]) 53,zE 47 (.buildSlice 48 1 #[(0,(zt 46))]) 48,zp 48 #[zt 37,zt 47] #[48,48] 48,zm 5 48,za 8 (zI .add (zv 8) (zv 11))]
noncomputable def qbD:IR:= .cond (zv 58) (.reg [za 8 (zI .add (zv 8) (zK 1))]) (zq [za 63 (zB .eql (zv 23) (.const (zu 37)))] <| .cond (zv 63) (.reg [za 67 (.op2 .stLo (zv 0) (zv 8)),zc 68 175 #[zt 67] #[9] 3,zm 9 68,zm 69 6,za 75 (.op3 .stLoHi (zv 0) (zv 8) (zI .add (zv 8) (zv 9))),zE 76 (.buildSlice 51 1 #[(0,(zt 75))]) 51,zp 77 #[zt 69,zt 76] #[51,51] 51,zm 6 77,za 8 (zI .add (zv 8) (zv 9))]) (zq [za 27 (.op2 .stLo (zv 0) (zv 8)),zc 28 176 #[zt 27] #[9] 194,zm 24 28,za 29 (ze 0 (zv 24)),za 30 (ze 1 (zv 24)),za 31 (ze 2 (zv 24)),zm 10 29,zm 11 30,zm 12 31,za 33 (zI .neq (zv 12) (zK 0))] <| .seq (.cond (zv 33) (zq [zm 34 12,zm 35 7,zE 36 (.build 26 #[(0,(zt 34)),(1,(zt 35))]) 26,za 2 (.const (.slice none 0 0)),za 3 (.const (.slice none 0 0)),zw 26 (zt 4) (zt 36)] <| .ret) .skip) (qmt)))
noncomputable def qms:IR:= .block 1 (zq [za 23 (.op2 .ixs (zv 0) (zv 8))] <| .block 2 (zq [za 52 (zB .eql (zv 23) (.const (zu 10)))] <| .cond (zv 52) (.reg [za 7 (zI .add (zv 7) (zK 1)),za 8 (zI .add (zv 8) (zK 1))]) (zq [za 58 (zB .eql (zv 23) (.const (zu 32)))] <| .seq (.cond (zv 58) .skip (.reg [za 58 (zB .eql (zv 23) (.const (zu 9)))])) (qbD))))
noncomputable def qgn:IR:=zq [za 20 (zI .lss (zv 8) (zT (zv 0)))] <| .seq (.cond (zv 20) .skip (.exit 0)) (qms)
noncomputable def qmr:IR:=zq [zm 81 5,zm 82 6,zE 83 (.build 26 #[]) 26,zm 2 81,zm 3 82,zw 26 (zt 4) (zt 83)] <| .ret
noncomputable def qmq:IR:=zq [za 5 (.const (.slice none 0 0)),za 6 (.const (.slice none 0 0)),za 7 (zK 1),za 8 (zK 0)] <| .seq (.block 0 (.loop qgn)) (qmr)
noncomputable def qmu:IR:=zq [za 2 (.const (.slice none 0 0)),za 3 (.const (.slice none 0 0)),zA 4 26,za 15 (zI .gtr (zT (zv 0)) (zK 20000))] <| .seq (.cond (zv 15) (zq [zE 16 (.build 26 #[(0,(zO 2))]) 26,za 2 (.const (.slice none 0 0)),za 3 (.const (.slice none 0 0)),zw 26 (zt 4) (zt 16)] <| .ret) .skip) (qmq)
def qyI:List Nat:=zV 84 [1,13,14,17,18,19,21,22,25,26,32,39,40,41,42,43,49,50,51,53,54,55,56,57,59,60,61,62,64,65,66,70,71,72,73,74,78,79,80]
theorem qyH:C1 87 84 qyI qmu [.tmp 2, .tmp 3, .cellN 4 2]:=c1 [] Tryz.func87
noncomputable def qo1:IR:= .block 1 (zq [za 13 (ze 1 (zv 11)),za 14 (ze 2 (zv 11)),zm 7 13,zm 8 14,zm 15 1,zm 16 8,zE 17 (.call {callee:= .value (zt 15),args:= #[zt 16],argTypes:= #[21]}) 4,za 19 (.op2 (.bbin .eql) (zv 17) (zv 2))] <| .cond (zv 19) (zq [zm 6 7] <| .ret) .skip)
noncomputable def qoZ:IR:=zq [zE 11 (.next (zt 10) true) 0,za 12 (ze 0 (zv 11))] <| .seq (.cond (zv 12) .skip (.exit 0)) (qo1)
noncomputable def qo0:IR:=zq [za 6 (.const (.int .i64 (-1)))] <| .ret
noncomputable def qo2:IR:=zq [za 6 (zK 0),zm 9 0,zE 10 (.range 9 (zt 9)) 0] <| .seq (.block 0 (.loop qoZ)) (qo0)
def qAv:List Nat:=zV 20 [3,4,5,18]
theorem qAu:C3 231 21 qAv qo2 [.tmp 6]:=c3 [] Tryz.func231
noncomputable def qoY:IR:=zq [za 2 (zQ false),za 2 (.ite (zB .geq (zv 0) (.const (zu 48))) (zB .leq (zv 0) (.const (zu 57))) (zQ false))] <| .ret
def qAt:List Nat:=[0,2]
theorem qAs:C1 232 9 qAt qoY [.tmp 2]:=c1 [] Tryz.func232
noncomputable def qoT:IR:=zq [za 2 (zQ false),za 2 (.ite (zB .geq (zv 0) (.const (zu 48))) (zB .leq (zv 0) (.const (zu 57))) (zQ false))] <| .ret
def qAp:List Nat:=[0,2]
theorem qAo:C1 234 9 qAp qoT [.tmp 2]:=c1 [] Tryz.func234
noncomputable def qpC:IR:= .reg [zm 18 0,zc 19 266 #[zt 18] #[213] 0]
noncomputable def qpB:IR:= .seq (.block 1 (zq [zm 20 1,zm 21 0,zc 22 267 #[zt 21] #[213] 53,zE 23 (.call {callee:= .value (zt 20),args:= #[zt 22],argTypes:= #[53]}) 4,za 24 (zn (zv 23))] <| .cond (zv 24) (.ret) .skip)) (qpC)
noncomputable def qg8:IR:= .seq (.cond (zv 17) .skip (.exit 0)) (qpB)
noncomputable def qg7:IR:= .seq (.drw [za 17 (zI .lss (zo 1 (zf 0 (zN (zv 0)))) (zT (zo 0 (zf 0 (zN (zv 0))))))]) (qg8)
noncomputable def qpD:IR:=zq [zm 4 0,zc 5 266 #[zt 4] #[213] 0] <| .block 0 (.loop qg7)
def qAX:List Nat:=[0,1,4,5,17,18,19,20,21,22,23,24]
theorem qAW:C2 201 25 qAX qpD []:=c2 [] Tryz.func201
noncomputable def qpN:IR:= .block 1 (.reg [za 3 (zI .add (zv 3) (zK 1))])
noncomputable def qhe:IR:=zq [za 13 (.ite (zI .lss (zv 3) (zT (zv 0))) (zB .neq (.op2 .ixs (zv 0) (zv 3)) (.const (zu 10))) (zQ false))] <| .seq (.cond (zv 13) .skip (.exit 0)) (qpN)
noncomputable def qhf:IR:=zq [zm 2 3] <| .ret
noncomputable def qpO:IR:=zq [za 2 (zK 0),za 3 (zK 0)] <| .seq (.block 0 (.loop qhe)) (qhf)
def qA4:List Nat:=[0,2,3,13]
theorem qA3:C1 175 17 qA4 qpO [.tmp 2]:=c1 [] Tryz.func175
noncomputable def qdR:Code:=((Tryz.f176.body).getD .skip)
noncomputable def qpL:IR:=zq [zm 21 6,za 2 (.const (zu 1)),zm 3 21,za 4 (zK 0)] <| .ret
noncomputable def qhd:IR:=zq [za 20 (zI .gtr (zv 6) (zK 12))] <| .seq (.cond (zv 20) (zq [za 2 (.const (zu 0)),za 3 (zK 0),za 4 (zK 12)] <| .ret) .skip) (qpL)
noncomputable def qpK:IR:=zq [zm 31 7,za 2 (.const (zu 3)),zm 3 31,za 4 (zK 0)] <| .ret
noncomputable def qpJ:IR:=zq [za 2 (.const (zu 0)),za 3 (zK 0),za 4 (zK 10)] <| .ret
noncomputable def qhc:IR:= .seq (.cond (zv 44) (zq [za 2 (.const (zu 4)),za 3 (zK 1),za 4 (zK 0)] <| .ret) .skip) (qpJ)
noncomputable def qhb:IR:= .seq (.raw (qL qdR 16)) (qhc)
noncomputable def qdQ:IR:= .seq (.cond (zv 40) (zq [za 2 (.const (zu 4)),za 3 (zK 2),za 4 (zK 0)] <| .ret) .skip) (qhb)
noncomputable def qpI:IR:= .seq (.raw (qL qdR 14)) (qdQ)
noncomputable def qpH:IR:=zq [zm 22 5,zc 23 234 #[zt 22] #[5] 4] <| .seq (.cond (zv 23) (zq [zm 24 0,zc 25 244 #[zt 24] #[9] 3,zm 7 25,za 28 (.op3 .stLoHi (zv 0) (zK 0) (zv 7)),zc 29 245 #[zt 28] #[9] 4,za 30 (zn (zv 29))] <| .seq (.cond (zv 30) (zq [za 2 (.const (zu 0)),za 3 (zK 0),za 4 (zK 11)] <| .ret) .skip) (qpK)) .skip) (qpI)
noncomputable def qpM:IR:=zq [za 2 (.const (zu 0)),za 3 (zK 0),za 4 (zK 0),za 5 (.op2 .ixs (zv 0) (zK 0)),zm 10 5,zc 11 167 #[zt 10] #[5] 4] <| .seq (.cond (zv 11) (zq [zm 12 0,zc 13 168 #[zt 12] #[9] 3,zm 6 13,za 16 (.op3 .stLoHi (zv 0) (zK 0) (zv 6)),zc 17 169 #[zt 16] #[9] 4] <| .seq (.cond (zv 17) (zq [zm 18 6,za 2 (.const (zu 2)),zm 3 18,za 4 (zK 0)] <| .ret) .skip) (qhd)) .skip) (qpH)
def qdS:List Nat:=zV 45 [1,8,9,14,15,19,26,27]
theorem qA2:C1 176 45 qdS qpM [.tmp 2, .tmp 3, .tmp 4]:=c1 [16,14] Tryz.func176
noncomputable def qha:OT:=zy 32 (zv 0)<|zy 33 (zT (zv 32))<|zy 34 (zI .gtr (zv 33) (zK 1))<|zy 35 (zv 34)<| .take (some (35,true)) 37 (zv 0)<| .take (some (35,true)) 38 (.op3 .stLoHi (zv 37) (zK 0) (zK 2))<| .step (zh 35 true 36 246 #[] #[] 51) true<| .step (zh 35 true 39 235 #[zt 36,zt 38] #[51,9] 4) false<| .step (za 40 (.ite (zv 35) (zv 39) (zQ false))) false<| .done
theorem qA1:vD Tryz.prog 45 qdS 7 (qL qdR 14)=some qha:=by kernel_rfl
noncomputable def qpG:OT:=zy 42 (zv 0)<|zy 43 (.op3 .stLoHi (zv 42) (zK 0) (zK 1))<| .step (zc 41 246 #[] #[] 51) true<| .step (zc 44 235 #[zt 41,zt 43] #[51,9] 4) false<| .done
theorem qA0:vD Tryz.prog 45 qdS 3 (qL qdR 16)=some qpG:=by kernel_rfl
noncomputable def qnP:IR:=zq [za 2 (zQ false),zm 6 0,zc 7 273 #[zt 6] #[9] 127,zm 5 7,za 8 (ze 0 (zv 5)),za 9 (ze 1 (zv 5)),zm 3 8,zm 4 9,zm 10 4,zE 11 (.binOp .eql 126 (zt 10) (.const .nilIface) 126) 4,za 20 (.ite (.ite (zv 11) (zI .geq (zv 3) (zK 0)) (zQ false)) (zI .leq (zv 3) (zK 1000000000)) (zQ false)),zg 20 true 21 (zv 3),zh 20 true 22 171 #[zt 21] #[3] 9,za 2 (.ite (zv 20) (zS .eql (zv 22) (zv 0)) (zQ false))] <| .ret
def qzv:List Nat:=zV 23 [1,12,13,14,15,16,17,18,19]
theorem qzu:C1 309 26 qzv qnP [.tmp 2]:=c1 [] Tryz.func309
noncomputable def qdV:IR:=zq [za 4 (zQ false),zm 5 0,zm 6 1,zc 7 229 #[zt 5,zt 6] #[51,9] 3,za 4 (zI .geq (zv 7) (zK 0))] <| .ret
def qhk:List Nat:=zV 8 [2,3]
theorem qp2:C2 160 9 qhk qdV [.tmp 4]:=c2 [] Tryz.func160
noncomputable def qdE:IR:=zq [za 2 (.ite (zI .lss (zT (zv 0)) (zK 10)) (zQ true) (zS .eql (zv 0) (.const (zs #[49,48,48,48,48,48,48,48,48,48]))))] <| .ret
noncomputable def qdF:IR:=zq [za 2 (zQ false),za 11 (.ite (zI .eql (zT (zv 0)) (zK 0)) (zQ true) (zI .gtr (zT (zv 0)) (zK 10))),zg 11 false 12 (zv 0),zh 11 false 13 244 #[zt 12] #[9] 3,za 27 (.ite (.ite (zv 11) (zQ true) (zI .neq (zv 13) (zT (zv 0)))) (zQ true) (.ite (zI .gtr (zT (zv 0)) (zK 1)) (zB .eql (.op2 .ixs (zv 0) (zK 0)) (.const (zu 48))) (zQ false)))] <| .seq (.cond (zv 27) (zq [za 2 (zQ false)] <| .ret) .skip) (qdE)
def qov:List Nat:=[0,2,11,12,13,27]
theorem qz7:C1 245 35 qov qdF [.tmp 2]:=c1 [] Tryz.func245
noncomputable def qdB:Code:=(qff ((Tryz.f266.body).getD .skip))
noncomputable def qgK:IR:= .raw (qL qdB 8)
noncomputable def qgJ:IR:= .cond (zv 36) (zq [za 51 (zf 0 (zN (zv 0))),zc 52 306 #[zt 51] #[215] 9,zc 53 305 #[zt 52,(.const (zu 10))] #[9,5] 3,zm 3 53,za 55 (zI .lss (zv 3) (zK 0))] <| .seq (.cond (zv 55) (.reg [za 58 (zf 0 (zN (zv 0))),zc 59 306 #[zt 58] #[215] 9,za 3 (zT (zv 59))]) .skip) (qgK)) (.exit 0)
noncomputable def qdA:IR:= .cond (zv 18) (.reg [za 34 (zf 0 (zN (zv 0))),zc 35 304 #[zt 34,zO 1] #[215,3] 9]) (.seq (.drw [za 36 (zB .eql (.op2 .ixs (zo 0 (zf 0 (zN (zv 0)))) (zo 1 (zf 0 (zN (zv 0))))) (.const (zu 37)))]) (qgJ))
noncomputable def qok:IR:= .block 1 (.block 2 (.seq (.raw (qL qdB 2)) (qdA)))
noncomputable def qgI:IR:= .seq (.cond (zv 17) .skip (.exit 0)) (qok)
noncomputable def qgH:IR:= .seq (.drw [za 17 (zI .lss (zo 1 (zf 0 (zN (zv 0)))) (zT (zo 0 (zf 0 (zN (zv 0))))))]) (qgI)
noncomputable def qoj:IR:= .block 0 (.loop qgH)
noncomputable def qgL:IR:=zq [zc 4 303 #[] #[] 289,zE 5 (.index 289 (zt 4) (zO 2)) 288,zm 2 5] <| .seq (.raw (.label 0)) (qoj)
def qak:List Nat:=zV 75 [1,6,7,8,9,10,11,12,13,14,15,16,32,33,37,38,39,40,41,42,43,44,45,46,47,48,49,50,54,56,57,60]
theorem qzY:(qY Tryz.prog Tryz.f266.ntmps qak [8,2] (qff (Tryz.f266.body.getD .skip))).map IR.norm=some qgL:=by kernel_rfl
theorem qz1 {v0:Value} {w:World} {R:Ending→World→Prop} (h:∀ρ:qa,ρ 0=v0→qgL.wp ⟨Tryz.prog,75,qak,[]⟩ (qC [] R) (je [] R) ρ w):
  Calls Tryz.prog 266 #[v0] w R:=by
 obtain ⟨b,a,e⟩:=Option.map_eq_some_iff.1 qzY;exact qsp (args:= #[v0]) Tryz.func266 (c:=(qff (Tryz.f266.body.getD .skip))) rfl a e (by kernel_rfl) (show vv Tryz.prog qak Tryz.f266.results.toList=some [] by kernel_rfl) (Nat.le_of_ble_eq_true rfl) (h _ rfl)
noncomputable def qoi:OT:=zy 19 (zv 2)<|zy 20 (zv 0)<|zy 21 (zN (zv 20))<|zy 22 (zf 0 (zv 21))<|zy 23 (zf 0 (zv 22))<|zy 24 (zl (zv 23))<|zy 25 (zv 0)<|zy 26 (zN (zv 25))<|zy 27 (zf 0 (zv 26))<|zy 28 (zf 1 (zv 27))<|zy 29 (zl (zv 28))<|zy 30 (.op2 .ixs (zv 24) (zv 29))<| .step (zE 31 (.call {callee:= .value (zt 19),args:= #[zt 30],argTypes:= #[188]}) 4) false<| .step (zm 18 31) false<| .done
theorem qz0:vD Tryz.prog 75 qak 12 (qL qdB 2)=some qoi:=by kernel_rfl
noncomputable def qoh:OT:=zy 61 (zv 0)<|zy 62 (zv 0)<|zy 63 (zN (zv 62))<|zy 64 (zf 3 (zv 63))<|zy 65 (zl (zv 64))<|zy 66 (zv 0)<|zy 67 (zN (zv 66))<|zy 68 (zf 0 (zv 67))<|zy 69 (zv 3)<| .step (zc 70 304 #[zt 68,zt 69] #[215,3] 9) true<| .step (zE 71 (.buildSlice 51 1 #[(0,(zt 70))]) 51) true<| .step (zp 72 #[zt 65,zt 71] #[51,51] 51) true<| .step (za 73 (zN (zv 61))) false<| .step (za 74 (zf 3 (zv 73))) false<| .step (zw 51 (zt 74) (zt 72)) false<| .done
theorem qzZ:vD Tryz.prog 75 qak 12 (qL qdB 8)=some qoh:=by kernel_rfl
noncomputable def qaj:Code:=((Tryz.f267.body).getD .skip)
noncomputable def qzW:IR:= .reg [za 83 (zf 0 (zN (zv 0))),zm 84 6,zc 85 304 #[zt 83,zt 84] #[215,3] 9,za 86 (zf 1 (zv 3)),zw 9 (zt 86) (zt 85)]
noncomputable def qgG:IR:=zq [za 69 (zf 0 (zN (zv 0))),zc 70 306 #[zt 69] #[215] 9,za 7 (.op3 .stLoHi (zv 70) (zK 0) (zv 6)),za 73 (zf 0 (zv 3)),zw 5 (zt 73) (.const (zu 1)),zm 74 7,zc 75 166 #[zt 74] #[9] 4] <| .seq (.cond (zv 75) (.reg [za 76 (zf 0 (zv 3)),zw 5 (zt 76) (.const (zu 2))]) (zq [za 78 (zI .gtr (zv 6) (zK 12))] <| .cond (zv 78) (.reg [zm 79 0,zc 80 308 #[zt 79,zO 12] #[213,24] 0]) .skip)) (qzW)
noncomputable def qoe:IR:= .reg [za 106 (zf 0 (zv 3)),zw 5 (zt 106) (.const (zu 3)),za 109 (zf 0 (zN (zv 0))),zm 110 8,zc 111 304 #[zt 109,zt 110] #[215,3] 9,za 112 (zf 1 (zv 3)),zw 9 (zt 112) (zt 111)]
noncomputable def qgF:IR:=zq [za 98 (zf 0 (zN (zv 0))),zc 99 306 #[zt 98] #[215] 9,za 101 (.op3 .stLoHi (zv 99) (zK 0) (zv 8)),zc 102 309 #[zt 101] #[9] 4,za 103 (zn (zv 102))] <| .seq (.cond (zv 103) (.reg [zm 104 0,zc 105 308 #[zt 104,zO 11] #[213,24] 0]) .skip) (qoe)
noncomputable def qgE:IR:= .reg [za 32 (zI .add (zv 32) (zK 1))]
noncomputable def qod:IR:= .seq (.block 2 (zq [za 11 (zl (zx 1 (zv 30) (zv 32))),za 38 (zf 0 (zN (zv 0))),zc 39 306 #[zt 38] #[215] 9,zm 40 11,zc 41 311 #[zt 39,zt 40] #[9,9] 4] <| .cond (zv 41) (.reg [zm 42 9,za 44 (zT (zv 11)),zE 45 (.call {callee:= .builtin .max,args:= #[zt 42,zt 44],argTypes:= #[3,3]}) 3,zm 9 45]) .skip)) (qgE)
noncomputable def qbG:IR:=zq [za 33 (zI .lss (zv 32) (zv 31))] <| .seq (.cond (zv 33) .skip (.exit 1)) (qod)
noncomputable def qoc:IR:= .reg [za 51 (zf 0 (zv 3)),zw 5 (zt 51) (.const (zu 4)),za 54 (zf 0 (zN (zv 0))),zm 55 9,zc 56 304 #[zt 54,zt 55] #[215,3] 9,za 57 (zf 1 (zv 3)),zw 9 (zt 57) (zt 56)]
noncomputable def qdz:IR:=zq [za 48 (zI .eql (zv 9) (zK 0))] <| .seq (.cond (zv 48) (.reg [zm 49 0,zc 50 308 #[zt 49,zO 10] #[213,24] 0]) .skip) (qoc)
noncomputable def QN:IR:=zq [za 113 (zM 3 (zv 3)),zw 53 (zt 2) (zt 113)] <| .ret
noncomputable def qof:IR:= .seq (.block 0 (zq [zm 59 5,zc 60 162 #[zt 59] #[188] 4,zm 58 60] <| .cond (zv 58) (.seq (.raw (qL qaj 16)) (qgG)) (zq [zm 88 5,zc 89 232 #[zt 88] #[188] 4,zm 87 89] <| .cond (zv 87) (.seq (.raw (qL qaj 25)) (qgF)) (zq [za 9 (zK 0),zc 30 310 #[] #[] 51,za 31 (zL (zv 30)),za 32 (zK 0)] <| .seq (.block 1 (.loop qbG)) (qdz))))) (QN)
noncomputable def qog:IR:=zq [zA 2 53,za 16 (zo 2 (zf 0 (zN (zv 0)))),zE 17 (.build 53 #[(2,(zt 16))]) 53,zA 3 53,zw 53 (zt 3) (zt 17),zc 18 303 #[] #[] 289,zA 4 289,zw 289 (zt 4) (zt 18)] <| .seq (.drw [za 5 (.op2 .ixs (zo 0 (zf 0 (zN (zv 0)))) (zo 1 (zf 0 (zN (zv 0)))))]) (qof)
def xB:List Nat:=zV 114 [1,10,12,13,14,15,19,20,21,22,23,24,25,26,27,28,29,34,35,36,37,43,46,47,52,53,67,68,71,72,77,81,82,96,97,100,107,108]
theorem qzX:C1 267 114 xB qog [.cellN 2 3]:=c1 [25,16] Tryz.func267
noncomputable def qob:OT:=zy 61 (zv 0)<|zy 62 (zN (zv 61))<|zy 63 (zf 0 (zv 62))<| .step (zE 64 (.indexAddr 289 (zt 4) (zO 0)) 0) true<|zy 65 (zl (zv 64))<| .step (zc 66 307 #[zt 63,zt 65] #[215,288] 3) false<| .step (zm 6 66) false<| .done
theorem qzV:vD Tryz.prog 114 xB 5 (qL qaj 16)=some qob:=by kernel_rfl
noncomputable def qoa:OT:=zy 90 (zv 0)<|zy 91 (zN (zv 90))<|zy 92 (zf 0 (zv 91))<| .step (zE 93 (.indexAddr 289 (zt 4) (zO 1)) 0) true<|zy 94 (zl (zv 93))<| .step (zc 95 307 #[zt 92,zt 94] #[215,288] 3) false<| .step (zm 8 95) false<| .done
theorem qzU:vD Tryz.prog 114 xB 5 (qL qaj 25)=some qoa:=by kernel_rfl
noncomputable def qow:IR:= .block 1 (.reg [za 3 (zI .add (zv 3) (zK 1))])
noncomputable def qgO:IR:=zq [za 8 (zI .lss (zv 3) (zT (zv 0))),zg 8 true 11 (.op2 .ixs (zv 0) (zv 3)),zh 8 true 12 234 #[zt 11] #[5] 4,za 13 (.ite (zv 8) (zv 12) (zQ false))] <| .seq (.cond (zv 13) .skip (.exit 0)) (qow)
noncomputable def qgP:IR:=zq [zm 2 3] <| .ret
noncomputable def qox:IR:=zq [za 2 (zK 0),za 3 (zK 0)] <| .seq (.block 0 (.loop qgO)) (qgP)
def qz9:List Nat:=[0,2,3,8,11,12,13]
theorem qz8:C1 244 17 qz9 qox [.tmp 2]:=c1 [] Tryz.func244
noncomputable def qdN:IR:= .reg [za 8 (zI .add (zv 8) (zK 1))]
noncomputable def qdM:IR:= .seq (.block 1 (zq [zm 5 8,za 16 (zS .eql (zv 1) (zl (zx 1 (zv 0) (zv 5))))] <| .cond (zv 16) (zq [zm 4 5] <| .ret) .skip)) (qdN)
noncomputable def qbJ:IR:=zq [za 9 (zI .lss (zv 8) (zv 7))] <| .seq (.cond (zv 9) .skip (.exit 0)) (qdM)
noncomputable def qdL:IR:=zq [za 4 (.const (.int .i64 (-1)))] <| .ret
noncomputable def qdO:IR:=zq [za 4 (zK 0),za 7 (zL (zv 0)),za 8 (zK 0)] <| .seq (.block 0 (.loop qbJ)) (qdL)
def qg0:List Nat:=[0,1,4,5,7,8,9,16]
theorem qo5:C2 229 19 qg0 qdO [.tmp 4]:=c2 [] Tryz.func229
noncomputable def qn3:IR:=zq [zA 0 289,zE 1 (.build 289 #[(0,(.func 165)),(1,(.func 232)),(2,(.func 346))]) 289,zw 289 (zt 0) (zt 1)] <| .ret
def qzF:List Nat:=[0,1]
theorem qzE:C0 303 2 qzF qn3 [.cellN 0 3]:=c0 [] Tryz.func303
noncomputable def qn0:Code:=((Tryz.f304.body).getD .skip)
noncomputable def qnZ:IR:=zq [zm 30 0,za 35 (zI .add (zo 1 (zN (zv 30))) (zv 1)),za 37 (zf 1 (zN (zv 30))),zw 3 (zt 37) (zt 35),zm 4 5] <| .ret
noncomputable def qnY:IR:= .seq (.raw (qL qn0 2)) (qnZ)
noncomputable def qn2:IR:=zq [za 4 (.const (zs #[]))] <| .seq (.drw [za 5 (.op3 .stLoHi (zo 0 (zN (zv 0))) (zo 1 (zN (zv 0))) (zI .add (zo 1 (zN (zv 0))) (zv 1)))]) (qnY)
def qn1:List Nat:=[0,1,4,5,21,22,23,24,25,26,27,28,29,30,35,37]
theorem qzD:C2 304 39 qn1 qn2 [.tmp 4]:=c2 [2] Tryz.func304
noncomputable def qnX:OT:=zy 21 (zv 0)<|zy 22 (zN (zv 21))<|zy 23 (zf 2 (zv 22))<|zy 24 (zl (zv 23))<|zy 25 (zv 5)<| .step (zc 26 198 #[zt 25,zY #[10]] #[9,9] 3) true<| .step (za 27 (zI .add (zv 24) (zv 26))) false<| .step (za 28 (zN (zv 21))) false<| .step (za 29 (zf 2 (zv 28))) false<| .step (zw 3 (zt 29) (zt 27)) false<| .done
theorem qzC:vD Tryz.prog 39 qn1 6 (qL qn0 2)=some qnX:=by kernel_rfl
noncomputable def qnV:IR:= .ret
noncomputable def qnW:IR:=zq [za 2 (.const (zs #[]))] <| .seq (.drw [za 2 (.op2 .stLo (zo 0 (zN (zv 0))) (zo 1 (zN (zv 0))))]) (qnV)
def qzB:List Nat:=[0,2]
theorem qzA:C1 306 12 qzB qnW [.tmp 2]:=c1 [] Tryz.func306
noncomputable def qnT:IR:= .reg [za 11 (zI .add (zv 11) (zK 1))]
noncomputable def qnS:IR:= .seq (.block 1 (zq [zm 6 11,zm 14 1,za 17 (.op2 .ixs (zv 5) (zv 6)),zE 18 (.call {callee:= .value (zt 14),args:= #[zt 17],argTypes:= #[188]}) 4,za 19 (zn (zv 18))] <| .cond (zv 19) (zq [zm 4 6] <| .ret) .skip)) (qnT)
noncomputable def qgB:IR:=zq [za 12 (zI .lss (zv 11) (zv 10))] <| .seq (.cond (zv 12) .skip (.exit 0)) (qnS)
noncomputable def qnR:IR:=zq [za 4 (zT (zv 5))] <| .ret
noncomputable def qnU:IR:=zq [za 4 (zK 0),zm 7 0,zc 8 306 #[zt 7] #[318] 9,zm 5 8,za 10 (zT (zv 5)),za 11 (zK 0)] <| .seq (.block 0 (.loop qgB)) (qnR)
def qzz:List Nat:=zV 20 [2,3,9,13,15,16]
theorem qzy:C2 307 24 qzz qnU [.tmp 4]:=c2 [] Tryz.func307
noncomputable def qnQ:IR:= .reg [zm 4 1,za 9 (zo 2 (zf 0 (zN (zv 0)))),zE 10 (.build 26 #[(0,(zt 4)),(1,(zt 9))]) 26,zE 11 (.build 212 #[(0,(zt 10))]) 212,za 12 (.op1 (.mkif 212) (zv 11)), .eff none none (.panic (zt 12)) 0]
def qzx:List Nat:=[0,1,4,9,10,11,12]
theorem qzw:C2 308 13 qzx qnQ []:=c2 [] Tryz.func308
noncomputable def qnI:IR:=zq [za 2 (zQ false),za 2 (.ite (.ite (zB .eql (zv 0) (.const (zu 32))) (zQ true) (zB .eql (zv 0) (.const (zu 9)))) (zQ true) (zB .eql (zv 0) (.const (zu 10))))] <| .ret
def qzp:List Nat:=[0,2]
theorem qzo:C1 346 13 qzp qnI [.tmp 2]:=c1 [] Tryz.func346
noncomputable def qgm:IR:=zq [za 4 (zK 0),za 5 (.const .nilIface),zm 6 0,zc 7 177 #[zt 6] #[111] 0,zm 8 0,za 12 (zo 1 (zN (zv 0))),zm 13 1,zp 14 #[zt 12,zt 13] #[112,9] 112,za 16 (zf 1 (zN (zv 8))),zw 112 (zt 16) (zt 14),za 4 (zT (zv 1)),za 5 (.const .nilIface)] <| .ret
def qyG:List Nat:=zV 17 [2,3,9,10,11,15]
theorem qmp:C2 89 19 qyG qgm [.tmp 4, .tmp 5]:=c2 [] Tryz.func89
end Go.L01
