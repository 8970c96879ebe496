/- Lemmas for a claim about layer 2 (tree). No conditions but those they state. -/
import Derived.Test.YtbcmiempigoooaaGreatDoorBal
import Derived.Test.YtbcmiempigoooaaGreatDoorProg
import Derived.KernelRfl
set_option linter.all false
namespace Go.Eng
open Go Go.Proofs
theorem sE {V:List Nat} {args:Array Value} {i:Nat} (h:V.contains i=true) (a:i≠gS):kn V args i=args.getD i undef:=by
 unfold kn;rw [if_neg a,if_pos (by simpa using h)]
abbrev C0 (f n:Nat) (V:List Nat) (ir:IR) (rs:List RV):Prop:=∀{w:World} {R:Ending→World→Prop},(∀ρ:qa,ir.wp ⟨Tryz.prog,n,V,[]⟩ (qz rs R) (jd rs R) ρ w)→Calls Tryz.prog f #[] w R
theorem c0 (a:List Nat) {f n:Nat} {fn:Func} {V:List Nat} {ir:IR} {rs:List RV} (k:Tryz.prog.funcs[f]? =some fn) (g:fn.body=some (fn.body.getD .skip):=by rfl) (c:(qN Tryz.prog fn.ntmps V a (fn.body.getD .skip)).map IR.norm=some ir:=by kernel_rfl) (b:vu Tryz.prog V fn.results.toList=some rs:=by kernel_rfl) (e:(xG fn V&&Nat.ble 0 fn.ntmps&&Nat.beq fn.ntmps n)=true:=by kernel_rfl):C0 f n V ir rs:=by
 simp only [Bool.and_eq_true] at e;obtain ⟨⟨j,l⟩,a3⟩:=e;have i:=Nat.eq_of_beq_eq_true a3;subst i;exact fun {w R} h=>QO (args:= #[]) k g c j b (Nat.le_of_ble_eq_true l) (h _)
abbrev C1 (f n:Nat) (V:List Nat) (ir:IR) (rs:List RV):Prop:=∀{v0:Value} {w:World} {R:Ending→World→Prop},(∀ρ:qa,ρ 0=v0→ir.wp ⟨Tryz.prog,n,V,[]⟩ (qz rs R) (jd rs R) ρ w)→Calls Tryz.prog f #[v0] w R
theorem c1 (a:List Nat) {f n:Nat} {fn:Func} {V:List Nat} {ir:IR} {rs:List RV} (k:Tryz.prog.funcs[f]? =some fn) (g:fn.body=some (fn.body.getD .skip):=by rfl) (c:(qN Tryz.prog fn.ntmps V a (fn.body.getD .skip)).map IR.norm=some ir:=by kernel_rfl) (b:vu Tryz.prog V fn.results.toList=some rs:=by kernel_rfl) (e:(xG fn V&&Nat.ble 1 fn.ntmps&&Nat.beq fn.ntmps n&&V.contains 0)=true:=by kernel_rfl):C1 f n V ir rs:=by
 simp only [Bool.and_eq_true] at e;obtain ⟨⟨⟨j,l⟩,a3⟩,b0⟩:=e;have i:=Nat.eq_of_beq_eq_true a3;subst i;exact fun {v0 w R} h=>QO (args:= #[v0]) k g c j b (Nat.le_of_ble_eq_true l) (h _ (sE b0 (by decide)))
abbrev C2 (f n:Nat) (V:List Nat) (ir:IR) (rs:List RV):Prop:=∀{v0 v1:Value} {w:World} {R:Ending→World→Prop},(∀ρ:qa,ρ 0=v0→ρ 1=v1→ir.wp ⟨Tryz.prog,n,V,[]⟩ (qz rs R) (jd rs R) ρ w)→Calls Tryz.prog f #[v0,v1] w R
theorem c2 (a:List Nat) {f n:Nat} {fn:Func} {V:List Nat} {ir:IR} {rs:List RV} (m:Tryz.prog.funcs[f]? =some fn) (j:fn.body=some (fn.body.getD .skip):=by rfl) (c:(qN Tryz.prog fn.ntmps V a (fn.body.getD .skip)).map IR.norm=some ir:=by kernel_rfl) (b:vu Tryz.prog V fn.results.toList=some rs:=by kernel_rfl) (e:(xG fn V&&Nat.ble 2 fn.ntmps&&Nat.beq fn.ntmps n&&V.contains 0&&V.contains 1)=true:=by kernel_rfl):C2 f n V ir rs:=by
 simp only [Bool.and_eq_true] at e;obtain ⟨⟨⟨⟨l,o⟩,a3⟩,b0⟩,g⟩:=e;have k:=Nat.eq_of_beq_eq_true a3;subst k;exact fun {v0 i w R} h=>QO (args:= #[v0,i]) m j c l b (Nat.le_of_ble_eq_true o) (h _ (sE b0 (by decide)) (sE g (by decide)))
abbrev C3 (f n:Nat) (V:List Nat) (ir:IR) (rs:List RV):Prop:=∀{v0 v1 v2:Value} {w:World} {R:Ending→World→Prop},(∀ρ:qa,ρ 0=v0→ρ 1=v1→ρ 2=v2→ir.wp ⟨Tryz.prog,n,V,[]⟩ (qz rs R) (jd rs R) ρ w)→Calls Tryz.prog f #[v0,v1,v2] w R
theorem c3 (a:List Nat) {f n:Nat} {fn:Func} {V:List Nat} {ir:IR} {rs:List RV} (m:Tryz.prog.funcs[f]? =some fn) (j:fn.body=some (fn.body.getD .skip):=by rfl) (c:(qN Tryz.prog fn.ntmps V a (fn.body.getD .skip)).map IR.norm=some ir:=by kernel_rfl) (b:vu Tryz.prog V fn.results.toList=some rs:=by kernel_rfl) (e:(xG fn V&&Nat.ble 3 fn.ntmps&&Nat.beq fn.ntmps n&&V.contains 0&&V.contains 1&&V.contains 2)=true:=by kernel_rfl):C3 f n V ir rs:=by
 simp only [Bool.and_eq_true] at e;obtain ⟨⟨⟨⟨⟨l,q⟩,a3⟩,b0⟩,g⟩,b2⟩:=e;have k:=Nat.eq_of_beq_eq_true a3;subst k;exact fun {v0 i o w R} h=>QO (args:= #[v0,i,o]) m j c l b (Nat.le_of_ble_eq_true q) (h _ (sE b0 (by decide)) (sE g (by decide)) (sE b2 (by decide)))
abbrev C4 (f n:Nat) (V:List Nat) (ir:IR) (rs:List RV):Prop:=∀{v0 v1 v2 v3:Value} {w:World} {R:Ending→World→Prop},(∀ρ:qa,ρ 0=v0→ρ 1=v1→ρ 2=v2→ρ 3=v3→ir.wp ⟨Tryz.prog,n,V,[]⟩ (qz rs R) (jd rs R) ρ w)→Calls Tryz.prog f #[v0,v1,v2,v3] w R
theorem c4 (a:List Nat) {f n:Nat} {fn:Func} {V:List Nat} {ir:IR} {rs:List RV} (m:Tryz.prog.funcs[f]? =some fn) (j:fn.body=some (fn.body.getD .skip):=by rfl) (c:(qN Tryz.prog fn.ntmps V a (fn.body.getD .skip)).map IR.norm=some ir:=by kernel_rfl) (b:vu Tryz.prog V fn.results.toList=some rs:=by kernel_rfl) (e:(xG fn V&&Nat.ble 4 fn.ntmps&&Nat.beq fn.ntmps n&&V.contains 0&&V.contains 1&&V.contains 2&&V.contains 3)=true:=by kernel_rfl):C4 f n V ir rs:=by
 simp only [Bool.and_eq_true] at e;obtain ⟨⟨⟨⟨⟨⟨l,q⟩,a3⟩,b0⟩,g⟩,b2⟩,b3⟩:=e;have k:=Nat.eq_of_beq_eq_true a3;subst k;exact fun {v0 i o v3 w R} h=>QO (args:= #[v0,i,o,v3]) m j c l b (Nat.le_of_ble_eq_true q) (h _ (sE b0 (by decide)) (sE g (by decide)) (sE b2 (by decide)) (sE b3 (by decide)))
abbrev C5 (f n:Nat) (V:List Nat) (ir:IR) (rs:List RV):Prop:=∀{v0 v1 v2 v3 v4:Value} {w:World} {R:Ending→World→Prop},(∀ρ:qa,ρ 0=v0→ρ 1=v1→ρ 2=v2→ρ 3=v3→ρ 4=v4→ir.wp ⟨Tryz.prog,n,V,[]⟩ (qz rs R) (jd rs R) ρ w)→Calls Tryz.prog f #[v0,v1,v2,v3,v4] w R
theorem c5 (a:List Nat) {f n:Nat} {fn:Func} {V:List Nat} {ir:IR} {rs:List RV} (m:Tryz.prog.funcs[f]? =some fn) (j:fn.body=some (fn.body.getD .skip):=by rfl) (c:(qN Tryz.prog fn.ntmps V a (fn.body.getD .skip)).map IR.norm=some ir:=by kernel_rfl) (b:vu Tryz.prog V fn.results.toList=some rs:=by kernel_rfl) (e:(xG fn V&&Nat.ble 5 fn.ntmps&&Nat.beq fn.ntmps n&&V.contains 0&&V.contains 1&&V.contains 2&&V.contains 3&&V.contains 4)=true:=by kernel_rfl):C5 f n V ir rs:=by
 simp only [Bool.and_eq_true] at e;obtain ⟨⟨⟨⟨⟨⟨⟨l,q⟩,a3⟩,b0⟩,g⟩,b2⟩,b3⟩,b4⟩:=e;have k:=Nat.eq_of_beq_eq_true a3;subst k;exact fun {v0 i o v3 v4 w R} h=>QO (args:= #[v0,i,o,v3,v4]) m j c l b (Nat.le_of_ble_eq_true q) (h _ (sE b0 (by decide)) (sE g (by decide)) (sE b2 (by decide)) (sE b3 (by decide)) (sE b4 (by decide)))
abbrev C6 (f n:Nat) (V:List Nat) (ir:IR) (rs:List RV):Prop:=∀{v0 v1 v2 v3 v4 v5:Value} {w:World} {R:Ending→World→Prop},(∀ρ:qa,ρ 0=v0→ρ 1=v1→ρ 2=v2→ρ 3=v3→ρ 4=v4→ρ 5=v5→ir.wp ⟨Tryz.prog,n,V,[]⟩ (qz rs R) (jd rs R) ρ w)→Calls Tryz.prog f #[v0,v1,v2,v3,v4,v5] w R
theorem c6 (a:List Nat) {f n:Nat} {fn:Func} {V:List Nat} {ir:IR} {rs:List RV} (o:Tryz.prog.funcs[f]? =some fn) (j:fn.body=some (fn.body.getD .skip):=by rfl) (c:(qN Tryz.prog fn.ntmps V a (fn.body.getD .skip)).map IR.norm=some ir:=by kernel_rfl) (b:vu Tryz.prog V fn.results.toList=some rs:=by kernel_rfl) (e:(xG fn V&&Nat.ble 6 fn.ntmps&&Nat.beq fn.ntmps n&&V.contains 0&&V.contains 1&&V.contains 2&&V.contains 3&&V.contains 4&&V.contains 5)=true:=by kernel_rfl):C6 f n V ir rs:=by
 simp only [Bool.and_eq_true] at e;obtain ⟨⟨⟨⟨⟨⟨⟨⟨m,s⟩,a3⟩,b0⟩,g⟩,b2⟩,b3⟩,b4⟩,k⟩:=e;have l:=Nat.eq_of_beq_eq_true a3;subst l;exact fun {v0 i q v3 v4 v5 w R} h=>QO (args:= #[v0,i,q,v3,v4,v5]) o j c m b (Nat.le_of_ble_eq_true s) (h _ (sE b0 (by decide)) (sE g (by decide)) (sE b2 (by decide)) (sE b3 (by decide)) (sE b4 (by decide)) (sE k (by decide)))
end Go.Eng
namespace Go.L02
open Go Go.Eng Go.Proofs
set_option maxRecDepth 100000
set_option maxHeartbeats 2000000
noncomputable def qmP:Code:=((Tryz.f54.body).getD .skip)
noncomputable def QC:IR:=zq [zE 16 (.makeFunc (.func 116) #[] #[zt 5,zt 2,zt 6,zt 4]) 1, .eff none none (.defer {callee:= .value (zt 16),args:= #[],argTypes:= #[]}) 0,zm 17 1,zE 18 (.call {callee:= .value (zt 17),args:= #[],argTypes:= #[]}) 0,zw 4 (zt 4) (.const (zb true))] <| .ret
noncomputable def qbY:IR:=zq [zE 2 (.box 83 (zt 0)) 0,zA 4 4] <| .seq (.raw (qI qmP 1)) (QC)
def QD:List Nat:=zV 19 [3]
theorem qw9:(qN Tryz.prog Tryz.f54.ntmps QD [1] (Tryz.f54.body.getD .skip)).map IR.norm=some qbY:=by kernel_rfl
theorem qgH {v0 a:Value} {w:World} {R:Ending→World→Prop} (h:∀ρ:qa,ρ 0=v0→ρ 1=a→ρ gS= .tuple #[]→qbY.wp ⟨Tryz.prog,19,QD,ww⟩ (jH Tryz.prog [.cell1 4] R .returning) (vD Tryz.prog [.cell1 4] R) ρ w):
  Calls Tryz.prog 54 #[v0,a] w R:=by
 obtain ⟨b,e,g⟩:=Option.map_eq_some_iff.1 qw9;exact qqn (args:= #[v0,a]) Tryz.func54 (c:=(Tryz.f54.body.getD .skip)) rfl e g (by kernel_rfl) (show vu Tryz.prog QD Tryz.f54.results.toList=some [.cell1 4] by kernel_rfl) (Nat.le_of_ble_eq_true rfl) (h _ rfl rfl rfl)
noncomputable def qdJ:OT:=zy 7 (zl (zv 2))<|zy 8 (zN (zv 7))<|zy 9 (zf 1 (zv 8))<|zy 10 (zl (zv 9))<|zy 11 (zl (zv 2))<|zy 12 (zN (zv 11))<|zy 13 (zf 3 (zv 12))<|zy 14 (zl (zv 13))<|zy 15 (zL (zv 14))<| .both (.step (zA 5 3) true<| .step (zA 6 3) true<| .step (zw 3 (zt 5) (zt 10)) true<| .step (zw 3 (zt 6) (zt 15)) false<| .done)<| .step (zA 6 3) true<| .step (zA 5 3) true<| .step (zw 3 (zt 5) (zt 10)) true<| .step (zw 3 (zt 6) (zt 15)) false<| .done
theorem qgG:vT Tryz.prog 19 QD 12 (qI qmP 1)=some qdJ:=by kernel_rfl
noncomputable def qpl:Code:=((Tryz.f116.body).getD .skip)
noncomputable def qpk:IR:= .raw (qI qpl 5)
def qdY:List Nat:=zV 31 [15]
noncomputable def qpj:OT:=zy 18 (zl (zv 1))<|zy 19 (zl (zv 1))<|zy 20 (zl (zv 0))<|zy 21 (zl (zv 1))<|zy 22 (zN (zv 21))<|zy 23 (zf 3 (zv 22))<|zy 24 (zl (zv 23))<|zy 25 (zl (zv 2))<|zy 26 (.op3 (.slLoHi 6) (zv 24) (zK 0) (zv 25))<|zy 27 (zN (zv 18))<|zy 28 (zf 1 (zv 27))<| .step (zw 3 (zt 28) (zt 20)) true<| .step (za 29 (zN (zv 19))) false<| .step (za 30 (zf 3 (zv 29))) false<| .step (zw 29 (zt 30) (zt 26)) false<| .step (zw 4 (zt 3) (.const (zb false))) false<| .done
theorem qzf:vT Tryz.prog 31 qdY 12 (qI qpl 5)=some qpj:=by kernel_rfl
noncomputable def qo3:Code:=((Tryz.f142.body).getD .skip)
noncomputable def qo2:IR:= .ret
noncomputable def qo1:IR:=zq [zE 29 (.build 53 #[]) 53,zw 53 (zt 4) (zt 29)] <| .ret
noncomputable def qhh:IR:= .seq (.cond (zv 16) (.seq (.raw (qI qo3 2)) (qo2)) .skip) (qo1)
noncomputable def qo5:IR:=zq [zA 4 53] <| .seq (.drw [za 16 (zI .lss (zI .add (zo 1 (zN (zv 0))) (zv 1)) (zL (zo 0 (zN (zv 0)))))]) (qhh)
def qo4:List Nat:=zV 30 [2,3,5,6,7,8,9,10,11,12,13,14,15]
theorem qy3:C2 142 30 qo4 qo5 [.cellN 4 3]:=c2 [2] Tryz.func142
noncomputable def qo0:OT:=zy 17 (zv 0)<|zy 18 (zN (zv 17))<|zy 19 (zf 0 (zv 18))<|zy 20 (zl (zv 19))<|zy 21 (zv 0)<|zy 22 (zN (zv 21))<|zy 23 (zf 1 (zv 22))<|zy 24 (zl (zv 23))<|zy 25 (zv 1)<|zy 26 (zI .add (zv 24) (zv 25))<| .step (za 27 (zx 3 (zv 20) (zv 26))) false<| .step (za 28 (zM 3 (zv 27))) false<| .step (zw 53 (zt 4) (zt 28)) false<| .done
theorem qy2:vT Tryz.prog 30 qo4 10 (qI qo3 2)=some qo0:=by kernel_rfl
noncomputable def qo6:IR:=zq [za 4 (zQ false),zm 6 0,zc 7 142 #[zt 6,zO 0] #[83,3] 53,zA 5 53,zw 53 (zt 5) (zt 7),za 16 (.ite (zB .eql (zo 0 (zv 5)) (.const (zu 2))) (zQ true) (zB .eql (zo 0 (zv 5)) (.const (zu 4)))),zg 16 true 17 (zv 1),zg 16 true 19 (zo 1 (zv 5)),zh 16 true 20 160 #[zt 17,zt 19] #[51,9] 4,za 4 (.ite (zv 16) (zv 20) (zQ false))] <| .ret
def qy5:List Nat:=[0,1,4,5,6,7,16,17,19,20]
theorem qy4:C2 141 22 qy5 qo6 [.tmp 4]:=c2 [] Tryz.func141
noncomputable def qph:IR:=zq [zm 10 0,za 14 (zI .add (zo 1 (zN (zv 10))) (zK 1)),za 16 (zf 1 (zN (zv 10))),zw 3 (zt 16) (zt 14),za 4 (zQ true)] <| .ret
noncomputable def qpi:IR:=zq [za 4 (zQ false),zm 5 0,zm 6 1,zE 7 (.buildSlice 51 1 #[(0,(zt 6))]) 51,zc 8 141 #[zt 5,zt 7] #[83,51] 4,za 9 (zn (zv 8))] <| .seq (.cond (zv 9) (zq [za 4 (zQ false)] <| .ret) .skip) (qph)
def qze:List Nat:=zV 17 [2,3,11,12,13,15]
theorem qzd:C2 117 17 qze qpi [.tmp 4]:=c2 [] Tryz.func117
noncomputable def qoK:IR:= .reg [za 8 (zI .add (zv 8) (zK 1))]
noncomputable def qoJ:IR:= .seq (.block 1 (zq [za 5 (zl (zx 1 (zv 6) (zv 8))),zm 12 0,zm 13 5,zc 14 117 #[zt 12,zt 13] #[83,9] 4,za 15 (zn (zv 14))] <| .cond (zv 15) (.reg [zm 16 0,zc 17 143 #[zt 16] #[83] 0]) .skip)) (qoK)
noncomputable def qg7:IR:=zq [za 9 (zI .lss (zv 8) (zv 7))] <| .seq (.cond (zv 9) .skip (.exit 0)) (qoJ)
noncomputable def qoL:IR:=zq [zm 6 1,za 7 (zL (zv 6)),za 8 (zK 0)] <| .block 0 (.loop qg7)
def qyQ:List Nat:=zV 18 [2,3,4,10,11]
theorem qyP:C2 153 19 qyQ qoL []:=c2 [] Tryz.func153
noncomputable def qpf:IR:=zq [zm 11 0,za 15 (zI .add (zo 1 (zN (zv 11))) (zK 1)),za 17 (zf 1 (zN (zv 11))),zw 3 (zt 17) (zt 15),za 2 (zo 1 (zv 3))] <| .ret
noncomputable def qpg:IR:=zq [za 2 (.const (zs #[])),zm 4 0,zc 5 142 #[zt 4,zO 0] #[83,3] 53,zA 3 53,zw 53 (zt 3) (zt 5),za 8 (zB .neq (zo 0 (zv 3)) (.const (zu 1)))] <| .seq (.cond (zv 8) (.reg [zm 9 0,zc 10 143 #[zt 9] #[83] 0]) .skip) (qpf)
def qzc:List Nat:=zV 18 [1,6,7,12,13,14,16]
theorem qzb:C1 120 20 qzc qpg [.tmp 2]:=c1 [] Tryz.func120
noncomputable def qoX:Code:=((Tryz.f143.body).getD .skip)
noncomputable def qoW:IR:= .reg [zE 14 (.build 153 #[]) 153,za 15 (.op1 (.mkif 153) (zv 14)), .eff none none (.panic (zt 15)) 0]
noncomputable def qoZ:IR:= .seq (.raw (qI qoX 0)) (qoW)
def qoY:List Nat:=zV 16 [1]
theorem qy1:C1 143 16 qoY qoZ []:=c1 [0] Tryz.func143
noncomputable def qoV:OT:=zy 2 (zv 0)<|zy 3 (zv 0)<|zy 4 (zN (zv 3))<|zy 5 (zf 2 (zv 4))<|zy 6 (zl (zv 5))<|zy 7 (zv 0)<|zy 8 (zN (zv 7))<|zy 9 (zf 1 (zv 8))<|zy 10 (zl (zv 9))<| .step (zE 11 (.call {callee:= .builtin .max,args:= #[zt 6,zt 10],argTypes:= #[3,3]}) 3) true<| .step (za 12 (zN (zv 2))) false<| .step (za 13 (zf 2 (zv 12))) false<| .step (zw 3 (zt 13) (zt 11)) false<| .done
theorem qy0:vT Tryz.prog 16 qoY 10 (qI qoX 0)=some qoV:=by kernel_rfl
noncomputable def qgF:IR:= .cond (zv 11) (.reg [zm 12 0,zc 13 143 #[zt 12] #[83] 0]) .skip
noncomputable def qmI:IR:= .seq (.drw [za 11 (zI .lss (zo 1 (zN (zv 0))) (zL (zo 0 (zN (zv 0)))))]) (qgF)
def qw2:List Nat:=[0,11,12,13]
theorem qw1:C1 63 14 qw2 qmI []:=c1 [] Tryz.func63
noncomputable def qoC:IR:= .reg [zm 15 0,za 19 (zI .add (zo 1 (zN (zv 15))) (zK 1)),za 21 (zf 1 (zN (zv 15))),zw 3 (zt 21) (zt 19)]
noncomputable def qoD:IR:=zq [zm 3 0,zc 4 142 #[zt 3,zO 0] #[83,3] 53,zA 2 53,zw 53 (zt 2) (zt 4),za 12 (.ite (zB .neq (zo 0 (zv 2)) (.const (zu 1))) (zQ true) (zS .neq (zo 1 (zv 2)) (.const (zs #[116]))))] <| .seq (.cond (zv 12) (.reg [zm 13 0,zc 14 143 #[zt 13] #[83] 0]) .skip) (qoC)
def qyK:List Nat:=[0,2,3,4,12,13,14,15,19,21]
theorem qyJ:C1 156 22 qyK qoD []:=c1 [] Tryz.func156
noncomputable def qmD:IR:= .block 0 (zq [zm 12 0,zc 13 117 #[zt 12,zY #[105,110,116]] #[83,9] 4,zm 14 13,zg 14 false 15 (zv 0),zh 14 false 16 117 #[zt 15,zY #[98,111,111,108]] #[83,9] 4,za 18 (.ite (zv 14) (zQ true) (zv 16)),zg 18 false 19 (zv 0),zh 18 false 20 117 #[zt 19,zY #[110,117,108,108]] #[83,9] 4,za 11 (.ite (zv 18) (zQ true) (zv 20))] <| .cond (zv 11) .skip (zq [zm 23 0,zc 24 117 #[zt 23,zY #[97,114,114,97,121]] #[83,9] 4,zm 22 24] <| .cond (zv 22) (.reg [zm 25 0,zE 26 (.buildSlice 51 1 #[(0,(zY #[91]))]) 51,zc 27 153 #[zt 25,zt 26] #[83,51] 0,zm 28 0,zc 29 72 #[zt 28] #[83] 0,zm 30 0,zE 31 (.buildSlice 51 1 #[(0,(zY #[93]))]) 51,zc 32 153 #[zt 30,zt 31] #[83,51] 0]) (zq [zm 34 0,zc 35 117 #[zt 34,zY #[114,101,99,111,114,100]] #[83,9] 4,zm 36 35,zg 36 false 37 (zv 0),zh 36 false 38 117 #[zt 37,zY #[111,110,101,111,102]] #[83,9] 4,za 33 (.ite (zv 36) (zQ true) (zv 38))] <| .cond (zv 33) (.reg [zm 40 0,zE 41 (.buildSlice 51 1 #[(0,(zY #[91]))]) 51,zc 42 153 #[zt 40,zt 41] #[83,51] 0,zm 43 0,zm 44 0,zE 45 (.makeFunc (.func 155) #[zt 44] #[]) 129,zc 46 154 #[zt 43,zt 45] #[83,129] 51,zm 47 0,zE 48 (.buildSlice 51 1 #[(0,(zY #[93]))]) 51,zc 49 153 #[zt 47,zt 48] #[83,51] 0]) (zq [zm 51 0,zc 52 117 #[zt 51,zY #[63]] #[83,9] 4,zm 50 52] <| .cond (zv 50) (.reg [zm 53 0,zc 54 156 #[zt 53] #[83] 0]) (zq [zm 2 0,zc 3 120 #[zt 2] #[83] 9,zm 4 0,zc 5 117 #[zt 4,zY #[91]] #[83,9] 4] <| .cond (zv 5) (.reg [zm 6 0,zc 7 72 #[zt 6] #[83] 0,zm 8 0,zE 9 (.buildSlice 51 1 #[(0,(zY #[93]))]) 51,zc 10 153 #[zt 8,zt 9] #[83,51] 0]) .skip)))))
def qwU:List Nat:=zV 55 [1,17,21,39]
theorem qwT:C1 72 55 qwU qmD []:=c1 [] Tryz.func72
noncomputable def qoE:IR:=zq [za 2 (.const (zs #[])),zm 3 0,zc 4 120 #[zt 3] #[83] 9,zm 5 0,zE 6 (.buildSlice 51 1 #[(0,(zY #[58]))]) 51,zc 7 153 #[zt 5,zt 6] #[83,51] 0,zm 8 0,zc 9 72 #[zt 8] #[83] 0,za 2 (.const (zs #[]))] <| .ret
def qyM:List Nat:=zV 10 [1]
theorem qyL:C1 155 10 qyM qoE [.tmp 2]:=c1 [] Tryz.func155
noncomputable def qoH:IR:= .block 1 (.reg [zm 11 5,zm 12 1,zE 13 (.call {callee:= .value (zt 12),args:= #[],argTypes:= #[]}) 9,zE 14 (.buildSlice 51 1 #[(0,(zt 13))]) 51,zp 15 #[zt 11,zt 14] #[51,51] 51,zm 5 15])
noncomputable def qoF:IR:=zq [zm 9 0,zc 10 117 #[zt 9,zY #[44]] #[83,9] 4] <| .seq (.cond (zv 10) .skip (.exit 0)) (qoH)
noncomputable def qoG:IR:=zq [zm 4 5] <| .ret
noncomputable def qoI:IR:=zq [za 4 (.const (.slice none 0 0)),zm 6 1,zE 7 (.call {callee:= .value (zt 6),args:= #[],argTypes:= #[]}) 9,zE 8 (.buildSlice 51 1 #[(0,(zt 7))]) 51,zm 5 8] <| .seq (.block 0 (.loop qoF)) (qoG)
def qyO:List Nat:=zV 16 [2,3]
theorem qyN:C2 154 17 qyO qoI [.tmp 4]:=c2 [] Tryz.func154
noncomputable def qoj:IR:= .ret
noncomputable def qok:IR:=zq [za 2 (.const (zs #[])),za 3 (zo 1 (zN (zv 0))),zm 8 0,zc 9 72 #[zt 8] #[83] 0] <| .seq (.drw [za 19 (.op3 (.slLoHi 3) (zo 0 (zN (zv 0))) (zv 3) (zo 1 (zN (zv 0)))),zc 20 73 #[zt 19] #[48] 9,zm 2 20]) (qoj)
def qyv:List Nat:=[0,2,3,8,9,19,20]
theorem qyu:C1 202 21 qyv qok [.tmp 2]:=c1 [] Tryz.func202
noncomputable def qmB:IR:= .reg [za 8 (zI .add (zv 8) (zK 1))]
noncomputable def qmA:IR:= .seq (.block 1 (.reg [za 11 (zM 3 (zx 3 (zv 6) (zv 8))),zA 5 53,zw 53 (zt 5) (zt 11),za 13 (zo 1 (zv 5)),zc 14 89 #[zt 3,zt 13] #[114,9] 127])) (qmB)
noncomputable def qgE:IR:=zq [za 9 (zI .lss (zv 8) (zv 7))] <| .seq (.cond (zv 9) .skip (.exit 0)) (qmA)
noncomputable def qmz:IR:=zq [zc 16 90 #[zt 3] #[114] 9,zm 2 16] <| .ret
noncomputable def qmC:IR:=zq [za 2 (.const (zs #[])),zA 3 114,zm 6 0,za 7 (zL (zv 6)),za 8 (zK 0)] <| .seq (.block 0 (.loop qgE)) (qmz)
def qwS:List Nat:=zV 17 [1,4,10,12,15]
theorem qwR:C1 73 17 qwS qmC [.tmp 2]:=c1 [] Tryz.func73
noncomputable def qo9:Code:=((Tryz.f140.body).getD .skip)
noncomputable def qo8:IR:=zq [za 4 (zI .sub (zL (zo 3 (zN (zv 0)))) (zK 1))] <| .ret
noncomputable def qpb:IR:=zq [zE 3 (.box 44 (zt 1)) 0,za 4 (zK 0)] <| .seq (.raw (qI qo9 1)) (qo8)
def qpa:List Nat:=zV 15 [2]
theorem qy7:C2 140 21 qpa qpb [.tmp 4]:=c2 [1] Tryz.func140
noncomputable def qo7:OT:=zy 5 (zv 0)<|zy 6 (zv 0)<|zy 7 (zN (zv 6))<|zy 8 (zf 3 (zv 7))<|zy 9 (zl (zv 8))<|zy 10 (zM 6 (zv 3))<| .step (zE 11 (.buildSlice 29 1 #[(0,(zt 10))]) 29) true<| .step (zp 12 #[zt 9,zt 11] #[29,29] 29) true<| .step (za 13 (zN (zv 5))) false<| .step (za 14 (zf 3 (zv 13))) false<| .step (zw 29 (zt 14) (zt 12)) false<| .done
theorem qy6:vT Tryz.prog 21 qpa 8 (qI qo9 1)=some qo7:=by kernel_rfl
noncomputable def qgL:IR:=zq [zm 2 4] <| .ret
noncomputable def qgK:IR:=zq [zm 24 0,zc 25 120 #[zt 24] #[83] 9,zm 4 25,zm 26 0,zc 27 117 #[zt 26,zY #[95]] #[83,9] 4] <| .seq (.cond (zv 27) (.reg [zm 28 4,zm 29 0,zc 30 120 #[zt 29] #[83] 9,za 4 (zS .add (zv 28) (zS .add (.const (zs #[95])) (zv 30)))]) .skip) (qgL)
noncomputable def qm9:IR:=zq [za 2 (.const (zs #[])),zm 5 0,zc 6 142 #[zt 5,zO 0] #[83,3] 53,zA 3 53,zw 53 (zt 3) (zt 6),za 10 (zB .eql (zo 0 (zv 3)) (.const (zu 2))),zg 10 true 12 (zo 1 (zv 3)),zh 10 true 13 75 #[zt 12] #[9] 4,za 14 (.ite (zv 10) (zv 13) (zQ false))] <| .seq (.cond (zv 14) (zq [zm 15 0,za 19 (zI .add (zo 1 (zN (zv 15))) (zK 1)),za 21 (zf 1 (zN (zv 15))),zw 3 (zt 21) (zt 19),za 2 (zo 1 (zv 3))] <| .ret) .skip) (qgK)
def qm8:List Nat:=zV 31 [1,7,8,9,11,16,17,18,20,22,23]
theorem qxm:C1 327 34 qm8 qm9 [.tmp 2]:=c1 [] Tryz.func327
noncomputable def qna:IR:=zq [za 2 (.const (.slice none 0 0)),zm 3 0,zm 4 0,zE 5 (.makeFunc (.func 62) #[zt 4] #[]) 96,zc 6 353 #[zt 3,zt 5] #[83,96] 40,zm 2 6] <| .ret
def qxo:List Nat:=zV 7 [1]
theorem qxn:C1 326 7 qxo qna [.tmp 2]:=c1 [] Tryz.func326
noncomputable def qm5:IR:=zq [zm 11 0,zm 12 1,zc 13 364 #[zt 11,zt 12] #[83,96] 40,zm 5 13,zm 14 0,zE 15 (.buildSlice 51 1 #[(0,(zY #[41]))]) 51,zc 16 153 #[zt 14,zt 15] #[83,51] 0,zm 4 5] <| .ret
noncomputable def qm6:IR:=zq [za 4 (.const (.slice none 0 0)),zm 6 0,zE 7 (.buildSlice 51 1 #[(0,(zY #[40]))]) 51,zc 8 153 #[zt 6,zt 7] #[83,51] 0,zm 9 0,zc 10 117 #[zt 9,zY #[41]] #[83,9] 4] <| .seq (.cond (zv 10) (zq [za 4 (.const (.slice none 0 0))] <| .ret) .skip) (qm5)
def qxj:List Nat:=zV 17 [2,3]
theorem qxi:C2 353 18 qxj qm6 [.tmp 4]:=c2 [] Tryz.func353
noncomputable def qm2:IR:= .block 1 (.reg [zm 11 5,zm 12 1,zE 13 (.call {callee:= .value (zt 12),args:= #[],argTypes:= #[]}) 3,zE 14 (.buildSlice 40 1 #[(0,(zt 13))]) 40,zp 15 #[zt 11,zt 14] #[40,40] 40,zm 5 15])
noncomputable def qm0:IR:=zq [zm 9 0,zc 10 117 #[zt 9,zY #[44]] #[83,9] 4] <| .seq (.cond (zv 10) .skip (.exit 0)) (qm2)
noncomputable def qm1:IR:=zq [zm 4 5] <| .ret
noncomputable def qm3:IR:=zq [za 4 (.const (.slice none 0 0)),zm 6 1,zE 7 (.call {callee:= .value (zt 6),args:= #[],argTypes:= #[]}) 3,zE 8 (.buildSlice 40 1 #[(0,(zt 7))]) 40,zm 5 8] <| .seq (.block 0 (.loop qm0)) (qm1)
def qxh:List Nat:=zV 16 [2,3]
theorem qxg:C2 364 17 qxh qm3 [.tmp 4]:=c2 [] Tryz.func364
noncomputable def qgO:IR:=zq [zm 15 0,zc 16 326 #[zt 15] #[83] 40,za 17 (zf 5 (zv 3)),zw 40 (zt 17) (zt 16),zm 18 0,za 19 (zM 6 (zv 3)),zc 20 140 #[zt 18,zt 19] #[83,44] 3,zm 2 20] <| .ret
noncomputable def qny:IR:=zq [za 2 (zK 0),zm 4 0,zc 5 120 #[zt 4] #[83] 9,zE 6 (.build 44 #[(0,(.const (zu 5))),(1,(zt 5))]) 44,zA 3 44,zw 44 (zt 3) (zt 6),zm 7 0,zc 8 117 #[zt 7,zY #[123]] #[83,9] 4] <| .seq (.cond (zv 8) (.reg [zm 9 0,zc 10 202 #[zt 9] #[83] 9,za 11 (zf 3 (zv 3)),zw 9 (zt 11) (zt 10),zm 12 0,zE 13 (.buildSlice 51 1 #[(0,(zY #[125]))]) 51,zc 14 153 #[zt 12,zt 13] #[83,51] 0]) .skip) (qgO)
def qnx:List Nat:=zV 21 [1]
theorem qxR:C1 274 21 qnx qny [.tmp 2]:=c1 [] Tryz.func274
noncomputable def qnu:IR:=zq [za 4 (zK 0),zm 6 1,zm 7 0,zc 8 327 #[zt 7] #[83] 9,zE 9 (.build 44 #[(0,(.const (zu 5))),(2,(zt 6)),(1,(zt 8))]) 44,zA 5 44,zw 44 (zt 5) (zt 9),zm 10 0,zc 11 326 #[zt 10] #[83] 40,za 12 (zf 5 (zv 5)),zw 40 (zt 12) (zt 11),zm 13 0,za 14 (zM 6 (zv 5)),zc 15 140 #[zt 13,zt 14] #[83,44] 3,zm 4 15] <| .ret
def qxM:List Nat:=zV 16 [2,3]
theorem qxL:C2 277 16 qxM qnu [.tmp 4]:=c2 [] Tryz.func277
noncomputable def qnv:IR:=zq [za 2 (.const (zs #[])),zm 4 0,zc 5 202 #[zt 4] #[83] 9,zm 3 5,zm 6 0,zE 7 (.buildSlice 51 1 #[(0,(zY #[36]))]) 51,zc 8 153 #[zt 6,zt 7] #[83,51] 0,zm 2 3] <| .ret
def qxO:List Nat:=zV 9 [1]
theorem qxN:C1 276 10 qxO qnv [.tmp 2]:=c1 [] Tryz.func276
noncomputable def qnw:IR:= .reg [za 2 (zl (zv 0)),zc 3 276 #[zt 2] #[83] 9,zw 9 (zt 1) (zt 3)]
def qxQ:List Nat:=zV 4 []
theorem qxP:C2 275 4 qxQ qnw []:=c2 [] Tryz.func275
noncomputable def qpc:IR:= .block 1 (.block 2 (zq [zm 17 0,zc 18 117 #[zt 17,zY #[91]] #[83,9] 4,zm 16 18] <| .cond (zv 16) (.reg [zm 19 0,zc 20 62 #[zt 19] #[83] 3,zm 7 20,zm 21 0,zE 22 (.buildSlice 51 1 #[(0,(zY #[93]))]) 51,zc 23 153 #[zt 21,zt 22] #[83,51] 0,zm 24 0,zm 25 4,zm 26 7,zE 27 (.buildSlice 40 2 #[(0,(zt 25)),(1,(zt 26))]) 40,zE 28 (.build 44 #[(0,(.const (zu 7))),(5,(zt 27))]) 44,zc 29 140 #[zt 24,zt 28] #[83,44] 3,zm 4 29,za 6 (zK 2)]) (zq [zm 31 0,zc 32 117 #[zt 31,zY #[46]] #[83,9] 4,zm 30 32] <| .cond (zv 30) (.reg [zm 33 0,zm 34 0,zc 35 120 #[zt 34] #[83] 9,zm 36 4,zE 37 (.buildSlice 40 1 #[(0,(zt 36))]) 40,zE 38 (.build 44 #[(0,(.const (zu 8))),(1,(zt 35)),(5,(zt 37))]) 44,zc 39 140 #[zt 33,zt 38] #[83,44] 3,zm 4 39,za 6 (zK 3)]) (zq [zm 14 4,zm 15 6,zm 2 14,zm 3 15] <| .ret))))
noncomputable def qhi:IR:= .block 0 (.loop qpc)
noncomputable def qpe:IR:=zq [za 2 (zK 0),za 3 (zK 0),zm 9 0,zc 10 217 #[zt 9] #[83] 236,zm 8 10,za 11 (ze 0 (zv 8)),za 12 (ze 1 (zv 8)),zm 4 11,zm 5 12,za 6 (zK 0),zm 13 5] <| .seq (.cond (zv 13) (.reg [za 6 (zK 1)]) .skip) (qhi)
def qpd:List Nat:=zV 40 [1]
theorem qy8:C1 139 40 qpd qpe [.tmp 2, .tmp 3]:=c1 [] Tryz.func139
noncomputable def qmK:IR:=zq [zm 32 0,zc 33 142 #[zt 32,zO 0] #[83,3] 53,za 7 (.op1 (.fld 1) (zv 33)),zm 35 0,za 39 (zI .add (zo 1 (zN (zv 35))) (zK 1)),za 41 (zf 1 (zN (zv 35))),zw 3 (zt 41) (zt 39),zm 43 0,zc 44 139 #[zt 43] #[83] 169,zm 42 44,za 45 (ze 0 (zv 42)),za 46 (ze 1 (zv 42)),zm 8 45,zm 9 46,zm 47 0,zm 48 7,zm 49 5,zm 50 8,zE 51 (.buildSlice 40 2 #[(0,(zt 49)),(1,(zt 50))]) 40,zE 52 (.build 44 #[(0,(.const (zu 6))),(1,(zt 48)),(5,(zt 51))]) 44,zc 53 140 #[zt 47,zt 52] #[83,44] 3,zm 2 53] <| .ret
noncomputable def qmJ:IR:=zq [zm 23 0,zc 24 139 #[zt 23] #[83] 169,zm 22 24,za 25 (ze 0 (zv 22)),za 26 (ze 1 (zv 22)),zm 5 25,zm 6 26,zm 27 0,zE 28 (.buildSlice 51 10 #[(0,(zY #[43])),(1,(zY #[45])),(2,(zY #[42])),(3,(zY #[47])),(4,(zY #[109,111,100])),(5,(zY #[60])),(6,(zY #[60,61])),(7,(zY #[61])),(8,(zY #[97,110,100])),(9,(zY #[111,114]))]) 51,zc 29 141 #[zt 27,zt 28] #[83,51] 4,za 30 (zn (zv 29))] <| .seq (.cond (zv 30) (zq [zm 2 5] <| .ret) .skip) (qmK)
noncomputable def qmL:IR:=zq [za 2 (zK 0),zm 10 0,zc 11 117 #[zt 10,zY #[110,111,116]] #[83,9] 4] <| .seq (.cond (zv 11) (zq [zm 13 0,zc 14 139 #[zt 13] #[83] 169,zm 12 14,za 15 (ze 0 (zv 12)),za 16 (ze 1 (zv 12)),zm 3 15,zm 4 16,zm 17 0,zm 18 3,zE 19 (.buildSlice 40 1 #[(0,(zt 18))]) 40,zE 20 (.build 44 #[(0,(.const (zu 6))),(1,(zY #[110,111,116])),(5,(zt 19))]) 44,zc 21 140 #[zt 17,zt 20] #[83,44] 3,zm 2 21] <| .ret) .skip) (qmJ)
def qw4:List Nat:=zV 54 [1,31,34,36,37,38,40]
theorem qw3:C1 62 54 qw4 qmL [.tmp 2]:=c1 [] Tryz.func62
end Go.L02
namespace Go.L01
open Go Go.Eng Go.Proofs
set_option maxRecDepth 100000
set_option maxHeartbeats 2000000
noncomputable def qdI:IR:=zq [za 2 (zQ false),za 11 (.ite (zI .gtr (zT (zv 0)) (zK 0)) (zI .leq (zT (zv 0)) (zK 12)) (zQ false)),zg 11 true 13 (.op2 .ixs (zv 0) (zK 0)),zh 11 true 14 162 #[zt 13] #[188] 4,za 16 (.ite (zv 11) (zv 14) (zQ false)),zg 16 true 17 (zv 0),zh 16 true 18 163 #[zt 17,(.func 164)] #[9,190] 3,za 21 (.ite (zv 16) (zI .lss (zv 18) (zK 0)) (zQ false)),zg 21 true 22 (zv 0),zh 21 true 23 166 #[zt 22] #[9] 4,za 2 (.ite (zv 21) (zn (zv 23)) (zQ false))] <| .ret
def qwO:List Nat:=[0,2,11,13,14,16,17,18,21,22,23]
theorem qwN:C1 77 26 qwO qdI [.tmp 2]:=c1 [] Tryz.func77
noncomputable def qow:IR:=zq [za 2 (zQ false),zc 3 233 #[] #[] 144,zm 4 0,zE 5 (.lookup 144 (zt 3) (zt 4) false) 4,zm 2 5] <| .ret
def qyB:List Nat:=zV 6 [1]
theorem qyA:C1 166 6 qyB qow [.tmp 2]:=c1 [] Tryz.func166
noncomputable def qnr:IR:=zq [za 0 (.const (.slice none 0 0)),zc 1 332 #[zY #[97,110,100,32,97,114,114,97,121,32,98,101,103,105,110,32,98,111,111,108,32,98,114,101,97,107,32,99,108,117,115,116,101,114,32,100,111,32,100,111,119,110,32,101,108,115,101,32,101,108,115,101,105,102,32,101,110,100,32,101,120,99,101,112,116,32,102,97,108,115,101,32,102,111,114,32,104,97,115,32,105,102,32,105,110,32,105,110,116,32,105,115,32,105,116,101,114,32,109,111,100,32,110,105,108,32,110,111,116,32,110,117,108,108,32,111,110,101,111,102,32,111,114,32,111,116,104,101,114,115,32,112,114,111,99,32,112,117,116,32,114,101,99,111,114,100,32,114,101,112,32,114,101,116,117,114,110,32,114,101,116,117,114,110,115,32,115,105,103,110,97,108,32,115,105,103,110,97,108,115,32,116,97,103,32,116,97,103,99,97,115,101,32,116,104,101,110,32,116,114,117,101,32,117,112,32,118,97,114,32,119,104,101,110,32,119,104,101,114,101,32,119,104,105,108,101,32,121,105,101,108,100,32,121,105,101,108,100,115]] #[9] 51,zm 0 1] <| .ret
def qxE:List Nat:=[0,1]
theorem qxD:C0 286 2 qxE qnr [.tmp 0]:=c0 [] Tryz.func286
noncomputable def qnb:IR:=zq [za 0 (.const (.slice none 0 0)),zc 2 332 #[zY #[36,32,40,32,41,32,42,32,43,32,44,32,45,32,46,32,47,32,58,32,58,61,32,59,32,60,32,60,61,32,61,32,63,32,91,32,93,32,95,32,123,32,125]] #[9] 51,zm 1 2,zm 3 1,zc 4 195 #[zt 3] #[51] 0,zm 0 1] <| .ret
def qxq:List Nat:=zV 5 []
theorem qxp:C0 310 6 qxq qnb [.tmp 0]:=c0 [] Tryz.func310
noncomputable def qmS:Code:=((Tryz.f53.body).getD .skip)
noncomputable def qmR:IR:= .ret
noncomputable def qmU:IR:=zq [za 2 (.const (.slice none 0 0)),zA 3 26,zm 8 0,zc 9 115 #[zt 8] #[9] 122,zm 7 9,za 10 (ze 0 (zv 7)),za 11 (ze 1 (zv 7)),za 12 (ze 2 (zv 7)),zA 6 26,zm 4 10,zm 5 11,zw 26 (zt 6) (zt 12)] <| .seq (.raw (qI qmS 2)) (qmR)
def qmT:List Nat:=zV 15 [1]
theorem qxb:C1 53 15 qmT qmU [.tmp 2, .cellN 3 2]:=c1 [2] Tryz.func53
noncomputable def qmQ:OT:=zy 13 (zv 4)<|zy 14 (zM 2 (zv 6))<|zy 2 (zv 13)<| .step (zw 26 (zt 3) (zt 14)) false<| .done
theorem qxa:vT Tryz.prog 15 qmT 3 (qI qmS 2)=some qmQ:=by kernel_rfl
noncomputable def qoA:IR:=zq [za 2 (zQ false),za 2 (.ite (zB .geq (zv 0) (.const (zu 97))) (zB .leq (zv 0) (.const (zu 122))) (zQ false))] <| .ret
def qyI:List Nat:=[0,2]
theorem qyH:C1 162 9 qyI qoA [.tmp 2]:=c1 [] Tryz.func162
noncomputable def qoz:IR:=zq [za 4 (zK 0),zm 5 0,zm 6 1,zc 7 231 #[zt 5,zt 6,(.const (zb true))] #[9,190,4] 3,zm 4 7] <| .ret
def qyG:List Nat:=zV 8 [2,3]
theorem qyF:C2 163 8 qyG qoz [.tmp 4]:=c2 [] Tryz.func163
noncomputable def qdR:IR:=zq [za 2 (zQ false),za 5 (.op2 (.ibin .gtr .i32) (zv 0) (.const (.int .i32 126))),zg 5 false 7 (.op1 (.conv .u8) (zv 0)),zh 5 false 8 165 #[zt 7] #[188] 4,za 2 (.ite (zv 5) (zQ true) (zn (zv 8)))] <| .ret
def qyE:List Nat:=[0,2,5,7,8]
theorem qoy:C1 164 11 qyE qdR [.tmp 2]:=c1 [] Tryz.func164
noncomputable def qox:IR:=zq [za 2 (zQ false),zm 3 0,zc 4 162 #[zt 3] #[188] 4,zm 5 4,zg 5 false 6 (zv 0),zh 5 false 7 232 #[zt 6] #[188] 4,za 2 (.ite (zv 5) (zQ true) (zv 7))] <| .ret
def qyD:List Nat:=zV 8 [1]
theorem qyC:C1 165 9 qyD qox [.tmp 2]:=c1 [] Tryz.func165
noncomputable def qnO:IR:= .reg [za 7 (zI .add (zv 7) (zK 1))]
noncomputable def qnN:IR:= .seq (.block 1 (.reg [za 3 (zl (zx 1 (zv 5) (zv 7))),zm 11 1,zm 12 3, .eff none none (.mapUpdate 144 (zt 11) (zt 12) (.const (zb true))) 0])) (qnO)
noncomputable def qgX:IR:=zq [za 8 (zI .lss (zv 7) (zv 6))] <| .seq (.cond (zv 8) .skip (.exit 0)) (qnN)
noncomputable def qnM:IR:=zq [zm 0 1] <| .ret
noncomputable def qnP:IR:=zq [za 0 (.const (.map none)),zE 4 (.makeMap 144 none) 144,zm 1 4,zc 5 286 #[] #[] 51,za 6 (zL (zv 5)),za 7 (zK 0)] <| .seq (.block 0 (.loop qgX)) (qnM)
def qx3:List Nat:=zV 13 [2,9,10]
theorem qx2:C0 233 15 qx3 qnP [.tmp 0]:=c0 [] Tryz.func233
noncomputable def qhl:Code:=((Tryz.f115.body).getD .skip)
noncomputable def qb2:Code:=(qc0 qhl).getD 0 .skip
noncomputable def qpn:IR:= .ret
noncomputable def qdZ:IR:= .seq (.raw (qI qhl 8)) (qpn)
noncomputable def qpm:IR:=zq [zE 11 (.makeFunc (.func 200) #[] #[zt 2,zt 3,zt 4]) 1, .eff none none (.defer {callee:= .value (zt 11),args:= #[],argTypes:= #[]}) 0,zm 12 0,zE 13 (.build 215 #[(0,(zt 12)),(2,(zO 1))]) 215,zE 14 (.build 217 #[(0,(zt 13))]) 217,zE 15 (.box 217 (zt 14)) 213,zm 5 15,zm 16 5,zE 17 (.makeFunc (.func 201) #[zt 16] #[]) 218] <| .seq (.block 0 (.raw qb2)) (qdZ)
noncomputable def qhm:IR:=zq [zA 2 48,zA 3 51,zA 4 26,za 9 (zI .gtr (zT (zv 0)) (zK 20000))] <| .seq (.cond (zv 9) (zq [zE 10 (.build 26 #[(0,(zO 2))]) 26,zw 48 (zt 2) (.const (.slice none 0 0)),zw 51 (zt 3) (.const (.slice none 0 0)),zw 26 (zt 4) (zt 10)] <| .ret) .skip) (qpm)
def yp:List Nat:=zV 29 [1,7,8]
noncomputable def qpp:IR:= .reg [zA 6 53,zw 53 (zt 6) (zt 18)]
noncomputable def qpo:IR:= .block 1 (.reg [za 19 (zl (zv 2)),za 20 (zM 3 (zv 6)),zE 21 (.buildSlice 48 1 #[(0,(zt 20))]) 48,zp 22 #[zt 19,zt 21] #[48,48] 48,zw 48 (zt 2) (zt 22)])
theorem qzg:∃A B,qb2= .rangeFunc (.tmp 17) #[18] A B∧Part Tryz.prog 29 yp A qpp∧Part Tryz.prog 29 yp B qpo:=
 ⟨rfA qb2,rfB qb2,by kernel_rfl,⟨by kernel_rfl,by kernel_rfl⟩,⟨by kernel_rfl,by kernel_rfl⟩⟩
theorem qzh:(qN Tryz.prog Tryz.f115.ntmps yp [8] (Tryz.f115.body.getD .skip)).map IR.norm=some qhm:=by kernel_rfl
theorem qzj {v0:Value} {w:World} {R:Ending→World→Prop} (h:∀ρ:qa,ρ 0=v0→ρ gS= .tuple #[]→qhm.wp ⟨Tryz.prog,29,yp,ww⟩ (jH Tryz.prog [.cell1 2, .cell1 3, .cellN 4 2] R .returning) (vD Tryz.prog [.cell1 2, .cell1 3, .cellN 4 2] R) ρ w):
  Calls Tryz.prog 115 #[v0] w R:=by
 obtain ⟨a,b,e⟩:=Option.map_eq_some_iff.1 qzh;exact qqn (args:= #[v0]) Tryz.func115 (c:=(Tryz.f115.body.getD .skip)) rfl b e (by kernel_rfl) (show vu Tryz.prog yp Tryz.f115.results.toList=some [.cell1 2, .cell1 3, .cellN 4 2] by kernel_rfl) (Nat.le_of_ble_eq_true rfl) (h _ rfl rfl)
noncomputable def qhk:OT:=zy 23 (zl (zv 2))<|zy 24 (zv 5)<|zy 25 (zN (zv 24))<|zy 26 (zf 3 (zv 25))<|zy 27 (zl (zv 26))<| .both (.step (zE 28 (.build 26 #[]) 26) true<| .step (zw 48 (zt 2) (zt 23)) true<| .step (zw 51 (zt 3) (zt 27)) true<| .step (zw 26 (zt 4) (zt 28)) false<| .done)<| .step (zw 48 (zt 2) (zt 23)) true<| .both (.step (zE 28 (.build 26 #[]) 26) true<| .step (zw 51 (zt 3) (zt 27)) true<| .step (zw 26 (zt 4) (zt 28)) false<| .done)<| .step (zw 51 (zt 3) (zt 27)) true<| .step (zE 28 (.build 26 #[]) 26) true<| .step (zw 26 (zt 4) (zt 28)) false<| .done
theorem qzi:vT Tryz.prog 29 yp 8 (qI qhl 8)=some qhk:=by kernel_rfl
noncomputable def qnT:IR:= .block 1 (zq [za 13 (ze 1 (zv 11)),za 14 (ze 2 (zv 11)),zm 7 13,zm 8 14,zm 15 1,zm 16 8,zE 17 (.call {callee:= .value (zt 15),args:= #[zt 16],argTypes:= #[21]}) 4,za 19 (.op2 (.bbin .eql) (zv 17) (zv 2))] <| .cond (zv 19) (zq [zm 6 7] <| .ret) .skip)
noncomputable def qnR:IR:=zq [zE 11 (.next (zt 10) true) 0,za 12 (ze 0 (zv 11))] <| .seq (.cond (zv 12) .skip (.exit 0)) (qnT)
noncomputable def qnS:IR:=zq [za 6 (.const (.int .i64 (-1)))] <| .ret
noncomputable def qnU:IR:=zq [za 6 (zK 0),zm 9 0,zE 10 (.range 9 (zt 9)) 0] <| .seq (.block 0 (.loop qnR)) (qnS)
def qx7:List Nat:=zV 20 [3,4,5,18]
theorem qx6:C3 231 21 qx7 qnU [.tmp 6]:=c3 [] Tryz.func231
noncomputable def qnQ:IR:=zq [za 2 (zQ false),za 2 (.ite (zB .geq (zv 0) (.const (zu 48))) (zB .leq (zv 0) (.const (zu 57))) (zQ false))] <| .ret
def qx5:List Nat:=[0,2]
theorem qx4:C1 232 9 qx5 qnQ [.tmp 2]:=c1 [] Tryz.func232
noncomputable def qom:IR:= .reg [zm 18 0,zc 19 266 #[zt 18] #[213] 0]
noncomputable def qol:IR:= .seq (.block 1 (zq [zm 20 1,zm 21 0,zc 22 267 #[zt 21] #[213] 53,zE 23 (.call {callee:= .value (zt 20),args:= #[zt 22],argTypes:= #[53]}) 4,za 24 (zn (zv 23))] <| .cond (zv 24) (.ret) .skip)) (qom)
noncomputable def qg4:IR:= .seq (.cond (zv 17) .skip (.exit 0)) (qol)
noncomputable def qg3:IR:= .seq (.drw [za 17 (zI .lss (zo 1 (zf 0 (zN (zv 0)))) (zT (zo 0 (zf 0 (zN (zv 0))))))]) (qg4)
noncomputable def qon:IR:=zq [zm 4 0,zc 5 266 #[zt 4] #[213] 0] <| .block 0 (.loop qg3)
def qyx:List Nat:=[0,1,4,5,17,18,19,20,21,22,23,24]
theorem qyw:C2 201 25 qyx qon []:=c2 [] Tryz.func201
noncomputable def qnc:IR:=zq [za 2 (zQ false),zm 6 0,zc 7 273 #[zt 6] #[9] 127,zm 5 7,za 8 (ze 0 (zv 5)),za 9 (ze 1 (zv 5)),zm 3 8,zm 4 9,zm 10 4,zE 11 (.binOp .eql 126 (zt 10) (.const .nilIface) 126) 4,za 20 (.ite (.ite (zv 11) (zI .geq (zv 3) (zK 0)) (zQ false)) (zI .leq (zv 3) (zK 1000000000)) (zQ false)),zg 20 true 21 (zv 3),zh 20 true 22 171 #[zt 21] #[3] 9,za 2 (.ite (zv 20) (zS .eql (zv 22) (zv 0)) (zQ false))] <| .ret
def qxs:List Nat:=zV 23 [1,12,13,14,15,16,17,18,19]
theorem qxr:C1 309 26 qxs qnc [.tmp 2]:=c1 [] Tryz.func309
noncomputable def qdS:IR:=zq [za 4 (zQ false),zm 5 0,zm 6 1,zc 7 229 #[zt 5,zt 6] #[51,9] 3,za 4 (zI .geq (zv 7) (zK 0))] <| .ret
def qg6:List Nat:=zV 8 [2,3]
theorem qoB:C2 160 9 qg6 qdS [.tmp 4]:=c2 [] Tryz.func160
noncomputable def qdM:Code:=(qfr ((Tryz.f266.body).getD .skip))
noncomputable def qgV:IR:= .raw (qI qdM 8)
noncomputable def qgU:IR:= .cond (zv 36) (zq [za 51 (zf 0 (zN (zv 0))),zc 52 306 #[zt 51] #[215] 9,zc 53 305 #[zt 52,(.const (zu 10))] #[9,5] 3,zm 3 53,za 55 (zI .lss (zv 3) (zK 0))] <| .seq (.cond (zv 55) (.reg [za 58 (zf 0 (zN (zv 0))),zc 59 306 #[zt 58] #[215] 9,za 3 (zT (zv 59))]) .skip) (qgV)) (.exit 0)
noncomputable def qdL:IR:= .cond (zv 18) (.reg [za 34 (zf 0 (zN (zv 0))),zc 35 304 #[zt 34,zO 1] #[215,3] 9]) (.seq (.drw [za 36 (zB .eql (.op2 .ixs (zo 0 (zf 0 (zN (zv 0)))) (zo 1 (zf 0 (zN (zv 0))))) (.const (zu 37)))]) (qgU))
noncomputable def qnJ:IR:= .block 1 (.block 2 (.seq (.raw (qI qdM 2)) (qdL)))
noncomputable def qgT:IR:= .seq (.cond (zv 17) .skip (.exit 0)) (qnJ)
noncomputable def qgS:IR:= .seq (.drw [za 17 (zI .lss (zo 1 (zf 0 (zN (zv 0)))) (zT (zo 0 (zf 0 (zN (zv 0))))))]) (qgT)
noncomputable def qnI:IR:= .block 0 (.loop qgS)
noncomputable def qgW:IR:=zq [zc 4 303 #[] #[] 289,zE 5 (.index 289 (zt 4) (zO 2)) 288,zm 2 5] <| .seq (.raw (.label 0)) (qnI)
def qaG:List Nat:=zV 75 [1,6,7,8,9,10,11,12,13,14,15,16,32,33,37,38,39,40,41,42,43,44,45,46,47,48,49,50,54,56,57,60]
theorem qxW:(qN Tryz.prog Tryz.f266.ntmps qaG [8,2] (qfr (Tryz.f266.body.getD .skip))).map IR.norm=some qgW:=by kernel_rfl
theorem qxZ {v0:Value} {w:World} {R:Ending→World→Prop} (h:∀ρ:qa,ρ 0=v0→qgW.wp ⟨Tryz.prog,75,qaG,[]⟩ (qz [] R) (jd [] R) ρ w):
  Calls Tryz.prog 266 #[v0] w R:=by
 obtain ⟨a,b,e⟩:=Option.map_eq_some_iff.1 qxW;exact qqm (args:= #[v0]) Tryz.func266 (c:=(qfr (Tryz.f266.body.getD .skip))) rfl b e (by kernel_rfl) (show vu Tryz.prog qaG Tryz.f266.results.toList=some [] by kernel_rfl) (Nat.le_of_ble_eq_true rfl) (h _ rfl)
noncomputable def qnH:OT:=zy 19 (zv 2)<|zy 20 (zv 0)<|zy 21 (zN (zv 20))<|zy 22 (zf 0 (zv 21))<|zy 23 (zf 0 (zv 22))<|zy 24 (zl (zv 23))<|zy 25 (zv 0)<|zy 26 (zN (zv 25))<|zy 27 (zf 0 (zv 26))<|zy 28 (zf 1 (zv 27))<|zy 29 (zl (zv 28))<|zy 30 (.op2 .ixs (zv 24) (zv 29))<| .step (zE 31 (.call {callee:= .value (zt 19),args:= #[zt 30],argTypes:= #[188]}) 4) false<| .step (zm 18 31) false<| .done
theorem qxY:vT Tryz.prog 75 qaG 12 (qI qdM 2)=some qnH:=by kernel_rfl
noncomputable def qnG:OT:=zy 61 (zv 0)<|zy 62 (zv 0)<|zy 63 (zN (zv 62))<|zy 64 (zf 3 (zv 63))<|zy 65 (zl (zv 64))<|zy 66 (zv 0)<|zy 67 (zN (zv 66))<|zy 68 (zf 0 (zv 67))<|zy 69 (zv 3)<| .step (zc 70 304 #[zt 68,zt 69] #[215,3] 9) true<| .step (zE 71 (.buildSlice 51 1 #[(0,(zt 70))]) 51) true<| .step (zp 72 #[zt 65,zt 71] #[51,51] 51) true<| .step (za 73 (zN (zv 61))) false<| .step (za 74 (zf 3 (zv 73))) false<| .step (zw 51 (zt 74) (zt 72)) false<| .done
theorem qxX:vT Tryz.prog 75 qaG 12 (qI qdM 8)=some qnG:=by kernel_rfl
noncomputable def qaF:Code:=((Tryz.f267.body).getD .skip)
noncomputable def qxU:IR:= .reg [za 83 (zf 0 (zN (zv 0))),zm 84 6,zc 85 304 #[zt 83,zt 84] #[215,3] 9,za 86 (zf 1 (zv 3)),zw 9 (zt 86) (zt 85)]
noncomputable def qgR:IR:=zq [za 69 (zf 0 (zN (zv 0))),zc 70 306 #[zt 69] #[215] 9,za 7 (.op3 .stLoHi (zv 70) (zK 0) (zv 6)),za 73 (zf 0 (zv 3)),zw 5 (zt 73) (.const (zu 1)),zm 74 7,zc 75 166 #[zt 74] #[9] 4] <| .seq (.cond (zv 75) (.reg [za 76 (zf 0 (zv 3)),zw 5 (zt 76) (.const (zu 2))]) (zq [za 78 (zI .gtr (zv 6) (zK 12))] <| .cond (zv 78) (.reg [zm 79 0,zc 80 308 #[zt 79,zO 12] #[213,24] 0]) .skip)) (qxU)
noncomputable def qnD:IR:= .reg [za 106 (zf 0 (zv 3)),zw 5 (zt 106) (.const (zu 3)),za 109 (zf 0 (zN (zv 0))),zm 110 8,zc 111 304 #[zt 109,zt 110] #[215,3] 9,za 112 (zf 1 (zv 3)),zw 9 (zt 112) (zt 111)]
noncomputable def qgQ:IR:=zq [za 98 (zf 0 (zN (zv 0))),zc 99 306 #[zt 98] #[215] 9,za 101 (.op3 .stLoHi (zv 99) (zK 0) (zv 8)),zc 102 309 #[zt 101] #[9] 4,za 103 (zn (zv 102))] <| .seq (.cond (zv 103) (.reg [zm 104 0,zc 105 308 #[zt 104,zO 11] #[213,24] 0]) .skip) (qnD)
noncomputable def qgP:IR:= .reg [za 32 (zI .add (zv 32) (zK 1))]
noncomputable def qnC:IR:= .seq (.block 2 (zq [za 11 (zl (zx 1 (zv 30) (zv 32))),za 38 (zf 0 (zN (zv 0))),zc 39 306 #[zt 38] #[215] 9,zm 40 11,zc 41 311 #[zt 39,zt 40] #[9,9] 4] <| .cond (zv 41) (.reg [zm 42 9,za 44 (zT (zv 11)),zE 45 (.call {callee:= .builtin .max,args:= #[zt 42,zt 44],argTypes:= #[3,3]}) 3,zm 9 45]) .skip)) (qgP)
noncomputable def qbZ:IR:=zq [za 33 (zI .lss (zv 32) (zv 31))] <| .seq (.cond (zv 33) .skip (.exit 1)) (qnC)
noncomputable def qnB:IR:= .reg [za 51 (zf 0 (zv 3)),zw 5 (zt 51) (.const (zu 4)),za 54 (zf 0 (zN (zv 0))),zm 55 9,zc 56 304 #[zt 54,zt 55] #[215,3] 9,za 57 (zf 1 (zv 3)),zw 9 (zt 57) (zt 56)]
noncomputable def qdK:IR:=zq [za 48 (zI .eql (zv 9) (zK 0))] <| .seq (.cond (zv 48) (.reg [zm 49 0,zc 50 308 #[zt 49,zO 10] #[213,24] 0]) .skip) (qnB)
noncomputable def QE:IR:=zq [za 113 (zM 3 (zv 3)),zw 53 (zt 2) (zt 113)] <| .ret
noncomputable def qnE:IR:= .seq (.block 0 (zq [zm 59 5,zc 60 162 #[zt 59] #[188] 4,zm 58 60] <| .cond (zv 58) (.seq (.raw (qI qaF 16)) (qgR)) (zq [zm 88 5,zc 89 232 #[zt 88] #[188] 4,zm 87 89] <| .cond (zv 87) (.seq (.raw (qI qaF 25)) (qgQ)) (zq [za 9 (zK 0),zc 30 310 #[] #[] 51,za 31 (zL (zv 30)),za 32 (zK 0)] <| .seq (.block 1 (.loop qbZ)) (qdK))))) (QE)
noncomputable def qnF:IR:=zq [zA 2 53,za 16 (zo 2 (zf 0 (zN (zv 0)))),zE 17 (.build 53 #[(2,(zt 16))]) 53,zA 3 53,zw 53 (zt 3) (zt 17),zc 18 303 #[] #[] 289,zA 4 289,zw 289 (zt 4) (zt 18)] <| .seq (.drw [za 5 (.op2 .ixs (zo 0 (zf 0 (zN (zv 0)))) (zo 1 (zf 0 (zN (zv 0)))))]) (qnE)
def xQ:List Nat:=zV 114 [1,10,12,13,14,15,19,20,21,22,23,24,25,26,27,28,29,34,35,36,37,43,46,47,52,53,67,68,71,72,77,81,82,96,97,100,107,108]
theorem qxV:C1 267 114 xQ qnF [.cellN 2 3]:=c1 [25,16] Tryz.func267
noncomputable def qnA:OT:=zy 61 (zv 0)<|zy 62 (zN (zv 61))<|zy 63 (zf 0 (zv 62))<| .step (zE 64 (.indexAddr 289 (zt 4) (zO 0)) 0) true<|zy 65 (zl (zv 64))<| .step (zc 66 307 #[zt 63,zt 65] #[215,288] 3) false<| .step (zm 6 66) false<| .done
theorem qxT:vT Tryz.prog 114 xQ 5 (qI qaF 16)=some qnA:=by kernel_rfl
noncomputable def qnz:OT:=zy 90 (zv 0)<|zy 91 (zN (zv 90))<|zy 92 (zf 0 (zv 91))<| .step (zE 93 (.indexAddr 289 (zt 4) (zO 1)) 0) true<|zy 94 (zl (zv 93))<| .step (zc 95 307 #[zt 92,zt 94] #[215,288] 3) false<| .step (zm 8 95) false<| .done
theorem qxS:vT Tryz.prog 114 xQ 5 (qI qaF 25)=some qnz:=by kernel_rfl
noncomputable def qdP:IR:= .reg [za 8 (zI .add (zv 8) (zK 1))]
noncomputable def qdO:IR:= .seq (.block 1 (zq [zm 5 8,za 16 (zS .eql (zv 1) (zl (zx 1 (zv 0) (zv 5))))] <| .cond (zv 16) (zq [zm 4 5] <| .ret) .skip)) (qdP)
noncomputable def qb0:IR:=zq [za 9 (zI .lss (zv 8) (zv 7))] <| .seq (.cond (zv 9) .skip (.exit 0)) (qdO)
noncomputable def qdN:IR:=zq [za 4 (.const (.int .i64 (-1)))] <| .ret
noncomputable def qdQ:IR:=zq [za 4 (zK 0),za 7 (zL (zv 0)),za 8 (zK 0)] <| .seq (.block 0 (.loop qb0)) (qdN)
def qgY:List Nat:=[0,1,4,5,7,8,9,16]
theorem qnW:C2 229 19 qgY qdQ [.tmp 4]:=c2 [] Tryz.func229
noncomputable def qnq:IR:=zq [zA 0 289,zE 1 (.build 289 #[(0,(.func 165)),(1,(.func 232)),(2,(.func 346))]) 289,zw 289 (zt 0) (zt 1)] <| .ret
def qxC:List Nat:=[0,1]
theorem qxB:C0 303 2 qxC qnq [.cellN 0 3]:=c0 [] Tryz.func303
noncomputable def qnn:Code:=((Tryz.f304.body).getD .skip)
noncomputable def qnm:IR:=zq [zm 30 0,za 35 (zI .add (zo 1 (zN (zv 30))) (zv 1)),za 37 (zf 1 (zN (zv 30))),zw 3 (zt 37) (zt 35),zm 4 5] <| .ret
noncomputable def qnl:IR:= .seq (.raw (qI qnn 2)) (qnm)
noncomputable def qnp:IR:=zq [za 4 (.const (zs #[]))] <| .seq (.drw [za 5 (.op3 .stLoHi (zo 0 (zN (zv 0))) (zo 1 (zN (zv 0))) (zI .add (zo 1 (zN (zv 0))) (zv 1)))]) (qnl)
def qno:List Nat:=[0,1,4,5,21,22,23,24,25,26,27,28,29,30,35,37]
theorem qxA:C2 304 39 qno qnp [.tmp 4]:=c2 [2] Tryz.func304
noncomputable def qnk:OT:=zy 21 (zv 0)<|zy 22 (zN (zv 21))<|zy 23 (zf 2 (zv 22))<|zy 24 (zl (zv 23))<|zy 25 (zv 5)<| .step (zc 26 198 #[zt 25,zY #[10]] #[9,9] 3) true<| .step (za 27 (zI .add (zv 24) (zv 26))) false<| .step (za 28 (zN (zv 21))) false<| .step (za 29 (zf 2 (zv 28))) false<| .step (zw 3 (zt 29) (zt 27)) false<| .done
theorem qxz:vT Tryz.prog 39 qno 6 (qI qnn 2)=some qnk:=by kernel_rfl
noncomputable def qni:IR:= .ret
noncomputable def qnj:IR:=zq [za 2 (.const (zs #[]))] <| .seq (.drw [za 2 (.op2 .stLo (zo 0 (zN (zv 0))) (zo 1 (zN (zv 0))))]) (qni)
def qxy:List Nat:=[0,2]
theorem qxx:C1 306 12 qxy qnj [.tmp 2]:=c1 [] Tryz.func306
noncomputable def qng:IR:= .reg [za 11 (zI .add (zv 11) (zK 1))]
noncomputable def qnf:IR:= .seq (.block 1 (zq [zm 6 11,zm 14 1,za 17 (.op2 .ixs (zv 5) (zv 6)),zE 18 (.call {callee:= .value (zt 14),args:= #[zt 17],argTypes:= #[188]}) 4,za 19 (zn (zv 18))] <| .cond (zv 19) (zq [zm 4 6] <| .ret) .skip)) (qng)
noncomputable def qgM:IR:=zq [za 12 (zI .lss (zv 11) (zv 10))] <| .seq (.cond (zv 12) .skip (.exit 0)) (qnf)
noncomputable def qne:IR:=zq [za 4 (zT (zv 5))] <| .ret
noncomputable def qnh:IR:=zq [za 4 (zK 0),zm 7 0,zc 8 306 #[zt 7] #[318] 9,zm 5 8,za 10 (zT (zv 5)),za 11 (zK 0)] <| .seq (.block 0 (.loop qgM)) (qne)
def qxw:List Nat:=zV 20 [2,3,9,13,15,16]
theorem qxv:C2 307 24 qxw qnh [.tmp 4]:=c2 [] Tryz.func307
noncomputable def qnd:IR:= .reg [zm 4 1,za 9 (zo 2 (zf 0 (zN (zv 0)))),zE 10 (.build 26 #[(0,(zt 4)),(1,(zt 9))]) 26,zE 11 (.build 212 #[(0,(zt 10))]) 212,za 12 (.op1 (.mkif 212) (zv 11)), .eff none none (.panic (zt 12)) 0]
def qxu:List Nat:=[0,1,4,9,10,11,12]
theorem qxt:C2 308 13 qxu qnd []:=c2 [] Tryz.func308
noncomputable def qm7:IR:=zq [za 2 (zQ false),za 2 (.ite (.ite (zB .eql (zv 0) (.const (zu 32))) (zQ true) (zB .eql (zv 0) (.const (zu 9)))) (zQ true) (zB .eql (zv 0) (.const (zu 10))))] <| .ret
def qxl:List Nat:=[0,2]
theorem qxk:C1 346 13 qxl qm7 [.tmp 2]:=c1 [] Tryz.func346
noncomputable def qgD:IR:=zq [za 4 (zK 0),za 5 (.const .nilIface),zm 6 0,zc 7 177 #[zt 6] #[111] 0,zm 8 0,za 12 (zo 1 (zN (zv 0))),zm 13 1,zp 14 #[zt 12,zt 13] #[112,9] 112,za 16 (zf 1 (zN (zv 8))),zw 112 (zt 16) (zt 14),za 4 (zT (zv 1)),za 5 (.const .nilIface)] <| .ret
def qwK:List Nat:=zV 17 [2,3,9,10,11,15]
theorem qmw:C2 89 19 qwK qgD [.tmp 4, .tmp 5]:=c2 [] Tryz.func89
end Go.L01
