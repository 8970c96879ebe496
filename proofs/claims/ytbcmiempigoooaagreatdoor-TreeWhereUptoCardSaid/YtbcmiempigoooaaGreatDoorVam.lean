/- Lemmas for a claim about layer 2 (tree). No conditions but those they state. -/
import Derived.Test.YtbcmiempigoooaaGreatDoorVal
import Derived.Test.YtbcmiempigoooaaGreatDoorProg
import Derived.KernelRfl
set_option linter.all false
noncomputable section
namespace Go.Eng
open Go Go.Proofs
def sE {V:List Nat} {args:Array AB} {i:Nat} (h:V.contains i=true) (a:i≠gS):wk V args i=args.getD i undef:=by
 unfold wk;rw [q3 a,j0 (by simpa using h)]
abbrev C0 (f n:Nat) (V:List Nat) (ir:IR) (rs:List RV):Prop:=∀{w:AA} {R:Ending->AA->Prop},(∀ρ:qa,ir.wp ⟨Tryz.prog,n,V,[]⟩ (qz rs R) (qM rs R) ρ w)->Calls Tryz.prog f #[] w R
def c0 (a:List Nat) {f n:Nat} {fn:Func} {V:List Nat} {ir:IR} {rs:List RV} (g:Tryz.prog.funcs[f]? =some fn) (j:fn.body=some (fn.body.getD .skip):=by rfl) (c:(jk Tryz.prog fn.ntmps V a (fn.body.getD .skip)).map IR.norm=some ir:=by kernel_rfl) (b:zi Tryz.prog V fn.results.toList=some rs:=by kernel_rfl) (e:(kn fn V&&Nat.ble 0 fn.ntmps&&Nat.beq fn.ntmps n)=true:=by kernel_rfl):C0 f n V ir rs:=by
 simp only [km] at e;obtain ⟨⟨i,k⟩,a3⟩:=e;have l:=um a3;subst l;exact fun {w R} h=>qbD (args:=#[]) g j c i b (uI k) (h _)
abbrev C1 (f n:Nat) (V:List Nat) (ir:IR) (rs:List RV):Prop:=∀{v0:AB} {w:AA} {R:Ending->AA->Prop},(∀ρ:qa,ρ 0=v0->ir.wp ⟨Tryz.prog,n,V,[]⟩ (qz rs R) (qM rs R) ρ w)->Calls Tryz.prog f #[v0] w R
def c1 (a:List Nat) {f n:Nat} {fn:Func} {V:List Nat} {ir:IR} {rs:List RV} (g:Tryz.prog.funcs[f]? =some fn) (j:fn.body=some (fn.body.getD .skip):=by rfl) (c:(jk Tryz.prog fn.ntmps V a (fn.body.getD .skip)).map IR.norm=some ir:=by kernel_rfl) (b:zi Tryz.prog V fn.results.toList=some rs:=by kernel_rfl) (e:(kn fn V&&Nat.ble 1 fn.ntmps&&Nat.beq fn.ntmps n&&V.contains 0)=true:=by kernel_rfl):C1 f n V ir rs:=by
 simp only [km] at e;obtain ⟨⟨⟨i,k⟩,a3⟩,b0⟩:=e;have l:=um a3;subst l;exact fun {v0 w R} h=>qbD (args:=#[v0]) g j c i b (uI k) (h _ (sE b0 (by decide)))
abbrev C2 (f n:Nat) (V:List Nat) (ir:IR) (rs:List RV):Prop:=∀{v0 v1:AB} {w:AA} {R:Ending->AA->Prop},(∀ρ:qa,ρ 0=v0->ρ 1=v1->ir.wp ⟨Tryz.prog,n,V,[]⟩ (qz rs R) (qM rs R) ρ w)->Calls Tryz.prog f #[v0,v1] w R
def c2 (a:List Nat) {f n:Nat} {fn:Func} {V:List Nat} {ir:IR} {rs:List RV} (g:Tryz.prog.funcs[f]? =some fn) (j:fn.body=some (fn.body.getD .skip):=by rfl) (c:(jk Tryz.prog fn.ntmps V a (fn.body.getD .skip)).map IR.norm=some ir:=by kernel_rfl) (b:zi Tryz.prog V fn.results.toList=some rs:=by kernel_rfl) (e:(kn fn V&&Nat.ble 2 fn.ntmps&&Nat.beq fn.ntmps n&&V.contains 0&&V.contains 1)=true:=by kernel_rfl):C2 f n V ir rs:=by
 simp only [km] at e;obtain ⟨⟨⟨⟨i,k⟩,a3⟩,b0⟩,o⟩:=e;have m:=um a3;subst m;exact fun {v0 l w R} h=>qbD (args:=#[v0,l]) g j c i b (uI k) (h _ (sE b0 (by decide)) (sE o (by decide)))
abbrev C3 (f n:Nat) (V:List Nat) (ir:IR) (rs:List RV):Prop:=∀{v0 v1 v2:AB} {w:AA} {R:Ending->AA->Prop},(∀ρ:qa,ρ 0=v0->ρ 1=v1->ρ 2=v2->ir.wp ⟨Tryz.prog,n,V,[]⟩ (qz rs R) (qM rs R) ρ w)->Calls Tryz.prog f #[v0,v1,v2] w R
def c3 (a:List Nat) {f n:Nat} {fn:Func} {V:List Nat} {ir:IR} {rs:List RV} (g:Tryz.prog.funcs[f]? =some fn) (j:fn.body=some (fn.body.getD .skip):=by rfl) (c:(jk Tryz.prog fn.ntmps V a (fn.body.getD .skip)).map IR.norm=some ir:=by kernel_rfl) (b:zi Tryz.prog V fn.results.toList=some rs:=by kernel_rfl) (e:(kn fn V&&Nat.ble 3 fn.ntmps&&Nat.beq fn.ntmps n&&V.contains 0&&V.contains 1&&V.contains 2)=true:=by kernel_rfl):C3 f n V ir rs:=by
 simp only [km] at e;obtain ⟨⟨⟨⟨⟨i,k⟩,a3⟩,b0⟩,p⟩,b2⟩:=e;have o:=um a3;subst o;exact fun {v0 l m w R} h=>qbD (args:=#[v0,l,m]) g j c i b (uI k) (h _ (sE b0 (by decide)) (sE p (by decide)) (sE b2 (by decide)))
abbrev C4 (f n:Nat) (V:List Nat) (ir:IR) (rs:List RV):Prop:=∀{v0 v1 v2 v3:AB} {w:AA} {R:Ending->AA->Prop},(∀ρ:qa,ρ 0=v0->ρ 1=v1->ρ 2=v2->ρ 3=v3->ir.wp ⟨Tryz.prog,n,V,[]⟩ (qz rs R) (qM rs R) ρ w)->Calls Tryz.prog f #[v0,v1,v2,v3] w R
def c4 (a:List Nat) {f n:Nat} {fn:Func} {V:List Nat} {ir:IR} {rs:List RV} (g:Tryz.prog.funcs[f]? =some fn) (j:fn.body=some (fn.body.getD .skip):=by rfl) (c:(jk Tryz.prog fn.ntmps V a (fn.body.getD .skip)).map IR.norm=some ir:=by kernel_rfl) (b:zi Tryz.prog V fn.results.toList=some rs:=by kernel_rfl) (e:(kn fn V&&Nat.ble 4 fn.ntmps&&Nat.beq fn.ntmps n&&V.contains 0&&V.contains 1&&V.contains 2&&V.contains 3)=true:=by kernel_rfl):C4 f n V ir rs:=by
 simp only [km] at e;obtain ⟨⟨⟨⟨⟨⟨i,k⟩,a3⟩,b0⟩,p⟩,b2⟩,b3⟩:=e;have o:=um a3;subst o;exact fun {v0 l m v3 w R} h=>qbD (args:=#[v0,l,m,v3]) g j c i b (uI k) (h _ (sE b0 (by decide)) (sE p (by decide)) (sE b2 (by decide)) (sE b3 (by decide)))
abbrev C5 (f n:Nat) (V:List Nat) (ir:IR) (rs:List RV):Prop:=∀{v0 v1 v2 v3 v4:AB} {w:AA} {R:Ending->AA->Prop},(∀ρ:qa,ρ 0=v0->ρ 1=v1->ρ 2=v2->ρ 3=v3->ρ 4=v4->ir.wp ⟨Tryz.prog,n,V,[]⟩ (qz rs R) (qM rs R) ρ w)->Calls Tryz.prog f #[v0,v1,v2,v3,v4] w R
def c5 (a:List Nat) {f n:Nat} {fn:Func} {V:List Nat} {ir:IR} {rs:List RV} (g:Tryz.prog.funcs[f]? =some fn) (j:fn.body=some (fn.body.getD .skip):=by rfl) (c:(jk Tryz.prog fn.ntmps V a (fn.body.getD .skip)).map IR.norm=some ir:=by kernel_rfl) (b:zi Tryz.prog V fn.results.toList=some rs:=by kernel_rfl) (e:(kn fn V&&Nat.ble 5 fn.ntmps&&Nat.beq fn.ntmps n&&V.contains 0&&V.contains 1&&V.contains 2&&V.contains 3&&V.contains 4)=true:=by kernel_rfl):C5 f n V ir rs:=by
 simp only [km] at e;obtain ⟨⟨⟨⟨⟨⟨⟨i,k⟩,a3⟩,b0⟩,p⟩,b2⟩,b3⟩,b4⟩:=e;have o:=um a3;subst o;exact fun {v0 l m v3 v4 w R} h=>qbD (args:=#[v0,l,m,v3,v4]) g j c i b (uI k) (h _ (sE b0 (by decide)) (sE p (by decide)) (sE b2 (by decide)) (sE b3 (by decide)) (sE b4 (by decide)))
abbrev C6 (f n:Nat) (V:List Nat) (ir:IR) (rs:List RV):Prop:=∀{v0 v1 v2 v3 v4 v5:AB} {w:AA} {R:Ending->AA->Prop},(∀ρ:qa,ρ 0=v0->ρ 1=v1->ρ 2=v2->ρ 3=v3->ρ 4=v4->ρ 5=v5->ir.wp ⟨Tryz.prog,n,V,[]⟩ (qz rs R) (qM rs R) ρ w)->Calls Tryz.prog f #[v0,v1,v2,v3,v4,v5] w R
def c6 (a:List Nat) {f n:Nat} {fn:Func} {V:List Nat} {ir:IR} {rs:List RV} (g:Tryz.prog.funcs[f]? =some fn) (k:fn.body=some (fn.body.getD .skip):=by rfl) (c:(jk Tryz.prog fn.ntmps V a (fn.body.getD .skip)).map IR.norm=some ir:=by kernel_rfl) (b:zi Tryz.prog V fn.results.toList=some rs:=by kernel_rfl) (e:(kn fn V&&Nat.ble 6 fn.ntmps&&Nat.beq fn.ntmps n&&V.contains 0&&V.contains 1&&V.contains 2&&V.contains 3&&V.contains 4&&V.contains 5)=true:=by kernel_rfl):C6 f n V ir rs:=by
 simp only [km] at e;obtain ⟨⟨⟨⟨⟨⟨⟨⟨j,l⟩,a3⟩,b0⟩,q⟩,b2⟩,b3⟩,b4⟩,i⟩:=e;have p:=um a3;subst p;exact fun {v0 m o v3 v4 v5 w R} h=>qbD (args:=#[v0,m,o,v3,v4,v5]) g k c j b (uI l) (h _ (sE b0 (by decide)) (sE q (by decide)) (sE b2 (by decide)) (sE b3 (by decide)) (sE b4 (by decide)) (sE i (by decide)))
end Go.Eng
namespace Go.L02
open Go Go.Eng Go.Proofs
set_option maxRecDepth 100000
set_option maxHeartbeats 2000000
noncomputable def qqz:Code:=((Tryz.f54.body).getD .skip)
def qbs:IR:=zq [zE 16 (.makeFunc (.func 116) #[] #[zt 5,zt 2,zt 6,zt 4]) 1,.eff none none (.defer {callee:=.value (zt 16),args:=#[],argTypes:=#[]}) 0,zm 17 1,zE 18 (.call {callee:=.value (zt 17),args:=#[],argTypes:=#[]}) 0,zw 4 (zt 4) (.const (zb true))] <| .ret
def qdQ:IR:=zq [zE 2 (.box 83 (zt 0)) 0,zA 4 4] <| .seq (.raw (qv qqz 1)) (qbs)
def qbt:List Nat:=zV 19 [3]
theorem qDV:(jk Tryz.prog Tryz.f54.ntmps qbt [1] (Tryz.f54.body.getD .skip)).map IR.norm=some qdQ:=by kernel_rfl
def qiU {v0 a:AB} {w:AA} {R:Ending->AA->Prop} (h:∀ρ:qa,ρ 0=v0->ρ 1=a->ρ gS=.tuple #[]->qdQ.wp ⟨Tryz.prog,19,qbt,yL⟩ (vl Tryz.prog [.cell1 4] R .returning) (zJ Tryz.prog [.cell1 4] R) ρ w):
  Calls Tryz.prog 54 #[v0,a] w R:=by
 obtain ⟨e,g,b⟩:=uc.1 qDV;exact qv7 (args:=#[v0,a]) Tryz.func54 (c:=(Tryz.f54.body.getD .skip)) rfl g b (by kernel_rfl) (show zi Tryz.prog qbt Tryz.f54.results.toList=some [.cell1 4] by kernel_rfl) (uI rfl) (h _ rfl rfl rfl)
def qfx:OT:=zy 7 (zl (zv 2))<|zy 8 (zN (zv 7))<|zy 9 (zf 1 (zv 8))<|zy 10 (zl (zv 9))<|zy 11 (zl (zv 2))<|zy 12 (zN (zv 11))<|zy 13 (zf 3 (zv 12))<|zy 14 (zl (zv 13))<|zy 15 (zL (zv 14))<| .both (.step (zA 5 3) true<| .step (zA 6 3) true<| .step (zw 3 (zt 5) (zt 10)) true<| .step (zw 3 (zt 6) (zt 15)) false<| .done)<| .step (zA 6 3) true<| .step (zA 5 3) true<| .step (zw 3 (zt 5) (zt 10)) true<| .step (zw 3 (zt 6) (zt 15)) false<| .done
theorem qiT:jx Tryz.prog 19 qbt 12 (qv qqz 1)=some qfx:=by kernel_rfl
noncomputable def qu1:Code:=((Tryz.f116.body).getD .skip)
def qu0:IR:=.raw (qv qu1 5)
def qfZ:List Nat:=zV 31 [15]
def quZ:OT:=zy 18 (zl (zv 1))<|zy 19 (zl (zv 1))<|zy 20 (zl (zv 0))<|zy 21 (zl (zv 1))<|zy 22 (zN (zv 21))<|zy 23 (zf 3 (zv 22))<|zy 24 (zl (zv 23))<|zy 25 (zl (zv 2))<|zy 26 (.op3 (.slLoHi 6) (zv 24) (zK 0) (zv 25))<|zy 27 (zN (zv 18))<|zy 28 (zf 1 (zv 27))<| .step (zw 3 (zt 28) (zt 20)) true<| .step (za 29 (zN (zv 19))) false<| .step (za 30 (zf 3 (zv 29))) false<| .step (zw 29 (zt 30) (zt 26)) false<| .step (zw 4 (zt 3) (.const (zb false))) false<| .done
theorem qHv:jx Tryz.prog 31 qfZ 12 (qv qu1 5)=some quZ:=by kernel_rfl
noncomputable def qug:Code:=((Tryz.f142.body).getD .skip)
def quf:IR:=.ret
def que:IR:=zq [zE 29 (.build 53 #[]) 53,zw 53 (zt 4) (zt 29)] <| .ret
def qj0:IR:=.seq (.cond (zv 16) (.seq (.raw (qv qug 2)) (quf)) .skip) (que)
def qui:IR:=zq [zA 4 53] <| .seq (.drw [za 16 (zI .lss (zI .add (zo 1 (zN (zv 0))) (zv 1)) (zL (zo 0 (zN (zv 0)))))]) (qj0)
def quh:List Nat:=zV 30 [2,3,5,6,7,8,9,10,11,12,13,14,15]
def qGZ:C2 142 30 quh qui [.cellN 4 3]:=c2 [2] Tryz.func142
def qud:OT:=zy 17 (zv 0)<|zy 18 (zN (zv 17))<|zy 19 (zf 0 (zv 18))<|zy 20 (zl (zv 19))<|zy 21 (zv 0)<|zy 22 (zN (zv 21))<|zy 23 (zf 1 (zv 22))<|zy 24 (zl (zv 23))<|zy 25 (zv 1)<|zy 26 (zI .add (zv 24) (zv 25))<| .step (za 27 (zx 3 (zv 20) (zv 26))) false<| .step (za 28 (zM 3 (zv 27))) false<| .step (zw 53 (zt 4) (zt 28)) false<| .done
theorem qGY:jx Tryz.prog 30 quh 10 (qv qug 2)=some qud:=by kernel_rfl
def quj:IR:=zq [za 4 (zQ false),zm 6 0,zc 7 142 #[zt 6,zO 0] #[83,3] 53,zA 5 53,zw 53 (zt 5) (zt 7),za 16 (.ite (zB .eql (zo 0 (zv 5)) (.const (zu 2))) (zQ true) (zB .eql (zo 0 (zv 5)) (.const (zu 4)))),zg 16 true 17 (zv 1),zg 16 true 19 (zo 1 (zv 5)),zh 16 true 20 160 #[zt 17,zt 19] #[51,9] 4,za 4 (.ite (zv 16) (zv 20) (zQ false))] <| .ret
def qG1:List Nat:=[0,1,4,5,6,7,16,17,19,20]
def qG0:C2 141 22 qG1 quj [.tmp 4]:=c2 [] Tryz.func141
def quX:IR:=zq [zm 10 0,za 14 (zI .add (zo 1 (zN (zv 10))) (zK 1)),za 16 (zf 1 (zN (zv 10))),zw 3 (zt 16) (zt 14),za 4 (zQ true)] <| .ret
def quY:IR:=zq [za 4 (zQ false),zm 5 0,zm 6 1,zE 7 (.buildSlice 51 1 #[(0,(zt 6))]) 51,zc 8 141 #[zt 5,zt 7] #[83,51] 4,za 9 (zn (zv 8))] <| .seq (.cond (zv 9) (zq [za 4 (zQ false)] <| .ret) .skip) (quX)
def qHu:List Nat:=zV 17 [2,3,11,12,13,15]
def qHt:C2 117 17 qHu quY [.tmp 4]:=c2 [] Tryz.func117
def qtW:IR:=.reg [za 8 (zI .add (zv 8) (zK 1))]
def qtV:IR:=.seq (.block 1 (zq [za 5 (zl (zx 1 (zv 6) (zv 8))),zm 12 0,zm 13 5,zc 14 117 #[zt 12,zt 13] #[83,9] 4,za 15 (zn (zv 14))] <| .cond (zv 15) (.reg [zm 16 0,zc 17 143 #[zt 16] #[83] 0]) .skip)) (qtW)
def qjQ:IR:=zq [za 9 (zI .lss (zv 8) (zv 7))] <| .seq (.cond (zv 9) .skip (.exit 0)) (qtV)
def qtX:IR:=zq [zm 6 1,za 7 (zL (zv 6)),za 8 (zK 0)] <| .block 0 (.loop qjQ)
def qGM:List Nat:=zV 18 [2,3,4,10,11]
def qGL:C2 153 19 qGM qtX []:=c2 [] Tryz.func153
def quQ:IR:=zq [zm 11 0,za 15 (zI .add (zo 1 (zN (zv 11))) (zK 1)),za 17 (zf 1 (zN (zv 11))),zw 3 (zt 17) (zt 15),za 2 (zo 1 (zv 3))] <| .ret
def quR:IR:=zq [za 2 (.const (zs #[])),zm 4 0,zc 5 142 #[zt 4,zO 0] #[83,3] 53,zA 3 53,zw 53 (zt 3) (zt 5),za 8 (zB .neq (zo 0 (zv 3)) (.const (zu 1)))] <| .seq (.cond (zv 8) (.reg [zm 9 0,zc 10 143 #[zt 9] #[83] 0]) .skip) (quQ)
def qHp:List Nat:=zV 18 [1,6,7,12,13,14,16]
def qHo:C1 120 20 qHp quR [.tmp 2]:=c1 [] Tryz.func120
noncomputable def qua:Code:=((Tryz.f143.body).getD .skip)
def qt9:IR:=.reg [zE 14 (.build 153 #[]) 153,za 15 (.op1 (.mkif 153) (zv 14)),.eff none none (.panic (zt 15)) 0]
def quc:IR:=.seq (.raw (qv qua 0)) (qt9)
def qub:List Nat:=zV 16 [1]
def qGX:C1 143 16 qub quc []:=c1 [0] Tryz.func143
def qt8:OT:=zy 2 (zv 0)<|zy 3 (zv 0)<|zy 4 (zN (zv 3))<|zy 5 (zf 2 (zv 4))<|zy 6 (zl (zv 5))<|zy 7 (zv 0)<|zy 8 (zN (zv 7))<|zy 9 (zf 1 (zv 8))<|zy 10 (zl (zv 9))<| .step (zE 11 (.call {callee:=.builtin .max,args:=#[zt 6,zt 10],argTypes:=#[3,3]}) 3) true<| .step (za 12 (zN (zv 2))) false<| .step (za 13 (zf 2 (zv 12))) false<| .step (zw 3 (zt 13) (zt 11)) false<| .done
theorem qGW:jx Tryz.prog 16 qub 10 (qv qua 0)=some qt8:=by kernel_rfl
def qiJ:IR:=.cond (zv 11) (.reg [zm 12 0,zc 13 143 #[zt 12] #[83] 0]) .skip
def qqa:IR:=.seq (.drw [za 11 (zI .lss (zo 1 (zN (zv 0))) (zL (zo 0 (zN (zv 0)))))]) (qiJ)
def qDJ:List Nat:=[0,11,12,13]
def qDI:C1 63 14 qDJ qqa []:=c1 [] Tryz.func63
def qtO:IR:=.reg [zm 15 0,za 19 (zI .add (zo 1 (zN (zv 15))) (zK 1)),za 21 (zf 1 (zN (zv 15))),zw 3 (zt 21) (zt 19)]
def qtP:IR:=zq [zm 3 0,zc 4 142 #[zt 3,zO 0] #[83,3] 53,zA 2 53,zw 53 (zt 2) (zt 4),za 12 (.ite (zB .neq (zo 0 (zv 2)) (.const (zu 1))) (zQ true) (zS .neq (zo 1 (zv 2)) (.const (zs #[116]))))] <| .seq (.cond (zv 12) (.reg [zm 13 0,zc 14 143 #[zt 13] #[83] 0]) .skip) (qtO)
def qGG:List Nat:=[0,2,3,4,12,13,14,15,19,21]
def qGF:C1 156 22 qGG qtP []:=c1 [] Tryz.func156
def qp5:IR:=.block 0 (zq [zm 12 0,zc 13 117 #[zt 12,zY #[105,110,116]] #[83,9] 4,zm 14 13,zg 14 false 15 (zv 0),zh 14 false 16 117 #[zt 15,zY #[98,111,111,108]] #[83,9] 4,za 18 (.ite (zv 14) (zQ true) (zv 16)),zg 18 false 19 (zv 0),zh 18 false 20 117 #[zt 19,zY #[110,117,108,108]] #[83,9] 4,za 11 (.ite (zv 18) (zQ true) (zv 20))] <| .cond (zv 11) .skip (zq [zm 23 0,zc 24 117 #[zt 23,zY #[97,114,114,97,121]] #[83,9] 4,zm 22 24] <| .cond (zv 22) (.reg [zm 25 0,zE 26 (.buildSlice 51 1 #[(0,(zY #[91]))]) 51,zc 27 153 #[zt 25,zt 26] #[83,51] 0,zm 28 0,zc 29 72 #[zt 28] #[83] 0,zm 30 0,zE 31 (.buildSlice 51 1 #[(0,(zY #[93]))]) 51,zc 32 153 #[zt 30,zt 31] #[83,51] 0]) (zq [zm 34 0,zc 35 117 #[zt 34,zY #[114,101,99,111,114,100]] #[83,9] 4,zm 36 35,zg 36 false 37 (zv 0),zh 36 false 38 117 #[zt 37,zY #[111,110,101,111,102]] #[83,9] 4,za 33 (.ite (zv 36) (zQ true) (zv 38))] <| .cond (zv 33) (.reg [zm 40 0,zE 41 (.buildSlice 51 1 #[(0,(zY #[91]))]) 51,zc 42 153 #[zt 40,zt 41] #[83,51] 0,zm 43 0,zm 44 0,zE 45 (.makeFunc (.func 155) #[zt 44] #[]) 129,zc 46 154 #[zt 43,zt 45] #[83,129] 51,zm 47 0,zE 48 (.buildSlice 51 1 #[(0,(zY #[93]))]) 51,zc 49 153 #[zt 47,zt 48] #[83,51] 0]) (zq [zm 51 0,zc 52 117 #[zt 51,zY #[63]] #[83,9] 4,zm 50 52] <| .cond (zv 50) (.reg [zm 53 0,zc 54 156 #[zt 53] #[83] 0]) (zq [zm 2 0,zc 3 120 #[zt 2] #[83] 9,zm 4 0,zc 5 117 #[zt 4,zY #[91]] #[83,9] 4] <| .cond (zv 5) (.reg [zm 6 0,zc 7 72 #[zt 6] #[83] 0,zm 8 0,zE 9 (.buildSlice 51 1 #[(0,(zY #[93]))]) 51,zc 10 153 #[zt 8,zt 9] #[83,51] 0]) .skip)))))
def qDB:List Nat:=zV 55 [1,17,21,39]
def qDA:C1 72 55 qDB qp5 []:=c1 [] Tryz.func72
def qtQ:IR:=zq [za 2 (.const (zs #[])),zm 3 0,zc 4 120 #[zt 3] #[83] 9,zm 5 0,zE 6 (.buildSlice 51 1 #[(0,(zY #[58]))]) 51,zc 7 153 #[zt 5,zt 6] #[83,51] 0,zm 8 0,zc 9 72 #[zt 8] #[83] 0,za 2 (.const (zs #[]))] <| .ret
def qGI:List Nat:=zV 10 [1]
def qGH:C1 155 10 qGI qtQ [.tmp 2]:=c1 [] Tryz.func155
def qtT:IR:=.block 1 (.reg [zm 11 5,zm 12 1,zE 13 (.call {callee:=.value (zt 12),args:=#[],argTypes:=#[]}) 9,zE 14 (.buildSlice 51 1 #[(0,(zt 13))]) 51,zp 15 #[zt 11,zt 14] #[51,51] 51,zm 5 15])
def qtR:IR:=zq [zm 9 0,zc 10 117 #[zt 9,zY #[44]] #[83,9] 4] <| .seq (.cond (zv 10) .skip (.exit 0)) (qtT)
def qtS:IR:=zq [zm 4 5] <| .ret
def qtU:IR:=zq [za 4 (.const (.slice none 0 0)),zm 6 1,zE 7 (.call {callee:=.value (zt 6),args:=#[],argTypes:=#[]}) 9,zE 8 (.buildSlice 51 1 #[(0,(zt 7))]) 51,zm 5 8] <| .seq (.block 0 (.loop qtR)) (qtS)
def qGK:List Nat:=zV 16 [2,3]
def qGJ:C2 154 17 qGK qtU [.tmp 4]:=c2 [] Tryz.func154
def qtc:IR:=.ret
def qtd:IR:=zq [za 2 (.const (zs #[])),za 3 (zo 1 (zN (zv 0))),zm 8 0,zc 9 72 #[zt 8] #[83] 0] <| .seq (.drw [za 19 (.op3 (.slLoHi 3) (zo 0 (zN (zv 0))) (zv 3) (zo 1 (zN (zv 0)))),zc 20 73 #[zt 19] #[48] 9,zm 2 20]) (qtc)
def qGc:List Nat:=[0,2,3,8,9,19,20]
def qGb:C1 202 21 qGc qtd [.tmp 2]:=c1 [] Tryz.func202
def qp3:IR:=.reg [za 8 (zI .add (zv 8) (zK 1))]
def qp2:IR:=.seq (.block 1 (.reg [za 11 (zM 3 (zx 3 (zv 6) (zv 8))),zA 5 53,zw 53 (zt 5) (zt 11),za 13 (zo 1 (zv 5)),zc 14 89 #[zt 3,zt 13] #[114,9] 127])) (qp3)
def qiI:IR:=zq [za 9 (zI .lss (zv 8) (zv 7))] <| .seq (.cond (zv 9) .skip (.exit 0)) (qp2)
def qp1:IR:=zq [zc 16 90 #[zt 3] #[114] 9,zm 2 16] <| .ret
def qp4:IR:=zq [za 2 (.const (zs #[])),zA 3 114,zm 6 0,za 7 (zL (zv 6)),za 8 (zK 0)] <| .seq (.block 0 (.loop qiI)) (qp1)
def qDz:List Nat:=zV 17 [1,4,10,12,15]
def qDy:C1 73 17 qDz qp4 [.tmp 2]:=c1 [] Tryz.func73
noncomputable def qum:Code:=((Tryz.f140.body).getD .skip)
def qul:IR:=zq [za 4 (zI .sub (zL (zo 3 (zN (zv 0)))) (zK 1))] <| .ret
def qup:IR:=zq [zE 3 (.box 44 (zt 1)) 0,za 4 (zK 0)] <| .seq (.raw (qv qum 1)) (qul)
def qun:List Nat:=zV 15 [2]
def qG3:C2 140 21 qun qup [.tmp 4]:=c2 [1] Tryz.func140
def quk:OT:=zy 5 (zv 0)<|zy 6 (zv 0)<|zy 7 (zN (zv 6))<|zy 8 (zf 3 (zv 7))<|zy 9 (zl (zv 8))<|zy 10 (zM 6 (zv 3))<| .step (zE 11 (.buildSlice 29 1 #[(0,(zt 10))]) 29) true<| .step (zp 12 #[zt 9,zt 11] #[29,29] 29) true<| .step (za 13 (zN (zv 5))) false<| .step (za 14 (zf 3 (zv 13))) false<| .step (zw 29 (zt 14) (zt 12)) false<| .done
theorem qG2:jx Tryz.prog 21 qun 8 (qv qum 1)=some quk:=by kernel_rfl
def qi0:IR:=zq [zm 2 4] <| .ret
def qiZ:IR:=zq [zm 24 0,zc 25 120 #[zt 24] #[83] 9,zm 4 25,zm 26 0,zc 27 117 #[zt 26,zY #[95]] #[83,9] 4] <| .seq (.cond (zv 27) (.reg [zm 28 4,zm 29 0,zc 30 120 #[zt 29] #[83] 9,za 4 (zS .add (zv 28) (zS .add (.const (zs #[95])) (zv 30)))]) .skip) (qi0)
def qq3:IR:=zq [za 2 (.const (zs #[])),zm 5 0,zc 6 142 #[zt 5,zO 0] #[83,3] 53,zA 3 53,zw 53 (zt 3) (zt 6),za 10 (zB .eql (zo 0 (zv 3)) (.const (zu 2))),zg 10 true 12 (zo 1 (zv 3)),zh 10 true 13 75 #[zt 12] #[9] 4,za 14 (.ite (zv 10) (zv 13) (zQ false))] <| .seq (.cond (zv 14) (zq [zm 15 0,za 19 (zI .add (zo 1 (zN (zv 15))) (zK 1)),za 21 (zf 1 (zN (zv 15))),zw 3 (zt 21) (zt 19),za 2 (zo 1 (zv 3))] <| .ret) .skip) (qiZ)
def qq2:List Nat:=zV 31 [1,7,8,9,11,16,17,18,20,22,23]
def qEc:C1 327 34 qq2 qq3 [.tmp 2]:=c1 [] Tryz.func327
def qq4:IR:=zq [za 2 (.const (.slice none 0 0)),zm 3 0,zm 4 0,zE 5 (.makeFunc (.func 62) #[zt 4] #[]) 96,zc 6 353 #[zt 3,zt 5] #[83,96] 40,zm 2 6] <| .ret
def qEe:List Nat:=zV 7 [1]
def qEd:C1 326 7 qEe qq4 [.tmp 2]:=c1 [] Tryz.func326
def qqU:IR:=zq [zm 11 0,zm 12 1,zc 13 364 #[zt 11,zt 12] #[83,96] 40,zm 5 13,zm 14 0,zE 15 (.buildSlice 51 1 #[(0,(zY #[41]))]) 51,zc 16 153 #[zt 14,zt 15] #[83,51] 0,zm 4 5] <| .ret
def qqV:IR:=zq [za 4 (.const (.slice none 0 0)),zm 6 0,zE 7 (.buildSlice 51 1 #[(0,(zY #[40]))]) 51,zc 8 153 #[zt 6,zt 7] #[83,51] 0,zm 9 0,zc 10 117 #[zt 9,zY #[41]] #[83,9] 4] <| .seq (.cond (zv 10) (zq [za 4 (.const (.slice none 0 0))] <| .ret) .skip) (qqU)
def qD7:List Nat:=zV 17 [2,3]
def qD6:C2 353 18 qD7 qqV [.tmp 4]:=c2 [] Tryz.func353
def qqS:IR:=.block 1 (.reg [zm 11 5,zm 12 1,zE 13 (.call {callee:=.value (zt 12),args:=#[],argTypes:=#[]}) 3,zE 14 (.buildSlice 40 1 #[(0,(zt 13))]) 40,zp 15 #[zt 11,zt 14] #[40,40] 40,zm 5 15])
def qqQ:IR:=zq [zm 9 0,zc 10 117 #[zt 9,zY #[44]] #[83,9] 4] <| .seq (.cond (zv 10) .skip (.exit 0)) (qqS)
def qqR:IR:=zq [zm 4 5] <| .ret
def qqT:IR:=zq [za 4 (.const (.slice none 0 0)),zm 6 1,zE 7 (.call {callee:=.value (zt 6),args:=#[],argTypes:=#[]}) 3,zE 8 (.buildSlice 40 1 #[(0,(zt 7))]) 40,zm 5 8] <| .seq (.block 0 (.loop qqQ)) (qqR)
def qD5:List Nat:=zV 16 [2,3]
def qD4:C2 364 17 qD5 qqT [.tmp 4]:=c2 [] Tryz.func364
def qjh:IR:=zq [zm 15 0,zc 16 326 #[zt 15] #[83] 40,za 17 (zf 5 (zv 3)),zw 40 (zt 17) (zt 16),zm 18 0,za 19 (zM 6 (zv 3)),zc 20 140 #[zt 18,zt 19] #[83,44] 3,zm 2 20] <| .ret
def qrQ:IR:=zq [za 2 (zK 0),zm 4 0,zc 5 120 #[zt 4] #[83] 9,zE 6 (.build 44 #[(0,(.const (zu 5))),(1,(zt 5))]) 44,zA 3 44,zw 44 (zt 3) (zt 6),zm 7 0,zc 8 117 #[zt 7,zY #[123]] #[83,9] 4] <| .seq (.cond (zv 8) (.reg [zm 9 0,zc 10 202 #[zt 9] #[83] 9,za 11 (zf 3 (zv 3)),zw 9 (zt 11) (zt 10),zm 12 0,zE 13 (.buildSlice 51 1 #[(0,(zY #[125]))]) 51,zc 14 153 #[zt 12,zt 13] #[83,51] 0]) .skip) (qjh)
def qrP:List Nat:=zV 21 [1]
def qEY:C1 274 21 qrP qrQ [.tmp 2]:=c1 [] Tryz.func274
def qrM:IR:=zq [za 4 (zK 0),zm 6 1,zm 7 0,zc 8 327 #[zt 7] #[83] 9,zE 9 (.build 44 #[(0,(.const (zu 5))),(2,(zt 6)),(1,(zt 8))]) 44,zA 5 44,zw 44 (zt 5) (zt 9),zm 10 0,zc 11 326 #[zt 10] #[83] 40,za 12 (zf 5 (zv 5)),zw 40 (zt 12) (zt 11),zm 13 0,za 14 (zM 6 (zv 5)),zc 15 140 #[zt 13,zt 14] #[83,44] 3,zm 4 15] <| .ret
def qET:List Nat:=zV 16 [2,3]
def qES:C2 277 16 qET qrM [.tmp 4]:=c2 [] Tryz.func277
def qrN:IR:=zq [za 2 (.const (zs #[])),zm 4 0,zc 5 202 #[zt 4] #[83] 9,zm 3 5,zm 6 0,zE 7 (.buildSlice 51 1 #[(0,(zY #[36]))]) 51,zc 8 153 #[zt 6,zt 7] #[83,51] 0,zm 2 3] <| .ret
def qEV:List Nat:=zV 9 [1]
def qEU:C1 276 10 qEV qrN [.tmp 2]:=c1 [] Tryz.func276
def qjd:IR:=zq [zm 21 0,zm 22 0,zc 23 276 #[zt 22] #[83] 9,zc 24 277 #[zt 21,zt 23] #[83,9] 3,zm 2 24] <| .ret
def qrk:IR:=zq [za 2 (zK 0),zm 4 0,zc 5 142 #[zt 4,zO 1] #[83,3] 53,za 3 (.op1 (.fld 1) (zv 5)),zm 7 0,zc 8 142 #[zt 7,zO 0] #[83,3] 53,za 18 (.ite (zB .eql (.op1 (.fld 0) (zv 8)) (.const (zu 1))) (.ite (zS .eql (zv 3) (.const (zs #[40]))) (zQ true) (zS .eql (zv 3) (.const (zs #[123])))) (zQ false))] <| .seq (.cond (zv 18) (zq [zm 19 0,zc 20 274 #[zt 19] #[83] 3,zm 2 20] <| .ret) .skip) (qjd)
def qrj:List Nat:=zV 25 [1,6,9,10,11,12,13,14,15,16,17]
def qEn:C1 315 25 qrj qrk [.tmp 2]:=c1 [] Tryz.func315
def qrO:IR:=.reg [za 2 (zl (zv 0)),zc 3 276 #[zt 2] #[83] 9,zw 9 (zt 1) (zt 3)]
def qEX:List Nat:=zV 4 []
def qEW:C2 275 4 qEX qrO []:=c2 [] Tryz.func275
def quv:IR:=.block 1 (.block 2 (zq [zm 17 0,zc 18 117 #[zt 17,zY #[91]] #[83,9] 4,zm 16 18] <| .cond (zv 16) (.reg [zm 19 0,zc 20 62 #[zt 19] #[83] 3,zm 7 20,zm 21 0,zE 22 (.buildSlice 51 1 #[(0,(zY #[93]))]) 51,zc 23 153 #[zt 21,zt 22] #[83,51] 0,zm 24 0,zm 25 4,zm 26 7,zE 27 (.buildSlice 40 2 #[(0,(zt 25)),(1,(zt 26))]) 40,zE 28 (.build 44 #[(0,(.const (zu 7))),(5,(zt 27))]) 44,zc 29 140 #[zt 24,zt 28] #[83,44] 3,zm 4 29,za 6 (zK 2)]) (zq [zm 31 0,zc 32 117 #[zt 31,zY #[46]] #[83,9] 4,zm 30 32] <| .cond (zv 30) (.reg [zm 33 0,zm 34 0,zc 35 120 #[zt 34] #[83] 9,zm 36 4,zE 37 (.buildSlice 40 1 #[(0,(zt 36))]) 40,zE 38 (.build 44 #[(0,(.const (zu 8))),(1,(zt 35)),(5,(zt 37))]) 44,zc 39 140 #[zt 33,zt 38] #[83,44] 3,zm 4 39,za 6 (zK 3)]) (zq [zm 14 4,zm 15 6,zm 2 14,zm 3 15] <| .ret))))
def qj3:IR:=.block 0 (.loop quv)
def qux:IR:=zq [za 2 (zK 0),za 3 (zK 0),zm 9 0,zc 10 217 #[zt 9] #[83] 236,zm 8 10,za 11 (ze 0 (zv 8)),za 12 (ze 1 (zv 8)),zm 4 11,zm 5 12,za 6 (zK 0),zm 13 5] <| .seq (.cond (zv 13) (.reg [za 6 (zK 1)]) .skip) (qj3)
def quw:List Nat:=zV 40 [1]
def qG5:C1 139 40 quw qux [.tmp 2,.tmp 3]:=c1 [] Tryz.func139
def qqc:IR:=zq [zm 32 0,zc 33 142 #[zt 32,zO 0] #[83,3] 53,za 7 (.op1 (.fld 1) (zv 33)),zm 35 0,za 39 (zI .add (zo 1 (zN (zv 35))) (zK 1)),za 41 (zf 1 (zN (zv 35))),zw 3 (zt 41) (zt 39),zm 43 0,zc 44 139 #[zt 43] #[83] 169,zm 42 44,za 45 (ze 0 (zv 42)),za 46 (ze 1 (zv 42)),zm 8 45,zm 9 46,zm 47 0,zm 48 7,zm 49 5,zm 50 8,zE 51 (.buildSlice 40 2 #[(0,(zt 49)),(1,(zt 50))]) 40,zE 52 (.build 44 #[(0,(.const (zu 6))),(1,(zt 48)),(5,(zt 51))]) 44,zc 53 140 #[zt 47,zt 52] #[83,44] 3,zm 2 53] <| .ret
def qqb:IR:=zq [zm 23 0,zc 24 139 #[zt 23] #[83] 169,zm 22 24,za 25 (ze 0 (zv 22)),za 26 (ze 1 (zv 22)),zm 5 25,zm 6 26,zm 27 0,zE 28 (.buildSlice 51 10 #[(0,(zY #[43])),(1,(zY #[45])),(2,(zY #[42])),(3,(zY #[47])),(4,(zY #[109,111,100])),(5,(zY #[60])),(6,(zY #[60,61])),(7,(zY #[61])),(8,(zY #[97,110,100])),(9,(zY #[111,114]))]) 51,zc 29 141 #[zt 27,zt 28] #[83,51] 4,za 30 (zn (zv 29))] <| .seq (.cond (zv 30) (zq [zm 2 5] <| .ret) .skip) (qqc)
def qqd:IR:=zq [za 2 (zK 0),zm 10 0,zc 11 117 #[zt 10,zY #[110,111,116]] #[83,9] 4] <| .seq (.cond (zv 11) (zq [zm 13 0,zc 14 139 #[zt 13] #[83] 169,zm 12 14,za 15 (ze 0 (zv 12)),za 16 (ze 1 (zv 12)),zm 3 15,zm 4 16,zm 17 0,zm 18 3,zE 19 (.buildSlice 40 1 #[(0,(zt 18))]) 40,zE 20 (.build 44 #[(0,(.const (zu 6))),(1,(zY #[110,111,116])),(5,(zt 19))]) 44,zc 21 140 #[zt 17,zt 20] #[83,44] 3,zm 2 21] <| .ret) .skip) (qqb)
def qDL:List Nat:=zV 54 [1,31,34,36,37,38,40]
def qDK:C1 62 54 qDL qqd [.tmp 2]:=c1 [] Tryz.func62
def qrs:IR:=zq [za 2 (zQ false),zm 4 0,zc 5 142 #[zt 4,zO 0] #[83,3] 53,za 3 (.op1 (.fld 0) (zv 5)),za 13 (.ite (zB .eql (zv 3) (.const (zu 1))) (zQ true) (zB .eql (zv 3) (.const (zu 3)))),zg 13 false 14 (zv 0),.eff (some (13,false)) (some 15) (.buildSlice 51 14 #[(0,(zY #[116,114,117,101])),(1,(zY #[102,97,108,115,101])),(2,(zY #[110,105,108])),(3,(zY #[117,112])),(4,(zY #[100,111,119,110])),(5,(zY #[40])),(6,(zY #[110,111,116])),(7,(zY #[105,110,116])),(8,(zY #[98,111,111,108])),(9,(zY #[110,117,108,108])),(10,(zY #[97,114,114,97,121])),(11,(zY #[114,101,99,111,114,100])),(12,(zY #[111,110,101,111,102])),(13,(zY #[63]))]) 51,zh 13 false 16 141 #[zt 14,zt 15] #[83,51] 4,za 2 (.ite (zv 13) (zQ true) (zv 16))] <| .ret
def qEv:List Nat:=[0,2,3,4,5,13,14,15,16]
def qEu:C1 312 18 qEv qrs [.tmp 2]:=c1 [] Tryz.func312
def qrY:IR:=zq [zm 6 0,zc 7 312 #[zt 6] #[83] 4,zm 8 7,zg 8 true 9 (zv 0),.eff (some (8,true)) (some 10) (.buildSlice 51 1 #[(0,(zY #[110,111,116]))]) 51,zh 8 true 11 141 #[zt 9,zt 10] #[83,51] 4,za 2 (.ite (zv 8) (zn (zv 11)) (zQ false))] <| .ret
def qrZ:IR:=zq [za 2 (zQ false),zm 3 0,zE 4 (.buildSlice 51 11 #[(0,(zY #[118,97,114])),(1,(zY #[112,117,116])),(2,(zY #[105,102])),(3,(zY #[119,104,105,108,101])),(4,(zY #[102,111,114])),(5,(zY #[114,101,116,117,114,110])),(6,(zY #[121,105,101,108,100])),(7,(zY #[115,105,103,110,97,108])),(8,(zY #[98,114,101,97,107])),(9,(zY #[98,101,103,105,110])),(10,(zY #[116,97,103,99,97,115,101]))]) 51,zc 5 141 #[zt 3,zt 4] #[83,51] 4] <| .seq (.cond (zv 5) (zq [za 2 (zQ true)] <| .ret) .skip) (qrY)
def qE5:List Nat:=zV 12 [1]
def qE4:C1 269 14 qE5 qrZ [.tmp 2]:=c1 [] Tryz.func269
noncomputable def qfI:Code:=((Tryz.f209.body).getD .skip)
def qsZ:IR:=.block 1 (.raw (qv qfI 5))
def qsX:IR:=zq [zm 14 0,zc 15 117 #[zt 14,zY #[59]] #[83,9] 4] <| .seq (.cond (zv 15) .skip (.exit 0)) (qsZ)
def qsY:IR:=.block 0 (.loop qsX)
def qjy:IR:=zq [zm 23 0,za 24 (zM 6 (zv 3)),zc 25 140 #[zt 23,zt 24] #[83,44] 3,zm 2 25] <| .ret
def qs0:IR:=zq [za 2 (zK 0),zE 4 (.build 44 #[(0,(.const (zu 20)))]) 44,zA 3 44,zw 44 (zt 3) (zt 4),zm 5 0,zc 6 269 #[zt 5] #[83] 4] <| .seq (.cond (zv 6) (.seq (.raw (qv qfI 3)) (qsY)) .skip) (qjy)
def qfJ:List Nat:=zV 26 [1]
def qFZ:C1 209 26 qfJ qs0 [.tmp 2]:=c1 [5,3] Tryz.func209
def qsW:OT:=zy 7 (zf 5 (zv 3))<|zy 8 (zl (zv 7))<|zy 9 (zv 0)<| .step (zc 10 270 #[zt 9] #[83] 3) true<| .step (zE 11 (.buildSlice 40 1 #[(0,(zt 10))]) 40) true<| .step (zp 12 #[zt 8,zt 11] #[40,40] 40) false<| .step (za 13 (zf 5 (zv 3))) false<| .step (zw 40 (zt 13) (zt 12)) false<| .done
theorem qFY:jx Tryz.prog 26 qfJ 5 (qv qfI 3)=some qsW:=by kernel_rfl
def qsV:OT:=zy 16 (zf 5 (zv 3))<|zy 17 (zl (zv 16))<|zy 18 (zv 0)<| .step (zc 19 270 #[zt 18] #[83] 3) true<| .step (zE 20 (.buildSlice 40 1 #[(0,(zt 19))]) 40) true<| .step (zp 21 #[zt 17,zt 20] #[40,40] 40) false<| .step (za 22 (zf 5 (zv 3))) false<| .step (zw 40 (zt 22) (zt 21)) false<| .done
theorem qFX:jx Tryz.prog 26 qfJ 5 (qv qfI 5)=some qsV:=by kernel_rfl
noncomputable def qfy:Code:=((Tryz.f270.body).getD .skip)
def qrV:IR:=zq [zm 53 0,zE 54 (.buildSlice 51 1 #[(0,(zY #[101,110,100]))]) 51,zc 55 153 #[zt 53,zt 54] #[83,51] 0,zm 56 0,za 57 (zM 6 (zv 4)),zc 58 140 #[zt 56,zt 57] #[83,44] 3,zm 2 58] <| .ret
def qrU:IR:=zq [zm 81 0,zE 82 (.buildSlice 51 1 #[(0,(zY #[101,110,100]))]) 51,zc 83 153 #[zt 81,zt 82] #[83,51] 0,zm 84 0,za 85 (zM 6 (zv 5)),zc 86 140 #[zt 84,zt 85] #[83,44] 3,zm 2 86] <| .ret
def qji:IR:=zq [zm 97 0,za 98 (zM 6 (zv 6)),zc 99 140 #[zt 97,zt 98] #[83,44] 3,zm 2 99] <| .ret
def qrT:IR:=zq [zm 133 0,zc 134 318 #[zt 133] #[83] 3,zm 2 134] <| .ret
def qrW:IR:=zq [za 2 (zK 0)] <| .seq (.block 0 (zq [zm 8 0,zc 9 117 #[zt 8,zY #[118,97,114]] #[83,9] 4,zm 7 9] <| .cond (zv 7) (zq [zm 10 0,zc 11 313 #[zt 10,(.const (zu 21))] #[83,5] 44,zA 3 44,zw 44 (zt 3) (zt 11),zm 12 0,zE 13 (.buildSlice 51 1 #[(0,(zY #[58,61]))]) 51,zc 14 153 #[zt 12,zt 13] #[83,51] 0,zm 15 0,zc 16 62 #[zt 15] #[83] 3,zE 17 (.buildSlice 40 1 #[(0,(zt 16))]) 40,za 18 (zf 5 (zv 3)),zw 40 (zt 18) (zt 17),zm 19 0,za 20 (zM 6 (zv 3)),zc 21 140 #[zt 19,zt 20] #[83,44] 3,zm 2 21] <| .ret) (zq [zm 23 0,zc 24 117 #[zt 23,zY #[112,117,116]] #[83,9] 4,zm 22 24] <| .cond (zv 22) (zq [zm 25 0,zm 26 0,zc 27 62 #[zt 26] #[83] 3,zE 28 (.buildSlice 40 1 #[(0,(zt 27))]) 40,zE 29 (.build 44 #[(0,(.const (zu 37))),(5,(zt 28))]) 44,zc 30 140 #[zt 25,zt 29] #[83,44] 3,zm 2 30] <| .ret) (zq [zm 32 0,zc 33 117 #[zt 32,zY #[105,102]] #[83,9] 4,zm 31 33] <| .cond (zv 31) (zq [zm 34 0,zc 35 314 #[zt 34] #[83] 3,zm 2 35] <| .ret) (zq [zm 37 0,zc 38 117 #[zt 37,zY #[119,104,105,108,101]] #[83,9] 4,zm 36 38] <| .cond (zv 36) (zq [zm 39 0,zc 40 62 #[zt 39] #[83] 3,zE 41 (.buildSlice 40 1 #[(0,(zt 40))]) 40,zE 42 (.build 44 #[(0,(.const (zu 27))),(5,(zt 41))]) 44,zA 4 44,zw 44 (zt 4) (zt 42),zm 43 0,zE 44 (.buildSlice 51 1 #[(0,(zY #[100,111]))]) 51,zc 45 153 #[zt 43,zt 44] #[83,51] 0] <| .seq (.raw (qv qfy 13)) (qrV)) (zq [zm 60 0,zc 61 117 #[zt 60,zY #[102,111,114]] #[83,9] 4,zm 59 61] <| .cond (zv 59) (zq [zm 62 0,zc 63 313 #[zt 62,(.const (zu 28))] #[83,5] 44,zA 5 44,zw 44 (zt 5) (zt 63),zm 64 0,zE 65 (.buildSlice 51 1 #[(0,(zY #[105,110]))]) 51,zc 66 153 #[zt 64,zt 65] #[83,51] 0,zm 67 0,zc 68 315 #[zt 67] #[83] 3,zE 69 (.buildSlice 40 1 #[(0,(zt 68))]) 40,za 70 (zf 5 (zv 5)),zw 40 (zt 70) (zt 69),zm 71 0,zE 72 (.buildSlice 51 1 #[(0,(zY #[100,111]))]) 51,zc 73 153 #[zt 71,zt 72] #[83,51] 0] <| .seq (.raw (qv qfy 21)) (qrU)) (zq [zm 88 0,zc 89 117 #[zt 88,zY #[114,101,116,117,114,110]] #[83,9] 4,zm 87 89] <| .cond (zv 87) (zq [zE 90 (.build 44 #[(0,(.const (zu 29)))]) 44,zA 6 44,zw 44 (zt 6) (zt 90),zm 91 0,zc 92 312 #[zt 91] #[83] 4] <| .seq (.cond (zv 92) (.reg [zm 93 0,zc 94 62 #[zt 93] #[83] 3,zE 95 (.buildSlice 40 1 #[(0,(zt 94))]) 40,za 96 (zf 5 (zv 6)),zw 40 (zt 96) (zt 95)]) .skip) (qji)) (zq [zm 101 0,zc 102 117 #[zt 101,zY #[121,105,101,108,100]] #[83,9] 4,zm 100 102] <| .cond (zv 100) (zq [zm 103 0,zm 104 0,zc 105 62 #[zt 104] #[83] 3,zE 106 (.buildSlice 40 1 #[(0,(zt 105))]) 40,zE 107 (.build 44 #[(0,(.const (zu 30))),(5,(zt 106))]) 44,zc 108 140 #[zt 103,zt 107] #[83,44] 3,zm 2 108] <| .ret) (zq [zm 110 0,zc 111 117 #[zt 110,zY #[115,105,103,110,97,108]] #[83,9] 4,zm 109 111] <| .cond (zv 109) (zq [zm 112 0,zm 113 0,zc 114 120 #[zt 113] #[83] 9,zE 115 (.build 44 #[(0,(.const (zu 31))),(1,(zt 114))]) 44,zc 116 140 #[zt 112,zt 115] #[83,44] 3,zm 2 116] <| .ret) (zq [zm 118 0,zc 119 117 #[zt 118,zY #[98,114,101,97,107]] #[83,9] 4,zm 117 119] <| .cond (zv 117) (zq [zm 120 0,zE 121 (.build 44 #[(0,(.const (zu 34)))]) 44,zc 122 140 #[zt 120,zt 121] #[83,44] 3,zm 2 122] <| .ret) (zq [zm 124 0,zc 125 117 #[zt 124,zY #[98,101,103,105,110]] #[83,9] 4,zm 123 125] <| .cond (zv 123) (zq [zm 126 0,zc 127 316 #[zt 126] #[83] 3,zm 2 127] <| .ret) (zq [zm 129 0,zc 130 117 #[zt 129,zY #[116,97,103,99,97,115,101]] #[83,9] 4,zm 128 130] <| .cond (zv 128) (zq [zm 131 0,zc 132 317 #[zt 131] #[83] 3,zm 2 132] <| .ret) .skip)))))))))))) (qrT)
def qjj:List Nat:=zV 135 [1]
def qE1:C1 270 135 qjj qrW [.tmp 2]:=c1 [21,13] Tryz.func270
def qrS:OT:=zy 46 (zf 5 (zv 4))<|zy 47 (zl (zv 46))<|zy 48 (zv 0)<| .step (zc 49 209 #[zt 48] #[83] 3) true<| .step (zE 50 (.buildSlice 40 1 #[(0,(zt 49))]) 40) true<| .step (zp 51 #[zt 47,zt 50] #[40,40] 40) false<| .step (za 52 (zf 5 (zv 4))) false<| .step (zw 40 (zt 52) (zt 51)) false<| .done
theorem qE0:jx Tryz.prog 135 qjj 5 (qv qfy 13)=some qrS:=by kernel_rfl
def qrR:OT:=zy 74 (zf 5 (zv 5))<|zy 75 (zl (zv 74))<|zy 76 (zv 0)<| .step (zc 77 209 #[zt 76] #[83] 3) true<| .step (zE 78 (.buildSlice 40 1 #[(0,(zt 77))]) 40) true<| .step (zp 79 #[zt 75,zt 78] #[40,40] 40) false<| .step (za 80 (zf 5 (zv 5))) false<| .step (zw 40 (zt 80) (zt 79)) false<| .done
theorem qEZ:jx Tryz.prog 135 qjj 5 (qv qfy 21)=some qrR:=by kernel_rfl
def qrr:IR:=zq [zA 4 44,zm 6 1,zm 7 0,zc 8 120 #[zt 7] #[83] 9,zE 9 (.build 44 #[(0,(zt 6)),(1,(zt 8))]) 44,zA 5 44,zw 44 (zt 5) (zt 9),zm 10 0,zE 11 (.buildSlice 51 1 #[(0,(zY #[58]))]) 51,zc 12 153 #[zt 10,zt 11] #[83,51] 0,zm 13 0,zc 14 202 #[zt 13] #[83] 9,za 15 (zf 3 (zv 5)),zw 9 (zt 15) (zt 14),za 16 (zM 6 (zv 5)),zw 44 (zt 4) (zt 16)] <| .ret
def qEt:List Nat:=zV 17 [2,3]
def qEs:C2 313 17 qEt qrr [.cellN 4 6]:=c2 [] Tryz.func313
noncomputable def qch:Code:=((Tryz.f314.body).getD .skip)
def qrp:IR:=.reg [zm 47 0,zE 48 (.buildSlice 51 1 #[(0,(zY #[101,110,100]))]) 51,zc 49 153 #[zt 47,zt 48] #[83,51] 0]
def qje:IR:=zq [zm 50 0,za 51 (zM 6 (zv 3)),zc 52 140 #[zt 50,zt 51] #[83,44] 3,zm 2 52] <| .ret
def qro:IR:=.seq (.block 0 (zq [zm 23 0,zc 24 117 #[zt 23,zY #[101,108,115,101,105,102]] #[83,9] 4,zm 22 24] <| .cond (zv 22) (zq [zm 25 0,zc 26 314 #[zt 25] #[83] 3,zm 4 26] <| .raw (qv qch 7)) (zq [zm 38 0,zc 39 117 #[zt 38,zY #[101,108,115,101]] #[83,9] 4,zm 37 39] <| .cond (zv 37) (.seq (.raw (qv qch 9)) (qrp)) (.reg [zm 19 0,zE 20 (.buildSlice 51 1 #[(0,(zY #[101,110,100]))]) 51,zc 21 153 #[zt 19,zt 20] #[83,51] 0])))) (qje)
def qrq:IR:=zq [za 2 (zK 0),zm 5 0,zc 6 62 #[zt 5] #[83] 3,zE 7 (.buildSlice 40 1 #[(0,(zt 6))]) 40,zE 8 (.build 44 #[(0,(.const (zu 26))),(5,(zt 7))]) 44,zA 3 44,zw 44 (zt 3) (zt 8),zm 9 0,zE 10 (.buildSlice 51 1 #[(0,(zY #[116,104,101,110]))]) 51,zc 11 153 #[zt 9,zt 10] #[83,51] 0] <| .seq (.raw (qv qch 3)) (qro)
def qdR:List Nat:=zV 53 [1]
def qEr:C1 314 53 qdR qrq [.tmp 2]:=c1 [9,7,3] Tryz.func314
def qrn:OT:=zy 12 (zf 5 (zv 3))<|zy 13 (zl (zv 12))<|zy 14 (zv 0)<| .step (zc 15 209 #[zt 14] #[83] 3) true<| .step (zE 16 (.buildSlice 40 1 #[(0,(zt 15))]) 40) true<| .step (zp 17 #[zt 13,zt 16] #[40,40] 40) false<| .step (za 18 (zf 5 (zv 3))) false<| .step (zw 40 (zt 18) (zt 17)) false<| .done
theorem qEq:jx Tryz.prog 53 qdR 5 (qv qch 3)=some qrn:=by kernel_rfl
def qrm:OT:=zy 27 (zf 5 (zv 3))<|zy 28 (zl (zv 27))<|zy 29 (zv 0)<|zy 30 (zv 4)<| .step (zE 31 (.buildSlice 40 1 #[(0,(zt 30))]) 40) true<| .step (zE 32 (.build 44 #[(0,(.const (zu 20))),(5,(zt 31))]) 44) true<| .step (zc 33 140 #[zt 29,zt 32] #[83,44] 3) true<| .step (zE 34 (.buildSlice 40 1 #[(0,(zt 33))]) 40) true<| .step (zp 35 #[zt 28,zt 34] #[40,40] 40) false<| .step (za 36 (zf 5 (zv 3))) false<| .step (zw 40 (zt 36) (zt 35)) false<| .done
theorem qEp:jx Tryz.prog 53 qdR 8 (qv qch 7)=some qrm:=by kernel_rfl
def qrl:OT:=zy 40 (zf 5 (zv 3))<|zy 41 (zl (zv 40))<|zy 42 (zv 0)<| .step (zc 43 209 #[zt 42] #[83] 3) true<| .step (zE 44 (.buildSlice 40 1 #[(0,(zt 43))]) 40) true<| .step (zp 45 #[zt 41,zt 44] #[40,40] 40) false<| .step (za 46 (zf 5 (zv 3))) false<| .step (zw 40 (zt 46) (zt 45)) false<| .done
theorem qEo:jx Tryz.prog 53 qdR 5 (qv qch 9)=some qrl:=by kernel_rfl
noncomputable def qrh:Code:=((Tryz.f316.body).getD .skip)
def qjb:IR:=zq [zm 37 0,zE 38 (.buildSlice 51 1 #[(0,(zY #[58]))]) 51,zc 39 153 #[zt 37,zt 38] #[83,51] 0,zm 40 0,zc 41 209 #[zt 40] #[83] 3,zE 42 (.buildSlice 40 1 #[(0,(zt 41))]) 40,za 43 (zf 5 (zv 5)),zw 40 (zt 43) (zt 42)] <| .raw (qv qrh 12)
def qrg:IR:=.block 1 (zq [zm 26 0,zE 27 (.buildSlice 51 1 #[(0,(zY #[119,104,101,110]))]) 51,zc 28 153 #[zt 26,zt 27] #[83,51] 0,zE 29 (.build 44 #[(0,(.const (zu 33)))]) 44,zA 5 44,zw 44 (zt 5) (zt 29),zm 30 0,zc 31 117 #[zt 30,zY #[111,116,104,101,114,115]] #[83,9] 4,zm 4 31,za 33 (zn (zv 4))] <| .seq (.cond (zv 33) (.reg [zm 34 0,zc 35 120 #[zt 34] #[83] 9,za 36 (zf 1 (zv 5)),zw 9 (zt 36) (zt 35)]) .skip) (qjb))
def qi9:IR:=zq [za 15 (zn (zv 4)),zg 15 true 16 (zv 0),.eff (some (15,true)) (some 17) (.buildSlice 51 1 #[(0,(zY #[119,104,101,110]))]) 51,zh 15 true 18 141 #[zt 16,zt 17] #[83,51] 4,za 25 (.ite (zv 15) (.ite (zv 18) (zQ true) (zI .eql (zL (zo 5 (zv 3))) (zK 1))) (zQ false))] <| .seq (.cond (zv 25) .skip (.exit 0)) (qrg)
def qja:IR:=zq [zm 52 0,zE 53 (.buildSlice 51 1 #[(0,(zY #[101,110,100]))]) 51,zc 54 153 #[zt 52,zt 53] #[83,51] 0,zm 55 0,za 56 (zM 6 (zv 3)),zc 57 140 #[zt 55,zt 56] #[83,44] 3,zm 2 57] <| .ret
def qri:IR:=zq [za 2 (zK 0),zm 6 0,zc 7 209 #[zt 6] #[83] 3,zE 8 (.buildSlice 40 1 #[(0,(zt 7))]) 40,zE 9 (.build 44 #[(0,(.const (zu 32))),(5,(zt 8))]) 44,zA 3 44,zw 44 (zt 3) (zt 9),zm 10 0,zE 11 (.buildSlice 51 1 #[(0,(zY #[101,120,99,101,112,116]))]) 51,zc 12 153 #[zt 10,zt 11] #[83,51] 0,za 4 (zQ false)] <| .seq (.block 0 (.loop qi9)) (qja)
def qjc:List Nat:=zV 58 [1,13,14,19,20,21,22,23,24,32]
def qEm:C1 316 58 qjc qri [.tmp 2]:=c1 [12] Tryz.func316
def qi8:OT:=zy 44 (zf 5 (zv 3))<|zy 45 (zl (zv 44))<|zy 46 (zv 0)<|zy 47 (zM 6 (zv 5))<| .step (zc 48 140 #[zt 46,zt 47] #[83,44] 3) true<| .step (zE 49 (.buildSlice 40 1 #[(0,(zt 48))]) 40) true<| .step (zp 50 #[zt 45,zt 49] #[40,40] 40) false<| .step (za 51 (zf 5 (zv 3))) false<| .step (zw 40 (zt 51) (zt 50)) false<| .done
theorem qrf:jx Tryz.prog 58 qjc 6 (qv qrh 12)=some qi8:=by kernel_rfl
noncomputable def qrd:Code:=((Tryz.f317.body).getD .skip)
def qrc:IR:=.block 1 (zq [zm 18 0,zE 19 (.buildSlice 51 1 #[(0,(zY #[116,97,103]))]) 51,zc 20 153 #[zt 18,zt 19] #[83,51] 0,zm 21 0,zc 22 120 #[zt 21] #[83] 9,zE 23 (.build 44 #[(0,(.const (zu 36))),(1,(zt 22))]) 44,zA 4 44,zw 44 (zt 4) (zt 23),zm 24 0,zE 25 (.buildSlice 51 1 #[(0,(zY #[40]))]) 51,zc 26 153 #[zt 24,zt 25] #[83,51] 0,zm 27 0,zc 28 120 #[zt 27] #[83] 9,za 29 (zf 2 (zv 4)),zw 9 (zt 29) (zt 28),zm 30 0,zE 31 (.buildSlice 51 1 #[(0,(zY #[58]))]) 51,zc 32 153 #[zt 30,zt 31] #[83,51] 0,zm 33 0,zc 34 202 #[zt 33] #[83] 9,za 35 (zf 3 (zv 4)),zw 9 (zt 35) (zt 34),zm 36 0,zE 37 (.buildSlice 51 2 #[(0,(zY #[41])),(1,(zY #[58]))]) 51,zc 38 153 #[zt 36,zt 37] #[83,51] 0,zm 39 0,zc 40 209 #[zt 39] #[83] 3,zE 41 (.buildSlice 40 1 #[(0,(zt 40))]) 40,za 42 (zf 5 (zv 4)),zw 40 (zt 42) (zt 41)] <| .raw (qv qrd 11))
def qrb:IR:=zq [zm 9 0,zE 10 (.buildSlice 51 1 #[(0,(zY #[116,97,103]))]) 51,zc 11 141 #[zt 9,zt 10] #[83,51] 4,za 17 (.ite (zv 11) (zQ true) (zI .eql (zL (zo 5 (zv 3))) (zK 1)))] <| .seq (.cond (zv 17) .skip (.exit 0)) (qrc)
def qi6:IR:=zq [zm 51 0,zE 52 (.buildSlice 51 1 #[(0,(zY #[101,110,100]))]) 51,zc 53 153 #[zt 51,zt 52] #[83,51] 0,zm 54 0,za 55 (zM 6 (zv 3)),zc 56 140 #[zt 54,zt 55] #[83,44] 3,zm 2 56] <| .ret
def qre:IR:=zq [za 2 (zK 0),zm 5 0,zc 6 62 #[zt 5] #[83] 3,zE 7 (.buildSlice 40 1 #[(0,(zt 6))]) 40,zE 8 (.build 44 #[(0,(.const (zu 35))),(5,(zt 7))]) 44,zA 3 44,zw 44 (zt 3) (zt 8)] <| .seq (.block 0 (.loop qrb)) (qi6)
def qi7:List Nat:=zV 57 [1,12,13,14,15,16]
def qEl:C1 317 57 qi7 qre [.tmp 2]:=c1 [11] Tryz.func317
def qra:OT:=zy 43 (zf 5 (zv 3))<|zy 44 (zl (zv 43))<|zy 45 (zv 0)<|zy 46 (zM 6 (zv 4))<| .step (zc 47 140 #[zt 45,zt 46] #[83,44] 3) true<| .step (zE 48 (.buildSlice 40 1 #[(0,(zt 47))]) 40) true<| .step (zp 49 #[zt 44,zt 48] #[40,40] 40) false<| .step (za 50 (zf 5 (zv 3))) false<| .step (zw 40 (zt 50) (zt 49)) false<| .done
theorem qEk:jx Tryz.prog 57 qi7 6 (qv qrd 11)=some qra:=by kernel_rfl
noncomputable def qaK:Code:=((Tryz.f318.body).getD .skip)
def qq8:IR:=.ret
def qi3:IR:=.ret
def qi2:IR:=.ret
def Qe:IR:=zq [zm 124 0,zc 125 143 #[zt 124] #[83] 0,za 2 (zK 0)] <| .ret
def qi1:IR:=zq [zm 35 0,zc 36 139 #[zt 35] #[83] 169,zm 34 36,za 37 (ze 0 (zv 34)),za 38 (ze 1 (zv 34)),zm 4 37,zm 5 38] <| .seq (.block 0 (zq [za 42 (zI .eql (zv 5) (zK 1)),zg 42 true 43 (zv 0),.eff (some (42,true)) (some 44) (.buildSlice 51 1 #[(0,(zY #[58,61]))]) 51,zh 42 true 45 141 #[zt 43,zt 44] #[83,51] 4,za 39 (.ite (zv 42) (zn (zv 45)) (zQ false))] <| .cond (zv 39) (zq [zm 48 0,zm 49 4,zE 50 (.buildSlice 40 1 #[(0,(zt 49))]) 40,zE 51 (.build 44 #[(0,(.const (zu 25))),(5,(zt 50))]) 44,zc 52 140 #[zt 48,zt 51] #[83,44] 3,zm 2 52] <| .ret) (zq [za 56 (zI .eql (zv 5) (zK 2)),zg 56 true 57 (zv 0),zh 56 true 58 117 #[zt 57,zY #[58,61]] #[83,9] 4,za 53 (.ite (zv 56) (zv 58) (zQ false))] <| .cond (zv 53) (zq [za 6 (zo 5 (zx 6 (zo 3 (zN (zv 0))) (zv 4))),zm 68 0,za 74 (.op3 (.slLoHi 6) (zo 3 (zN (zv 0))) (zK 0) (zv 4)),za 76 (zf 3 (zN (zv 68))),zw 29 (zt 76) (zt 74)] <| .seq (.raw (qv qaK 11)) (qi3)) (zq [za 92 (zI .eql (zv 5) (zK 3)),zg 92 true 93 (zv 0),zh 92 true 94 117 #[zt 93,zY #[58,61]] #[83,9] 4,za 89 (.ite (zv 92) (zv 94) (zQ false))] <| .cond (zv 89) (zq [za 102 (zM 6 (zx 6 (zo 3 (zN (zv 0))) (zv 4))),zA 7 44,zw 44 (zt 7) (zt 102),zm 103 0,za 109 (.op3 (.slLoHi 6) (zo 3 (zN (zv 0))) (zK 0) (zv 4)),za 111 (zf 3 (zN (zv 103))),zw 29 (zt 111) (zt 109)] <| .seq (.raw (qv qaK 15)) (qi2)) .skip)))) (Qe)
def qq9:IR:=zq [za 2 (zK 0),zm 8 0,zc 9 142 #[zt 8,zO 0] #[83,3] 53,zA 3 53,zw 53 (zt 3) (zt 9),za 13 (zB .eql (zo 0 (zv 3)) (.const (zu 1))),zg 13 true 14 (zv 0),zh 13 true 15 142 #[zt 14,zO 1] #[83,3] 53,za 18 (.ite (zv 13) (zS .eql (.op1 (.fld 1) (zv 15)) (.const (zs #[58,61]))) (zQ false))] <| .seq (.cond (zv 18) (zq [zm 19 0,za 23 (zI .add (zo 1 (zN (zv 19))) (zK 2)),za 25 (zf 1 (zN (zv 19))),zw 3 (zt 25) (zt 23)] <| .seq (.raw (qv qaK 4)) (qq8)) .skip) (qi1)
def kS:List Nat:=zV 126 [1,10,11,12,16,17,20,21,22,24,40,41,46,47,54,55,59,60,61,62,63,64,65,66,67,69,70,71,72,73,75,90,91,95,96,97,98,99,100,101,104,105,106,107,108,110]
def qEj:C1 318 126 kS qq9 [.tmp 2]:=c1 [15,11,4] Tryz.func318
def qq5:OT:=zy 26 (zv 0)<|zy 27 (zf 1 (zv 3))<|zy 28 (zl (zv 27))<|zy 29 (zv 0)<| .step (zc 30 62 #[zt 29] #[83] 3) true<| .step (zE 31 (.buildSlice 40 1 #[(0,(zt 30))]) 40) true<| .step (zE 32 (.build 44 #[(0,(.const (zu 22))),(1,(zt 28)),(5,(zt 31))]) 44) true<| .step (zc 33 140 #[zt 26,zt 32] #[83,44] 3) false<| .step (zm 2 33) false<| .done
theorem qEf:jx Tryz.prog 126 kS 7 (qv qaK 4)=some qq5:=by kernel_rfl
def qq7:OT:=zy 77 (zv 0)<|zy 78 (zv 6)<|zy 79 (zx 1 (zv 78) (zK 0))<|zy 80 (zl (zv 79))<|zy 81 (zv 6)<|zy 82 (zx 1 (zv 81) (zK 1))<|zy 83 (zl (zv 82))<|zy 84 (zv 0)<| .step (zc 85 62 #[zt 84] #[83] 3) true<| .step (zE 86 (.buildSlice 40 3 #[(0,(zt 80)),(1,(zt 83)),(2,(zt 85))]) 40) true<| .step (zE 87 (.build 44 #[(0,(.const (zu 23))),(5,(zt 86))]) 44) true<| .step (zc 88 140 #[zt 77,zt 87] #[83,44] 3) false<| .step (zm 2 88) false<| .done
theorem qEh:jx Tryz.prog 126 kS 11 (qv qaK 11)=some qq7:=by kernel_rfl
def qq6:OT:=zy 112 (zv 0)<|zy 113 (zf 1 (zv 7))<|zy 114 (zl (zv 113))<|zy 115 (zf 5 (zv 7))<|zy 116 (zl (zv 115))<|zy 117 (zx 1 (zv 116) (zK 0))<|zy 118 (zl (zv 117))<|zy 119 (zv 0)<| .step (zc 120 62 #[zt 119] #[83] 3) true<| .step (zE 121 (.buildSlice 40 2 #[(0,(zt 118)),(1,(zt 120))]) 40) true<| .step (zE 122 (.build 44 #[(0,(.const (zu 24))),(1,(zt 114)),(5,(zt 121))]) 44) true<| .step (zc 123 140 #[zt 112,zt 122] #[83,44] 3) false<| .step (zm 2 123) false<| .done
theorem qEg:jx Tryz.prog 126 kS 11 (qv qaK 15)=some qq6:=by kernel_rfl
end Go.L02
namespace Go.L01
open Go Go.Eng Go.Proofs
set_option maxRecDepth 100000
set_option maxHeartbeats 2000000
def qft:IR:=zq [za 2 (zQ false),za 11 (.ite (zI .gtr (zT (zv 0)) (zK 0)) (zI .leq (zT (zv 0)) (zK 12)) (zQ false)),zg 11 true 13 (.op2 .ixs (zv 0) (zK 0)),zh 11 true 14 162 #[zt 13] #[188] 4,za 16 (.ite (zv 11) (zv 14) (zQ false)),zg 16 true 17 (zv 0),zh 16 true 18 163 #[zt 17,(.func 164)] #[9,190] 3,za 21 (.ite (zv 16) (zI .lss (zv 18) (zK 0)) (zQ false)),zg 21 true 22 (zv 0),zh 21 true 23 166 #[zt 22] #[9] 4,za 2 (.ite (zv 21) (zn (zv 23)) (zQ false))] <| .ret
def qDv:List Nat:=[0,2,11,13,14,16,17,18,21,22,23]
def qDu:C1 77 26 qDv qft [.tmp 2]:=c1 [] Tryz.func77
def qtx:IR:=zq [za 2 (zQ false),zc 3 233 #[] #[] 144,zm 4 0,zE 5 (.lookup 144 (zt 3) (zt 4) false) 4,zm 2 5] <| .ret
def qGt:List Nat:=zV 6 [1]
def qGs:C1 166 6 qGt qtx [.tmp 2]:=c1 [] Tryz.func166
def qtu:IR:=zq [za 2 (zQ false),zc 3 236 #[] #[] 51,zm 4 0,zc 5 235 #[zt 3,zt 4] #[51,9] 4,zm 2 5] <| .ret
def qGn:List Nat:=zV 6 [1]
def qGm:C1 169 6 qGn qtu [.tmp 2]:=c1 [] Tryz.func169
def qrJ:IR:=zq [za 0 (.const (.slice none 0 0)),zc 1 332 #[zY #[97,110,100,32,97,114,114,97,121,32,98,101,103,105,110,32,98,111,111,108,32,98,114,101,97,107,32,99,108,117,115,116,101,114,32,100,111,32,100,111,119,110,32,101,108,115,101,32,101,108,115,101,105,102,32,101,110,100,32,101,120,99,101,112,116,32,102,97,108,115,101,32,102,111,114,32,104,97,115,32,105,102,32,105,110,32,105,110,116,32,105,115,32,105,116,101,114,32,109,111,100,32,110,105,108,32,110,111,116,32,110,117,108,108,32,111,110,101,111,102,32,111,114,32,111,116,104,101,114,115,32,112,114,111,99,32,112,117,116,32,114,101,99,111,114,100,32,114,101,112,32,114,101,116,117,114,110,32,114,101,116,117,114,110,115,32,115,105,103,110,97,108,32,115,105,103,110,97,108,115,32,116,97,103,32,116,97,103,99,97,115,101,32,116,104,101,110,32,116,114,117,101,32,117,112,32,118,97,114,32,119,104,101,110,32,119,104,101,114,101,32,119,104,105,108,101,32,121,105,101,108,100,32,121,105,101,108,100,115]] #[9] 51,zm 0 1] <| .ret
def qEL:List Nat:=[0,1]
def qEK:C0 286 2 qEL qrJ [.tmp 0]:=c0 [] Tryz.func286
def qsm:IR:=zq [za 0 (.const (.slice none 0 0)),zE 1 (.buildSlice 51 46 #[(0,(zY #[97,110,100])),(1,(zY #[97,114,114,97,121])),(2,(zY #[98,101,103,105,110])),(3,(zY #[98,111,111,108])),(4,(zY #[98,114,101,97,107])),(5,(zY #[99,108,117,115,116,101,114])),(6,(zY #[100,111])),(7,(zY #[100,111,119,110])),(8,(zY #[101,108,115,101])),(9,(zY #[101,108,115,101,105,102])),(10,(zY #[101,110,100])),(11,(zY #[101,120,99,101,112,116])),(12,(zY #[102,97,108,115,101])),(13,(zY #[102,111,114])),(14,(zY #[104,97,115])),(15,(zY #[105,102])),(16,(zY #[105,110])),(17,(zY #[105,110,116])),(18,(zY #[105,115])),(19,(zY #[105,116,101,114])),(20,(zY #[109,111,100])),(21,(zY #[110,105,108])),(22,(zY #[110,111,116])),(23,(zY #[110,117,108,108])),(24,(zY #[111,110,101,111,102])),(25,(zY #[111,114])),(26,(zY #[111,116,104,101,114,115])),(27,(zY #[112,114,111,99])),(28,(zY #[112,117,116])),(29,(zY #[114,101,99,111,114,100])),(30,(zY #[114,101,112])),(31,(zY #[114,101,116,117,114,110])),(32,(zY #[114,101,116,117,114,110,115])),(33,(zY #[115,105,103,110,97,108])),(34,(zY #[115,105,103,110,97,108,115])),(35,(zY #[116,97,103])),(36,(zY #[116,97,103,99,97,115,101])),(37,(zY #[116,104,101,110])),(38,(zY #[116,114,117,101])),(39,(zY #[117,112])),(40,(zY #[118,97,114])),(41,(zY #[119,104,101,110])),(42,(zY #[119,104,101,114,101])),(43,(zY #[119,104,105,108,101])),(44,(zY #[121,105,101,108,100])),(45,(zY #[121,105,101,108,100,115]))]) 51,zm 0 1] <| .ret
def qFo:List Nat:=[0,1]
def qFn:C0 236 2 qFo qsm [.tmp 0]:=c0 [] Tryz.func236
def qrt:IR:=zq [za 0 (.const (.slice none 0 0)),zc 2 332 #[zY #[36,32,40,32,41,32,42,32,43,32,44,32,45,32,46,32,47,32,58,32,58,61,32,59,32,60,32,60,61,32,61,32,63,32,91,32,93,32,95,32,123,32,125]] #[9] 51,zm 1 2,zm 3 1,zc 4 195 #[zt 3] #[51] 0,zm 0 1] <| .ret
def qEx:List Nat:=zV 5 []
def qEw:C0 310 6 qEx qrt [.tmp 0]:=c0 [] Tryz.func310
def qsh:IR:=zq [za 0 (.const (.slice none 0 0)),zE 1 (.buildSlice 51 21 #[(0,(zY #[36])),(1,(zY #[40])),(2,(zY #[41])),(3,(zY #[42])),(4,(zY #[43])),(5,(zY #[44])),(6,(zY #[45])),(7,(zY #[46])),(8,(zY #[47])),(9,(zY #[58])),(10,(zY #[58,61])),(11,(zY #[59])),(12,(zY #[60])),(13,(zY #[60,61])),(14,(zY #[61])),(15,(zY #[63])),(16,(zY #[91])),(17,(zY #[93])),(18,(zY #[95])),(19,(zY #[123])),(20,(zY #[125]))]) 51,zm 0 1] <| .ret
def qFj:List Nat:=[0,1]
def qFi:C0 246 2 qFj qsh [.tmp 0]:=c0 [] Tryz.func246
noncomputable def qqC:Code:=((Tryz.f53.body).getD .skip)
def qqB:IR:=.ret
def qqE:IR:=zq [za 2 (.const (.slice none 0 0)),zA 3 26,zm 8 0,zc 9 115 #[zt 8] #[9] 122,zm 7 9,za 10 (ze 0 (zv 7)),za 11 (ze 1 (zv 7)),za 12 (ze 2 (zv 7)),zA 6 26,zm 4 10,zm 5 11,zw 26 (zt 6) (zt 12)] <| .seq (.raw (qv qqC 2)) (qqB)
def qqD:List Nat:=zV 15 [1]
def qDX:C1 53 15 qqD qqE [.tmp 2,.cellN 3 2]:=c1 [2] Tryz.func53
def qqA:OT:=zy 13 (zv 4)<|zy 14 (zM 2 (zv 6))<|zy 2 (zv 13)<| .step (zw 26 (zt 3) (zt 14)) false<| .done
theorem qDW:jx Tryz.prog 15 qqD 3 (qv qqC 2)=some qqA:=by kernel_rfl
noncomputable def qqZ:Code:=((Tryz.f33.body).getD .skip)
def qqY:IR:=.ret
def qq1:IR:=zq [za 2 (.const (.slice none 0 0)),zA 3 26,zm 8 0,zc 9 87 #[zt 8] #[9] 122,zm 7 9,za 10 (ze 0 (zv 7)),za 11 (ze 1 (zv 7)),za 12 (ze 2 (zv 7)),zA 6 26,zm 4 10,zm 5 11,zw 26 (zt 6) (zt 12)] <| .seq (.raw (qv qqZ 2)) (qqY)
def qq0:List Nat:=zV 15 [1]
def qEb:C1 33 15 qq0 qq1 [.tmp 2,.cellN 3 2]:=c1 [2] Tryz.func33
def qqX:OT:=zy 13 (zv 4)<|zy 14 (zM 2 (zv 6))<|zy 2 (zv 13)<| .step (zw 26 (zt 3) (zt 14)) false<| .done
theorem qEa:jx Tryz.prog 15 qq0 3 (qv qqZ 2)=some qqX:=by kernel_rfl
def qtB:IR:=zq [za 2 (zQ false),za 2 (.ite (zB .geq (zv 0) (.const (zu 97))) (zB .leq (zv 0) (.const (zu 122))) (zQ false))] <| .ret
def qGA:List Nat:=[0,2]
def qGz:C1 162 9 qGA qtB [.tmp 2]:=c1 [] Tryz.func162
def qtA:IR:=zq [za 4 (zK 0),zm 5 0,zm 6 1,zc 7 231 #[zt 5,zt 6,(.const (zb true))] #[9,190,4] 3,zm 4 7] <| .ret
def qGy:List Nat:=zV 8 [2,3]
def qGx:C2 163 8 qGy qtA [.tmp 4]:=c2 [] Tryz.func163
def qfN:IR:=zq [za 2 (zQ false),za 5 (.op2 (.ibin .gtr .i32) (zv 0) (.const (.int .i32 126))),zg 5 false 7 (.op1 (.conv .u8) (zv 0)),zh 5 false 8 165 #[zt 7] #[188] 4,za 2 (.ite (zv 5) (zQ true) (zn (zv 8)))] <| .ret
def qGw:List Nat:=[0,2,5,7,8]
def qtz:C1 164 11 qGw qfN [.tmp 2]:=c1 [] Tryz.func164
def qty:IR:=zq [za 2 (zQ false),zm 3 0,zc 4 162 #[zt 3] #[188] 4,zm 5 4,zg 5 false 6 (zv 0),zh 5 false 7 232 #[zt 6] #[188] 4,za 2 (.ite (zv 5) (zQ true) (zv 7))] <| .ret
def qGv:List Nat:=zV 8 [1]
def qGu:C1 165 9 qGv qty [.tmp 2]:=c1 [] Tryz.func165
def qtw:IR:=zq [za 2 (zQ false),za 2 (.ite (zB .geq (zv 0) (.const (zu 97))) (zB .leq (zv 0) (.const (zu 122))) (zQ false))] <| .ret
def qGr:List Nat:=[0,2]
def qGq:C1 167 9 qGr qtw [.tmp 2]:=c1 [] Tryz.func167
def qjM:IR:=.block 1 (.reg [za 3 (zI .add (zv 3) (zK 1))])
def qjK:IR:=zq [za 8 (zI .lss (zv 3) (zT (zv 0))),zg 8 true 11 (.op2 .ixs (zv 0) (zv 3)),zh 8 true 12 167 #[zt 11] #[5] 4,zg 8 true 13 (zv 12),zg 13 false 16 (.op2 .ixs (zv 0) (zv 3)),zh 13 false 17 234 #[zt 16] #[5] 4,za 19 (.ite (zv 8) (.ite (zv 13) (zQ true) (zv 17)) (zQ false))] <| .seq (.cond (zv 19) .skip (.exit 0)) (qjM)
def qjL:IR:=zq [zm 2 3] <| .ret
def qtv:IR:=zq [za 2 (zK 0),za 3 (zK 0)] <| .seq (.block 0 (.loop qjK)) (qjL)
def qGp:List Nat:=[0,2,3,8,11,12,13,16,17,19]
def qGo:C1 168 23 qGp qtv [.tmp 2]:=c1 [] Tryz.func168
def qsu:IR:=.reg [za 7 (zI .add (zv 7) (zK 1))]
def qst:IR:=.seq (.block 1 (.reg [za 3 (zl (zx 1 (zv 5) (zv 7))),zm 11 1,zm 12 3,.eff none none (.mapUpdate 144 (zt 11) (zt 12) (.const (zb true))) 0])) (qsu)
def qjv:IR:=zq [za 8 (zI .lss (zv 7) (zv 6))] <| .seq (.cond (zv 8) .skip (.exit 0)) (qst)
def qss:IR:=zq [zm 0 1] <| .ret
def qsv:IR:=zq [za 0 (.const (.map none)),zE 4 (.makeMap 144 none) 144,zm 1 4,zc 5 286 #[] #[] 51,za 6 (zL (zv 5)),za 7 (zK 0)] <| .seq (.block 0 (.loop qjv)) (qss)
def qFu:List Nat:=zV 13 [2,9,10]
def qFt:C0 233 15 qFu qsv [.tmp 0]:=c0 [] Tryz.func233
def qsp:IR:=.reg [za 5 (zI .add (zv 5) (zK 1))]
def qso:IR:=.seq (.block 1 (zq [za 17 (zS .eql (zl (zx 1 (zv 0) (zv 5))) (zv 1))] <| .cond (zv 17) (zq [za 4 (zQ true)] <| .ret) .skip)) (qsp)
def qju:IR:=zq [za 9 (zI .lss (zv 5) (zL (zv 0)))] <| .seq (.cond (zv 9) .skip (.exit 0)) (qso)
def qsn:IR:=zq [za 4 (zQ false)] <| .ret
def qsq:IR:=zq [za 4 (zQ false),za 5 (zK 0)] <| .seq (.block 0 (.loop qju)) (qsn)
def qFq:List Nat:=[0,1,4,5,9,17]
def qFp:C2 235 18 qFq qsq [.tmp 4]:=c2 [] Tryz.func235
noncomputable def qkc:Code:=((Tryz.f115.body).getD .skip)
noncomputable def qdV:Code:=(qeL qkc).getD 0 .skip
def qu3:IR:=.ret
def qf0:IR:=.seq (.raw (qv qkc 8)) (qu3)
def qu2:IR:=zq [zE 11 (.makeFunc (.func 200) #[] #[zt 2,zt 3,zt 4]) 1,.eff none none (.defer {callee:=.value (zt 11),args:=#[],argTypes:=#[]}) 0,zm 12 0,zE 13 (.build 215 #[(0,(zt 12)),(2,(zO 1))]) 215,zE 14 (.build 217 #[(0,(zt 13))]) 217,zE 15 (.box 217 (zt 14)) 213,zm 5 15,zm 16 5,zE 17 (.makeFunc (.func 201) #[zt 16] #[]) 218] <| .seq (.block 0 (.raw qdV)) (qf0)
def qkd:IR:=zq [zA 2 48,zA 3 51,zA 4 26,za 9 (zI .gtr (zT (zv 0)) (zK 20000))] <| .seq (.cond (zv 9) (zq [zE 10 (.build 26 #[(0,(zO 2))]) 26,zw 48 (zt 2) (.const (.slice none 0 0)),zw 51 (zt 3) (.const (.slice none 0 0)),zw 26 (zt 4) (zt 10)] <| .ret) .skip) (qu2)
def Q3:List Nat:=zV 29 [1,7,8]
def qu5:IR:=.reg [zA 6 53,zw 53 (zt 6) (zt 18)]
def qu4:IR:=.block 1 (.reg [za 19 (zl (zv 2)),za 20 (zM 3 (zv 6)),zE 21 (.buildSlice 48 1 #[(0,(zt 20))]) 48,zp 22 #[zt 19,zt 21] #[48,48] 48,zw 48 (zt 2) (zt 22)])
def qHw:∃A B,qdV=.rangeFunc (.tmp 17) #[18] A B/\Part Tryz.prog 29 Q3 A qu5/\Part Tryz.prog 29 Q3 B qu4:=
 ⟨rfA qdV,rfB qdV,by kernel_rfl,⟨by kernel_rfl,by kernel_rfl⟩,⟨by kernel_rfl,by kernel_rfl⟩⟩
theorem qHx:(jk Tryz.prog Tryz.f115.ntmps Q3 [8] (Tryz.f115.body.getD .skip)).map IR.norm=some qkd:=by kernel_rfl
def qHz {v0:AB} {w:AA} {R:Ending->AA->Prop} (h:∀ρ:qa,ρ 0=v0->ρ gS=.tuple #[]->qkd.wp ⟨Tryz.prog,29,Q3,yL⟩ (vl Tryz.prog [.cell1 2,.cell1 3,.cellN 4 2] R .returning) (zJ Tryz.prog [.cell1 2,.cell1 3,.cellN 4 2] R) ρ w):
  Calls Tryz.prog 115 #[v0] w R:=by
 obtain ⟨b,e,a⟩:=uc.1 qHx;exact qv7 (args:=#[v0]) Tryz.func115 (c:=(Tryz.f115.body.getD .skip)) rfl e a (by kernel_rfl) (show zi Tryz.prog Q3 Tryz.f115.results.toList=some [.cell1 2,.cell1 3,.cellN 4 2] by kernel_rfl) (uI rfl) (h _ rfl rfl)
def qkb:OT:=zy 23 (zl (zv 2))<|zy 24 (zv 5)<|zy 25 (zN (zv 24))<|zy 26 (zf 3 (zv 25))<|zy 27 (zl (zv 26))<| .both (.step (zE 28 (.build 26 #[]) 26) true<| .step (zw 48 (zt 2) (zt 23)) true<| .step (zw 51 (zt 3) (zt 27)) true<| .step (zw 26 (zt 4) (zt 28)) false<| .done)<| .step (zw 48 (zt 2) (zt 23)) true<| .both (.step (zE 28 (.build 26 #[]) 26) true<| .step (zw 51 (zt 3) (zt 27)) true<| .step (zw 26 (zt 4) (zt 28)) false<| .done)<| .step (zw 51 (zt 3) (zt 27)) true<| .step (zE 28 (.build 26 #[]) 26) true<| .step (zw 26 (zt 4) (zt 28)) false<| .done
theorem qHy:jx Tryz.prog 29 Q3 8 (qv qkc 8)=some qkb:=by kernel_rfl
def qpX:IR:=.reg [zm 37 5,zm 38 10,za 44 (.op3 .stLoHi (zv 0) (zv 8) (zI .add (zv 8) (zv 11))),zm 45 7,zE 46 (.build 53 #[(0,(zt 38)),(1,(zt 44)),(2,(zt 45))]) 53,zE 47 (.buildSlice 48 1 #[(0,(zt 46))]) 48,zp 48 #[zt 37,zt 47] #[48,48] 48,zm 5 48,za 8 (zI .add (zv 8) (zv 11))]
def qdM:IR:=.cond (zv 58) (.reg [za 8 (zI .add (zv 8) (zK 1))]) (zq [za 63 (zB .eql (zv 23) (.const (zu 37)))] <| .cond (zv 63) (.reg [za 67 (.op2 .stLo (zv 0) (zv 8)),zc 68 175 #[zt 67] #[9] 3,zm 9 68,zm 69 6,za 75 (.op3 .stLoHi (zv 0) (zv 8) (zI .add (zv 8) (zv 9))),zE 76 (.buildSlice 51 1 #[(0,(zt 75))]) 51,zp 77 #[zt 69,zt 76] #[51,51] 51,zm 6 77,za 8 (zI .add (zv 8) (zv 9))]) (zq [za 27 (.op2 .stLo (zv 0) (zv 8)),zc 28 176 #[zt 27] #[9] 194,zm 24 28,za 29 (ze 0 (zv 24)),za 30 (ze 1 (zv 24)),za 31 (ze 2 (zv 24)),zm 10 29,zm 11 30,zm 12 31,za 33 (zI .neq (zv 12) (zK 0))] <| .seq (.cond (zv 33) (zq [zm 34 12,zm 35 7,zE 36 (.build 26 #[(0,(zt 34)),(1,(zt 35))]) 26,za 2 (.const (.slice none 0 0)),za 3 (.const (.slice none 0 0)),zw 26 (zt 4) (zt 36)] <| .ret) .skip) (qpX)))
def qpW:IR:=.block 1 (zq [za 23 (.op2 .ixs (zv 0) (zv 8))] <| .block 2 (zq [za 52 (zB .eql (zv 23) (.const (zu 10)))] <| .cond (zv 52) (.reg [za 7 (zI .add (zv 7) (zK 1)),za 8 (zI .add (zv 8) (zK 1))]) (zq [za 58 (zB .eql (zv 23) (.const (zu 32)))] <| .seq (.cond (zv 58) .skip (.reg [za 58 (zB .eql (zv 23) (.const (zu 9)))])) (qdM))))
def qiH:IR:=zq [za 20 (zI .lss (zv 8) (zT (zv 0)))] <| .seq (.cond (zv 20) .skip (.exit 0)) (qpW)
def qpV:IR:=zq [zm 81 5,zm 82 6,zE 83 (.build 26 #[]) 26,zm 2 81,zm 3 82,zw 26 (zt 4) (zt 83)] <| .ret
def qpU:IR:=zq [za 5 (.const (.slice none 0 0)),za 6 (.const (.slice none 0 0)),za 7 (zK 1),za 8 (zK 0)] <| .seq (.block 0 (.loop qiH)) (qpV)
def qpY:IR:=zq [za 2 (.const (.slice none 0 0)),za 3 (.const (.slice none 0 0)),zA 4 26,za 15 (zI .gtr (zT (zv 0)) (zK 20000))] <| .seq (.cond (zv 15) (zq [zE 16 (.build 26 #[(0,(zO 2))]) 26,za 2 (.const (.slice none 0 0)),za 3 (.const (.slice none 0 0)),zw 26 (zt 4) (zt 16)] <| .ret) .skip) (qpU)
def qDr:List Nat:=zV 84 [1,13,14,17,18,19,21,22,25,26,32,39,40,41,42,43,49,50,51,53,54,55,56,57,59,60,61,62,64,65,66,70,71,72,73,74,78,79,80]
def qDq:C1 87 84 qDr qpY [.tmp 2,.tmp 3,.cellN 4 2]:=c1 [] Tryz.func87
def qsz:IR:=.block 1 (zq [za 13 (ze 1 (zv 11)),za 14 (ze 2 (zv 11)),zm 7 13,zm 8 14,zm 15 1,zm 16 8,zE 17 (.call {callee:=.value (zt 15),args:=#[zt 16],argTypes:=#[21]}) 4,za 19 (.op2 (.bbin .eql) (zv 17) (zv 2))] <| .cond (zv 19) (zq [zm 6 7] <| .ret) .skip)
def qsx:IR:=zq [zE 11 (.next (zt 10) true) 0,za 12 (ze 0 (zv 11))] <| .seq (.cond (zv 12) .skip (.exit 0)) (qsz)
def qsy:IR:=zq [za 6 (.const (.int .i64 (-1)))] <| .ret
def qsA:IR:=zq [za 6 (zK 0),zm 9 0,zE 10 (.range 9 (zt 9)) 0] <| .seq (.block 0 (.loop qsx)) (qsy)
def qFy:List Nat:=zV 20 [3,4,5,18]
def qFx:C3 231 21 qFy qsA [.tmp 6]:=c3 [] Tryz.func231
def qsw:IR:=zq [za 2 (zQ false),za 2 (.ite (zB .geq (zv 0) (.const (zu 48))) (zB .leq (zv 0) (.const (zu 57))) (zQ false))] <| .ret
def qFw:List Nat:=[0,2]
def qFv:C1 232 9 qFw qsw [.tmp 2]:=c1 [] Tryz.func232
def qsr:IR:=zq [za 2 (zQ false),za 2 (.ite (zB .geq (zv 0) (.const (zu 48))) (zB .leq (zv 0) (.const (zu 57))) (zQ false))] <| .ret
def qFs:List Nat:=[0,2]
def qFr:C1 234 9 qFs qsr [.tmp 2]:=c1 [] Tryz.func234
def qtf:IR:=.reg [zm 18 0,zc 19 266 #[zt 18] #[213] 0]
def qte:IR:=.seq (.block 1 (zq [zm 20 1,zm 21 0,zc 22 267 #[zt 21] #[213] 53,zE 23 (.call {callee:=.value (zt 20),args:=#[zt 22],argTypes:=#[53]}) 4,za 24 (zn (zv 23))] <| .cond (zv 24) (.ret) .skip)) (qtf)
def qjC:IR:=.seq (.cond (zv 17) .skip (.exit 0)) (qte)
def qjB:IR:=.seq (.drw [za 17 (zI .lss (zo 1 (zf 0 (zN (zv 0)))) (zT (zo 0 (zf 0 (zN (zv 0))))))]) (qjC)
def qtg:IR:=zq [zm 4 0,zc 5 266 #[zt 4] #[213] 0] <| .block 0 (.loop qjB)
def qGe:List Nat:=[0,1,4,5,17,18,19,20,21,22,23,24]
def qGd:C2 201 25 qGe qtg []:=c2 [] Tryz.func201
def qts:IR:=.block 1 (.reg [za 3 (zI .add (zv 3) (zK 1))])
def qjI:IR:=zq [za 13 (.ite (zI .lss (zv 3) (zT (zv 0))) (zB .neq (.op2 .ixs (zv 0) (zv 3)) (.const (zu 10))) (zQ false))] <| .seq (.cond (zv 13) .skip (.exit 0)) (qts)
def qjJ:IR:=zq [zm 2 3] <| .ret
def qtt:IR:=zq [za 2 (zK 0),za 3 (zK 0)] <| .seq (.block 0 (.loop qjI)) (qjJ)
def qGl:List Nat:=[0,2,3,13]
def qGk:C1 175 17 qGl qtt [.tmp 2]:=c1 [] Tryz.func175
noncomputable def qfL:Code:=((Tryz.f176.body).getD .skip)
def qtq:IR:=zq [zm 21 6,za 2 (.const (zu 1)),zm 3 21,za 4 (zK 0)] <| .ret
def qjH:IR:=zq [za 20 (zI .gtr (zv 6) (zK 12))] <| .seq (.cond (zv 20) (zq [za 2 (.const (zu 0)),za 3 (zK 0),za 4 (zK 12)] <| .ret) .skip) (qtq)
def qtp:IR:=zq [zm 31 7,za 2 (.const (zu 3)),zm 3 31,za 4 (zK 0)] <| .ret
def qto:IR:=zq [za 2 (.const (zu 0)),za 3 (zK 0),za 4 (zK 10)] <| .ret
def qjG:IR:=.seq (.cond (zv 44) (zq [za 2 (.const (zu 4)),za 3 (zK 1),za 4 (zK 0)] <| .ret) .skip) (qto)
def qjF:IR:=.seq (.raw (qv qfL 16)) (qjG)
def qfK:IR:=.seq (.cond (zv 40) (zq [za 2 (.const (zu 4)),za 3 (zK 2),za 4 (zK 0)] <| .ret) .skip) (qjF)
def qtn:IR:=.seq (.raw (qv qfL 14)) (qfK)
def qtm:IR:=zq [zm 22 5,zc 23 234 #[zt 22] #[5] 4] <| .seq (.cond (zv 23) (zq [zm 24 0,zc 25 244 #[zt 24] #[9] 3,zm 7 25,za 28 (.op3 .stLoHi (zv 0) (zK 0) (zv 7)),zc 29 245 #[zt 28] #[9] 4,za 30 (zn (zv 29))] <| .seq (.cond (zv 30) (zq [za 2 (.const (zu 0)),za 3 (zK 0),za 4 (zK 11)] <| .ret) .skip) (qtp)) .skip) (qtn)
def qtr:IR:=zq [za 2 (.const (zu 0)),za 3 (zK 0),za 4 (zK 0),za 5 (.op2 .ixs (zv 0) (zK 0)),zm 10 5,zc 11 167 #[zt 10] #[5] 4] <| .seq (.cond (zv 11) (zq [zm 12 0,zc 13 168 #[zt 12] #[9] 3,zm 6 13,za 16 (.op3 .stLoHi (zv 0) (zK 0) (zv 6)),zc 17 169 #[zt 16] #[9] 4] <| .seq (.cond (zv 17) (zq [zm 18 6,za 2 (.const (zu 2)),zm 3 18,za 4 (zK 0)] <| .ret) .skip) (qjH)) .skip) (qtm)
def qfM:List Nat:=zV 45 [1,8,9,14,15,19,26,27]
def qGj:C1 176 45 qfM qtr [.tmp 2,.tmp 3,.tmp 4]:=c1 [16,14] Tryz.func176
def qjE:OT:=zy 32 (zv 0)<|zy 33 (zT (zv 32))<|zy 34 (zI .gtr (zv 33) (zK 1))<|zy 35 (zv 34)<| .take (some (35,true)) 37 (zv 0)<| .take (some (35,true)) 38 (.op3 .stLoHi (zv 37) (zK 0) (zK 2))<| .step (zh 35 true 36 246 #[] #[] 51) true<| .step (zh 35 true 39 235 #[zt 36,zt 38] #[51,9] 4) false<| .step (za 40 (.ite (zv 35) (zv 39) (zQ false))) false<| .done
theorem qGi:jx Tryz.prog 45 qfM 7 (qv qfL 14)=some qjE:=by kernel_rfl
def qtl:OT:=zy 42 (zv 0)<|zy 43 (.op3 .stLoHi (zv 42) (zK 0) (zK 1))<| .step (zc 41 246 #[] #[] 51) true<| .step (zc 44 235 #[zt 41,zt 43] #[51,9] 4) false<| .done
theorem qGh:jx Tryz.prog 45 qfM 3 (qv qfL 16)=some qtl:=by kernel_rfl
def qru:IR:=zq [za 2 (zQ false),zm 6 0,zc 7 273 #[zt 6] #[9] 127,zm 5 7,za 8 (ze 0 (zv 5)),za 9 (ze 1 (zv 5)),zm 3 8,zm 4 9,zm 10 4,zE 11 (.binOp .eql 126 (zt 10) (.const .nilIface) 126) 4,za 20 (.ite (.ite (zv 11) (zI .geq (zv 3) (zK 0)) (zQ false)) (zI .leq (zv 3) (zK 1000000000)) (zQ false)),zg 20 true 21 (zv 3),zh 20 true 22 171 #[zt 21] #[3] 9,za 2 (.ite (zv 20) (zS .eql (zv 22) (zv 0)) (zQ false))] <| .ret
def qEz:List Nat:=zV 23 [1,12,13,14,15,16,17,18,19]
def qEy:C1 309 26 qEz qru [.tmp 2]:=c1 [] Tryz.func309
def qfO:IR:=zq [za 4 (zQ false),zm 5 0,zm 6 1,zc 7 229 #[zt 5,zt 6] #[51,9] 3,za 4 (zI .geq (zv 7) (zK 0))] <| .ret
def qjN:List Nat:=zV 8 [2,3]
def qtC:C2 160 9 qjN qfO [.tmp 4]:=c2 [] Tryz.func160
def qfC:IR:=zq [za 2 (.ite (zI .lss (zT (zv 0)) (zK 10)) (zQ true) (zS .eql (zv 0) (.const (zs #[49,48,48,48,48,48,48,48,48,48]))))] <| .ret
def qfD:IR:=zq [za 2 (zQ false),za 11 (.ite (zI .eql (zT (zv 0)) (zK 0)) (zQ true) (zI .gtr (zT (zv 0)) (zK 10))),zg 11 false 12 (zv 0),zh 11 false 13 244 #[zt 12] #[9] 3,za 27 (.ite (.ite (zv 11) (zQ true) (zI .neq (zv 13) (zT (zv 0)))) (zQ true) (.ite (zI .gtr (zT (zv 0)) (zK 1)) (zB .eql (.op2 .ixs (zv 0) (zK 0)) (.const (zu 48))) (zQ false)))] <| .seq (.cond (zv 27) (zq [za 2 (zQ false)] <| .ret) .skip) (qfC)
def qsi:List Nat:=[0,2,11,12,13,27]
def qFk:C1 245 35 qsi qfD [.tmp 2]:=c1 [] Tryz.func245
noncomputable def qfB:Code:=(qhx ((Tryz.f266.body).getD .skip))
def qjq:IR:=.raw (qv qfB 8)
def qjp:IR:=.cond (zv 36) (zq [za 51 (zf 0 (zN (zv 0))),zc 52 306 #[zt 51] #[215] 9,zc 53 305 #[zt 52,(.const (zu 10))] #[9,5] 3,zm 3 53,za 55 (zI .lss (zv 3) (zK 0))] <| .seq (.cond (zv 55) (.reg [za 58 (zf 0 (zN (zv 0))),zc 59 306 #[zt 58] #[215] 9,za 3 (zT (zv 59))]) .skip) (qjq)) (.exit 0)
def qfA:IR:=.cond (zv 18) (.reg [za 34 (zf 0 (zN (zv 0))),zc 35 304 #[zt 34,zO 1] #[215,3] 9]) (.seq (.drw [za 36 (zB .eql (.op2 .ixs (zo 0 (zf 0 (zN (zv 0)))) (zo 1 (zf 0 (zN (zv 0))))) (.const (zu 37)))]) (qjp))
def qse:IR:=.block 1 (.block 2 (.seq (.raw (qv qfB 2)) (qfA)))
def qjo:IR:=.seq (.cond (zv 17) .skip (.exit 0)) (qse)
def qjn:IR:=.seq (.drw [za 17 (zI .lss (zo 1 (zf 0 (zN (zv 0)))) (zT (zo 0 (zf 0 (zN (zv 0))))))]) (qjo)
def qsd:IR:=.block 0 (.loop qjn)
def qjr:IR:=zq [zc 4 303 #[] #[] 289,zE 5 (.index 289 (zt 4) (zO 2)) 288,zm 2 5] <| .seq (.raw (.label 0)) (qsd)
def qcj:List Nat:=zV 75 [1,6,7,8,9,10,11,12,13,14,15,16,32,33,37,38,39,40,41,42,43,44,45,46,47,48,49,50,54,56,57,60]
theorem qFc:(jk Tryz.prog Tryz.f266.ntmps qcj [8,2] (qhx (Tryz.f266.body.getD .skip))).map IR.norm=some qjr:=by kernel_rfl
def qFf {v0:AB} {w:AA} {R:Ending->AA->Prop} (h:∀ρ:qa,ρ 0=v0->qjr.wp ⟨Tryz.prog,75,qcj,[]⟩ (qz [] R) (qM [] R) ρ w):
  Calls Tryz.prog 266 #[v0] w R:=by
 obtain ⟨b,e,a⟩:=uc.1 qFc;exact qv6 (args:=#[v0]) Tryz.func266 (c:=(qhx (Tryz.f266.body.getD .skip))) rfl e a (by kernel_rfl) (show zi Tryz.prog qcj Tryz.f266.results.toList=some [] by kernel_rfl) (uI rfl) (h _ rfl)
def qsc:OT:=zy 19 (zv 2)<|zy 20 (zv 0)<|zy 21 (zN (zv 20))<|zy 22 (zf 0 (zv 21))<|zy 23 (zf 0 (zv 22))<|zy 24 (zl (zv 23))<|zy 25 (zv 0)<|zy 26 (zN (zv 25))<|zy 27 (zf 0 (zv 26))<|zy 28 (zf 1 (zv 27))<|zy 29 (zl (zv 28))<|zy 30 (.op2 .ixs (zv 24) (zv 29))<| .step (zE 31 (.call {callee:=.value (zt 19),args:=#[zt 30],argTypes:=#[188]}) 4) false<| .step (zm 18 31) false<| .done
theorem qFe:jx Tryz.prog 75 qcj 12 (qv qfB 2)=some qsc:=by kernel_rfl
def qsb:OT:=zy 61 (zv 0)<|zy 62 (zv 0)<|zy 63 (zN (zv 62))<|zy 64 (zf 3 (zv 63))<|zy 65 (zl (zv 64))<|zy 66 (zv 0)<|zy 67 (zN (zv 66))<|zy 68 (zf 0 (zv 67))<|zy 69 (zv 3)<| .step (zc 70 304 #[zt 68,zt 69] #[215,3] 9) true<| .step (zE 71 (.buildSlice 51 1 #[(0,(zt 70))]) 51) true<| .step (zp 72 #[zt 65,zt 71] #[51,51] 51) true<| .step (za 73 (zN (zv 61))) false<| .step (za 74 (zf 3 (zv 73))) false<| .step (zw 51 (zt 74) (zt 72)) false<| .done
theorem qFd:jx Tryz.prog 75 qcj 12 (qv qfB 8)=some qsb:=by kernel_rfl
noncomputable def qci:Code:=((Tryz.f267.body).getD .skip)
def qFa:IR:=.reg [za 83 (zf 0 (zN (zv 0))),zm 84 6,zc 85 304 #[zt 83,zt 84] #[215,3] 9,za 86 (zf 1 (zv 3)),zw 9 (zt 86) (zt 85)]
def qjm:IR:=zq [za 69 (zf 0 (zN (zv 0))),zc 70 306 #[zt 69] #[215] 9,za 7 (.op3 .stLoHi (zv 70) (zK 0) (zv 6)),za 73 (zf 0 (zv 3)),zw 5 (zt 73) (.const (zu 1)),zm 74 7,zc 75 166 #[zt 74] #[9] 4] <| .seq (.cond (zv 75) (.reg [za 76 (zf 0 (zv 3)),zw 5 (zt 76) (.const (zu 2))]) (zq [za 78 (zI .gtr (zv 6) (zK 12))] <| .cond (zv 78) (.reg [zm 79 0,zc 80 308 #[zt 79,zO 12] #[213,24] 0]) .skip)) (qFa)
def qr8:IR:=.reg [za 106 (zf 0 (zv 3)),zw 5 (zt 106) (.const (zu 3)),za 109 (zf 0 (zN (zv 0))),zm 110 8,zc 111 304 #[zt 109,zt 110] #[215,3] 9,za 112 (zf 1 (zv 3)),zw 9 (zt 112) (zt 111)]
def qjl:IR:=zq [za 98 (zf 0 (zN (zv 0))),zc 99 306 #[zt 98] #[215] 9,za 101 (.op3 .stLoHi (zv 99) (zK 0) (zv 8)),zc 102 309 #[zt 101] #[9] 4,za 103 (zn (zv 102))] <| .seq (.cond (zv 103) (.reg [zm 104 0,zc 105 308 #[zt 104,zO 11] #[213,24] 0]) .skip) (qr8)
def qjk:IR:=.reg [za 32 (zI .add (zv 32) (zK 1))]
def qr7:IR:=.seq (.block 2 (zq [za 11 (zl (zx 1 (zv 30) (zv 32))),za 38 (zf 0 (zN (zv 0))),zc 39 306 #[zt 38] #[215] 9,zm 40 11,zc 41 311 #[zt 39,zt 40] #[9,9] 4] <| .cond (zv 41) (.reg [zm 42 9,za 44 (zT (zv 11)),zE 45 (.call {callee:=.builtin .max,args:=#[zt 42,zt 44],argTypes:=#[3,3]}) 3,zm 9 45]) .skip)) (qjk)
def qdS:IR:=zq [za 33 (zI .lss (zv 32) (zv 31))] <| .seq (.cond (zv 33) .skip (.exit 1)) (qr7)
def qr6:IR:=.reg [za 51 (zf 0 (zv 3)),zw 5 (zt 51) (.const (zu 4)),za 54 (zf 0 (zN (zv 0))),zm 55 9,zc 56 304 #[zt 54,zt 55] #[215,3] 9,za 57 (zf 1 (zv 3)),zw 9 (zt 57) (zt 56)]
def qfz:IR:=zq [za 48 (zI .eql (zv 9) (zK 0))] <| .seq (.cond (zv 48) (.reg [zm 49 0,zc 50 308 #[zt 49,zO 10] #[213,24] 0]) .skip) (qr6)
def qbu:IR:=zq [za 113 (zM 3 (zv 3)),zw 53 (zt 2) (zt 113)] <| .ret
def qr9:IR:=.seq (.block 0 (zq [zm 59 5,zc 60 162 #[zt 59] #[188] 4,zm 58 60] <| .cond (zv 58) (.seq (.raw (qv qci 16)) (qjm)) (zq [zm 88 5,zc 89 232 #[zt 88] #[188] 4,zm 87 89] <| .cond (zv 87) (.seq (.raw (qv qci 25)) (qjl)) (zq [za 9 (zK 0),zc 30 310 #[] #[] 51,za 31 (zL (zv 30)),za 32 (zK 0)] <| .seq (.block 1 (.loop qdS)) (qfz))))) (qbu)
def qsa:IR:=zq [zA 2 53,za 16 (zo 2 (zf 0 (zN (zv 0)))),zE 17 (.build 53 #[(2,(zt 16))]) 53,zA 3 53,zw 53 (zt 3) (zt 17),zc 18 303 #[] #[] 289,zA 4 289,zw 289 (zt 4) (zt 18)] <| .seq (.drw [za 5 (.op2 .ixs (zo 0 (zf 0 (zN (zv 0)))) (zo 1 (zf 0 (zN (zv 0)))))]) (qr9)
def kC:List Nat:=zV 114 [1,10,12,13,14,15,19,20,21,22,23,24,25,26,27,28,29,34,35,36,37,43,46,47,52,53,67,68,71,72,77,81,82,96,97,100,107,108]
def qFb:C1 267 114 kC qsa [.cellN 2 3]:=c1 [25,16] Tryz.func267
def qr5:OT:=zy 61 (zv 0)<|zy 62 (zN (zv 61))<|zy 63 (zf 0 (zv 62))<| .step (zE 64 (.indexAddr 289 (zt 4) (zO 0)) 0) true<|zy 65 (zl (zv 64))<| .step (zc 66 307 #[zt 63,zt 65] #[215,288] 3) false<| .step (zm 6 66) false<| .done
theorem qE9:jx Tryz.prog 114 kC 5 (qv qci 16)=some qr5:=by kernel_rfl
def qr4:OT:=zy 90 (zv 0)<|zy 91 (zN (zv 90))<|zy 92 (zf 0 (zv 91))<| .step (zE 93 (.indexAddr 289 (zt 4) (zO 1)) 0) true<|zy 94 (zl (zv 93))<| .step (zc 95 307 #[zt 92,zt 94] #[215,288] 3) false<| .step (zm 8 95) false<| .done
theorem qE8:jx Tryz.prog 114 kC 5 (qv qci 25)=some qr4:=by kernel_rfl
def qsj:IR:=.block 1 (.reg [za 3 (zI .add (zv 3) (zK 1))])
def qjs:IR:=zq [za 8 (zI .lss (zv 3) (zT (zv 0))),zg 8 true 11 (.op2 .ixs (zv 0) (zv 3)),zh 8 true 12 234 #[zt 11] #[5] 4,za 13 (.ite (zv 8) (zv 12) (zQ false))] <| .seq (.cond (zv 13) .skip (.exit 0)) (qsj)
def qjt:IR:=zq [zm 2 3] <| .ret
def qsk:IR:=zq [za 2 (zK 0),za 3 (zK 0)] <| .seq (.block 0 (.loop qjs)) (qjt)
def qFm:List Nat:=[0,2,3,8,11,12,13]
def qFl:C1 244 17 qFm qsk [.tmp 2]:=c1 [] Tryz.func244
def qfG:IR:=.reg [za 8 (zI .add (zv 8) (zK 1))]
def qfF:IR:=.seq (.block 1 (zq [zm 5 8,za 16 (zS .eql (zv 1) (zl (zx 1 (zv 0) (zv 5))))] <| .cond (zv 16) (zq [zm 4 5] <| .ret) .skip)) (qfG)
def qdT:IR:=zq [za 9 (zI .lss (zv 8) (zv 7))] <| .seq (.cond (zv 9) .skip (.exit 0)) (qfF)
def qfE:IR:=zq [za 4 (.const (.int .i64 (-1)))] <| .ret
def qfH:IR:=zq [za 4 (zK 0),za 7 (zL (zv 0)),za 8 (zK 0)] <| .seq (.block 0 (.loop qdT)) (qfE)
def qjw:List Nat:=[0,1,4,5,7,8,9,16]
def qsC:C2 229 19 qjw qfH [.tmp 4]:=c2 [] Tryz.func229
def qrI:IR:=zq [zA 0 289,zE 1 (.build 289 #[(0,(.func 165)),(1,(.func 232)),(2,(.func 346))]) 289,zw 289 (zt 0) (zt 1)] <| .ret
def qEJ:List Nat:=[0,1]
def qEI:C0 303 2 qEJ qrI [.cellN 0 3]:=c0 [] Tryz.func303
noncomputable def qrF:Code:=((Tryz.f304.body).getD .skip)
def qrE:IR:=zq [zm 30 0,za 35 (zI .add (zo 1 (zN (zv 30))) (zv 1)),za 37 (zf 1 (zN (zv 30))),zw 3 (zt 37) (zt 35),zm 4 5] <| .ret
def qrD:IR:=.seq (.raw (qv qrF 2)) (qrE)
def qrH:IR:=zq [za 4 (.const (zs #[]))] <| .seq (.drw [za 5 (.op3 .stLoHi (zo 0 (zN (zv 0))) (zo 1 (zN (zv 0))) (zI .add (zo 1 (zN (zv 0))) (zv 1)))]) (qrD)
def qrG:List Nat:=[0,1,4,5,21,22,23,24,25,26,27,28,29,30,35,37]
def qEH:C2 304 39 qrG qrH [.tmp 4]:=c2 [2] Tryz.func304
def qrC:OT:=zy 21 (zv 0)<|zy 22 (zN (zv 21))<|zy 23 (zf 2 (zv 22))<|zy 24 (zl (zv 23))<|zy 25 (zv 5)<| .step (zc 26 198 #[zt 25,zY #[10]] #[9,9] 3) true<| .step (za 27 (zI .add (zv 24) (zv 26))) false<| .step (za 28 (zN (zv 21))) false<| .step (za 29 (zf 2 (zv 28))) false<| .step (zw 3 (zt 29) (zt 27)) false<| .done
theorem qEG:jx Tryz.prog 39 qrG 6 (qv qrF 2)=some qrC:=by kernel_rfl
def qrA:IR:=.ret
def qrB:IR:=zq [za 2 (.const (zs #[]))] <| .seq (.drw [za 2 (.op2 .stLo (zo 0 (zN (zv 0))) (zo 1 (zN (zv 0))))]) (qrA)
def qEF:List Nat:=[0,2]
def qEE:C1 306 12 qEF qrB [.tmp 2]:=c1 [] Tryz.func306
def qry:IR:=.reg [za 11 (zI .add (zv 11) (zK 1))]
def qrx:IR:=.seq (.block 1 (zq [zm 6 11,zm 14 1,za 17 (.op2 .ixs (zv 5) (zv 6)),zE 18 (.call {callee:=.value (zt 14),args:=#[zt 17],argTypes:=#[188]}) 4,za 19 (zn (zv 18))] <| .cond (zv 19) (zq [zm 4 6] <| .ret) .skip)) (qry)
def qjf:IR:=zq [za 12 (zI .lss (zv 11) (zv 10))] <| .seq (.cond (zv 12) .skip (.exit 0)) (qrx)
def qrw:IR:=zq [za 4 (zT (zv 5))] <| .ret
def qrz:IR:=zq [za 4 (zK 0),zm 7 0,zc 8 306 #[zt 7] #[318] 9,zm 5 8,za 10 (zT (zv 5)),za 11 (zK 0)] <| .seq (.block 0 (.loop qjf)) (qrw)
def qED:List Nat:=zV 20 [2,3,9,13,15,16]
def qEC:C2 307 24 qED qrz [.tmp 4]:=c2 [] Tryz.func307
def qrv:IR:=.reg [zm 4 1,za 9 (zo 2 (zf 0 (zN (zv 0)))),zE 10 (.build 26 #[(0,(zt 4)),(1,(zt 9))]) 26,zE 11 (.build 212 #[(0,(zt 10))]) 212,za 12 (.op1 (.mkif 212) (zv 11)),.eff none none (.panic (zt 12)) 0]
def qEB:List Nat:=[0,1,4,9,10,11,12]
def qEA:C2 308 13 qEB qrv []:=c2 [] Tryz.func308
def qqW:IR:=zq [za 2 (zQ false),za 2 (.ite (.ite (zB .eql (zv 0) (.const (zu 32))) (zQ true) (zB .eql (zv 0) (.const (zu 9)))) (zQ true) (zB .eql (zv 0) (.const (zu 10))))] <| .ret
def qD9:List Nat:=[0,2]
def qD8:C1 346 13 qD9 qqW [.tmp 2]:=c1 [] Tryz.func346
def qiG:IR:=zq [za 4 (zK 0),za 5 (.const .nilIface),zm 6 0,zc 7 177 #[zt 6] #[111] 0,zm 8 0,za 12 (zo 1 (zN (zv 0))),zm 13 1,zp 14 #[zt 12,zt 13] #[112,9] 112,za 16 (zf 1 (zN (zv 8))),zw 112 (zt 16) (zt 14),za 4 (zT (zv 1)),za 5 (.const .nilIface)] <| .ret
def qDp:List Nat:=zV 17 [2,3,9,10,11,15]
def qpT:C2 89 19 qDp qiG [.tmp 4,.tmp 5]:=c2 [] Tryz.func89
end Go.L01
