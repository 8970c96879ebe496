/- Lemmas for a claim about layer 2 (tree). No conditions but those they state. -/
import Derived.Test.YtbcmiempigoooaaGreatDoorEal
import Derived.Test.YtbcmiempigoooaaGreatDoorProg
import Derived.KernelRfl
set_option linter.all false
namespace Go.Eng
open Go Go.Proofs
def sE {V:List Nat} {args:Array Value} {i:Nat} (h:V.contains i=true) (a:i≠gS):wH V args i=args.getD i undef:=by
 unfold wH;rw [if_neg a,if_pos (by simpa using h)]
abbrev C0 (f n:Nat) (V:List Nat) (ir:IR) (rs:List RV):Prop:=∀{w:World} {R:Ending->World->Prop},(∀ρ:qa,ir.wp ⟨Tryz.prog,n,V,[]⟩ (qB rs R) (ji rs R) ρ w)->Calls Tryz.prog f #[] w R
def c0 (a:List Nat) {f n:Nat} {fn:Func} {V:List Nat} {ir:IR} {rs:List RV} (j:Tryz.prog.funcs[f]? =some fn) (i:fn.body=some (fn.body.getD .skip):=by rfl) (b:(jo Tryz.prog fn.ntmps V a (fn.body.getD .skip)).map IR.norm=some ir:=by kernel_rfl) (c:zX Tryz.prog V fn.results.toList=some rs:=by kernel_rfl) (e:(kU fn V&&Nat.ble 0 fn.ntmps&&Nat.beq fn.ntmps n)=true:=by kernel_rfl):C0 f n V ir rs:=by
 simp only [j0] at e;obtain ⟨⟨k,l⟩,a3⟩:=e;have g:=uo a3;subst g;exact fun {w R} h=>qbE (args:=#[]) j i b k c (uV l) (h _)
abbrev C1 (f n:Nat) (V:List Nat) (ir:IR) (rs:List RV):Prop:=∀{v0:Value} {w:World} {R:Ending->World->Prop},(∀ρ:qa,ρ 0=v0->ir.wp ⟨Tryz.prog,n,V,[]⟩ (qB rs R) (ji rs R) ρ w)->Calls Tryz.prog f #[v0] w R
def c1 (a:List Nat) {f n:Nat} {fn:Func} {V:List Nat} {ir:IR} {rs:List RV} (j:Tryz.prog.funcs[f]? =some fn) (i:fn.body=some (fn.body.getD .skip):=by rfl) (b:(jo Tryz.prog fn.ntmps V a (fn.body.getD .skip)).map IR.norm=some ir:=by kernel_rfl) (c:zX Tryz.prog V fn.results.toList=some rs:=by kernel_rfl) (e:(kU fn V&&Nat.ble 1 fn.ntmps&&Nat.beq fn.ntmps n&&V.contains 0)=true:=by kernel_rfl):C1 f n V ir rs:=by
 simp only [j0] at e;obtain ⟨⟨⟨k,l⟩,a3⟩,b0⟩:=e;have g:=uo a3;subst g;exact fun {v0 w R} h=>qbE (args:=#[v0]) j i b k c (uV l) (h _ (sE b0 (by decide)))
abbrev C2 (f n:Nat) (V:List Nat) (ir:IR) (rs:List RV):Prop:=∀{v0 v1:Value} {w:World} {R:Ending->World->Prop},(∀ρ:qa,ρ 0=v0->ρ 1=v1->ir.wp ⟨Tryz.prog,n,V,[]⟩ (qB rs R) (ji rs R) ρ w)->Calls Tryz.prog f #[v0,v1] w R
def c2 (a:List Nat) {f n:Nat} {fn:Func} {V:List Nat} {ir:IR} {rs:List RV} (k:Tryz.prog.funcs[f]? =some fn) (i:fn.body=some (fn.body.getD .skip):=by rfl) (b:(jo Tryz.prog fn.ntmps V a (fn.body.getD .skip)).map IR.norm=some ir:=by kernel_rfl) (c:zX Tryz.prog V fn.results.toList=some rs:=by kernel_rfl) (e:(kU fn V&&Nat.ble 2 fn.ntmps&&Nat.beq fn.ntmps n&&V.contains 0&&V.contains 1)=true:=by kernel_rfl):C2 f n V ir rs:=by
 simp only [j0] at e;obtain ⟨⟨⟨⟨l,m⟩,a3⟩,b0⟩,j⟩:=e;have g:=uo a3;subst g;exact fun {v0 o w R} h=>qbE (args:=#[v0,o]) k i b l c (uV m) (h _ (sE b0 (by decide)) (sE j (by decide)))
abbrev C3 (f n:Nat) (V:List Nat) (ir:IR) (rs:List RV):Prop:=∀{v0 v1 v2:Value} {w:World} {R:Ending->World->Prop},(∀ρ:qa,ρ 0=v0->ρ 1=v1->ρ 2=v2->ir.wp ⟨Tryz.prog,n,V,[]⟩ (qB rs R) (ji rs R) ρ w)->Calls Tryz.prog f #[v0,v1,v2] w R
def c3 (a:List Nat) {f n:Nat} {fn:Func} {V:List Nat} {ir:IR} {rs:List RV} (l:Tryz.prog.funcs[f]? =some fn) (j:fn.body=some (fn.body.getD .skip):=by rfl) (b:(jo Tryz.prog fn.ntmps V a (fn.body.getD .skip)).map IR.norm=some ir:=by kernel_rfl) (c:zX Tryz.prog V fn.results.toList=some rs:=by kernel_rfl) (e:(kU fn V&&Nat.ble 3 fn.ntmps&&Nat.beq fn.ntmps n&&V.contains 0&&V.contains 1&&V.contains 2)=true:=by kernel_rfl):C3 f n V ir rs:=by
 simp only [j0] at e;obtain ⟨⟨⟨⟨⟨m,o⟩,a3⟩,b0⟩,k⟩,b2⟩:=e;have g:=uo a3;subst g;exact fun {v0 p i w R} h=>qbE (args:=#[v0,p,i]) l j b m c (uV o) (h _ (sE b0 (by decide)) (sE k (by decide)) (sE b2 (by decide)))
abbrev C4 (f n:Nat) (V:List Nat) (ir:IR) (rs:List RV):Prop:=∀{v0 v1 v2 v3:Value} {w:World} {R:Ending->World->Prop},(∀ρ:qa,ρ 0=v0->ρ 1=v1->ρ 2=v2->ρ 3=v3->ir.wp ⟨Tryz.prog,n,V,[]⟩ (qB rs R) (ji rs R) ρ w)->Calls Tryz.prog f #[v0,v1,v2,v3] w R
def c4 (a:List Nat) {f n:Nat} {fn:Func} {V:List Nat} {ir:IR} {rs:List RV} (l:Tryz.prog.funcs[f]? =some fn) (j:fn.body=some (fn.body.getD .skip):=by rfl) (b:(jo Tryz.prog fn.ntmps V a (fn.body.getD .skip)).map IR.norm=some ir:=by kernel_rfl) (c:zX Tryz.prog V fn.results.toList=some rs:=by kernel_rfl) (e:(kU fn V&&Nat.ble 4 fn.ntmps&&Nat.beq fn.ntmps n&&V.contains 0&&V.contains 1&&V.contains 2&&V.contains 3)=true:=by kernel_rfl):C4 f n V ir rs:=by
 simp only [j0] at e;obtain ⟨⟨⟨⟨⟨⟨m,o⟩,a3⟩,b0⟩,k⟩,b2⟩,b3⟩:=e;have g:=uo a3;subst g;exact fun {v0 p i v3 w R} h=>qbE (args:=#[v0,p,i,v3]) l j b m c (uV o) (h _ (sE b0 (by decide)) (sE k (by decide)) (sE b2 (by decide)) (sE b3 (by decide)))
abbrev C5 (f n:Nat) (V:List Nat) (ir:IR) (rs:List RV):Prop:=∀{v0 v1 v2 v3 v4:Value} {w:World} {R:Ending->World->Prop},(∀ρ:qa,ρ 0=v0->ρ 1=v1->ρ 2=v2->ρ 3=v3->ρ 4=v4->ir.wp ⟨Tryz.prog,n,V,[]⟩ (qB rs R) (ji rs R) ρ w)->Calls Tryz.prog f #[v0,v1,v2,v3,v4] w R
def c5 (a:List Nat) {f n:Nat} {fn:Func} {V:List Nat} {ir:IR} {rs:List RV} (l:Tryz.prog.funcs[f]? =some fn) (j:fn.body=some (fn.body.getD .skip):=by rfl) (b:(jo Tryz.prog fn.ntmps V a (fn.body.getD .skip)).map IR.norm=some ir:=by kernel_rfl) (c:zX Tryz.prog V fn.results.toList=some rs:=by kernel_rfl) (e:(kU fn V&&Nat.ble 5 fn.ntmps&&Nat.beq fn.ntmps n&&V.contains 0&&V.contains 1&&V.contains 2&&V.contains 3&&V.contains 4)=true:=by kernel_rfl):C5 f n V ir rs:=by
 simp only [j0] at e;obtain ⟨⟨⟨⟨⟨⟨⟨m,o⟩,a3⟩,b0⟩,k⟩,b2⟩,b3⟩,b4⟩:=e;have g:=uo a3;subst g;exact fun {v0 p i v3 v4 w R} h=>qbE (args:=#[v0,p,i,v3,v4]) l j b m c (uV o) (h _ (sE b0 (by decide)) (sE k (by decide)) (sE b2 (by decide)) (sE b3 (by decide)) (sE b4 (by decide)))
abbrev C6 (f n:Nat) (V:List Nat) (ir:IR) (rs:List RV):Prop:=∀{v0 v1 v2 v3 v4 v5:Value} {w:World} {R:Ending->World->Prop},(∀ρ:qa,ρ 0=v0->ρ 1=v1->ρ 2=v2->ρ 3=v3->ρ 4=v4->ρ 5=v5->ir.wp ⟨Tryz.prog,n,V,[]⟩ (qB rs R) (ji rs R) ρ w)->Calls Tryz.prog f #[v0,v1,v2,v3,v4,v5] w R
def c6 (a:List Nat) {f n:Nat} {fn:Func} {V:List Nat} {ir:IR} {rs:List RV} (m:Tryz.prog.funcs[f]? =some fn) (j:fn.body=some (fn.body.getD .skip):=by rfl) (b:(jo Tryz.prog fn.ntmps V a (fn.body.getD .skip)).map IR.norm=some ir:=by kernel_rfl) (c:zX Tryz.prog V fn.results.toList=some rs:=by kernel_rfl) (e:(kU fn V&&Nat.ble 6 fn.ntmps&&Nat.beq fn.ntmps n&&V.contains 0&&V.contains 1&&V.contains 2&&V.contains 3&&V.contains 4&&V.contains 5)=true:=by kernel_rfl):C6 f n V ir rs:=by
 simp only [j0] at e;obtain ⟨⟨⟨⟨⟨⟨⟨⟨o,p⟩,a3⟩,b0⟩,l⟩,b2⟩,b3⟩,b4⟩,k⟩:=e;have g:=uo a3;subst g;exact fun {v0 s i v3 v4 v5 w R} h=>qbE (args:=#[v0,s,i,v3,v4,v5]) m j b o c (uV p) (h _ (sE b0 (by decide)) (sE l (by decide)) (sE b2 (by decide)) (sE b3 (by decide)) (sE b4 (by decide)) (sE k (by decide)))
end Go.Eng
namespace Go.L02
open Go Go.Eng Go.Proofs
set_option maxRecDepth 100000
set_option maxHeartbeats 2000000
noncomputable def qrJ:Code:=((Tryz.f54.body).getD .skip)
noncomputable def qbr:IR:=zq [zE 16 (.makeFunc (.func 116) #[] #[zt 5,zt 2,zt 6,zt 4]) 1,.eff none none (.defer {callee:=.value (zt 16),args:=#[],argTypes:=#[]}) 0,zm 17 1,zE 18 (.call {callee:=.value (zt 17),args:=#[],argTypes:=#[]}) 0,zw 4 (zt 4) (.const (zb true))] <| .ret
noncomputable def qdV:IR:=zq [zE 2 (.box 83 (zt 0)) 0,zA 4 4] <| .seq (.raw (qP qrJ 1)) (qbr)
def qbs:List Nat:=zV 19 [3]
theorem qFb:(jo Tryz.prog Tryz.f54.ntmps qbs [1] (Tryz.f54.body.getD .skip)).map IR.norm=some qdV:=by kernel_rfl
def qjR {v0 a:Value} {w:World} {R:Ending->World->Prop} (h:∀ρ:qa,ρ 0=v0->ρ 1=a->ρ gS=.tuple #[]->qdV.wp ⟨Tryz.prog,19,qbs,y6⟩ (vz Tryz.prog [.cell1 4] R .returning) (xj Tryz.prog [.cell1 4] R) ρ w):
  Calls Tryz.prog 54 #[v0,a] w R:=by
 obtain ⟨b,e,g⟩:=ua.1 qFb;exact qwZ (args:=#[v0,a]) Tryz.func54 (c:=(Tryz.f54.body.getD .skip)) rfl e g (by kernel_rfl) (show zX Tryz.prog qbs Tryz.f54.results.toList=some [.cell1 4] by kernel_rfl) (uV rfl) (h _ rfl rfl rfl)
noncomputable def qf5:OT:=zy 7 (zl (zv 2))<|zy 8 (zN (zv 7))<|zy 9 (zf 1 (zv 8))<|zy 10 (zl (zv 9))<|zy 11 (zl (zv 2))<|zy 12 (zN (zv 11))<|zy 13 (zf 3 (zv 12))<|zy 14 (zl (zv 13))<|zy 15 (zL (zv 14))<| .both (.step (zA 5 3) true<| .step (zA 6 3) true<| .step (zw 3 (zt 5) (zt 10)) true<| .step (zw 3 (zt 6) (zt 15)) false<| .done)<| .step (zA 6 3) true<| .step (zA 5 3) true<| .step (zw 3 (zt 5) (zt 10)) true<| .step (zw 3 (zt 6) (zt 15)) false<| .done
theorem qjQ:zj Tryz.prog 19 qbs 12 (qP qrJ 1)=some qf5:=by kernel_rfl
noncomputable def qvP:Code:=((Tryz.f116.body).getD .skip)
noncomputable def qvO:IR:=.raw (qP qvP 5)
def qgy:List Nat:=zV 31 [15]
noncomputable def qvN:OT:=zy 18 (zl (zv 1))<|zy 19 (zl (zv 1))<|zy 20 (zl (zv 0))<|zy 21 (zl (zv 1))<|zy 22 (zN (zv 21))<|zy 23 (zf 3 (zv 22))<|zy 24 (zl (zv 23))<|zy 25 (zl (zv 2))<|zy 26 (.op3 (.slLoHi 6) (zv 24) (zK 0) (zv 25))<|zy 27 (zN (zv 18))<|zy 28 (zf 1 (zv 27))<| .step (zw 3 (zt 28) (zt 20)) true<| .step (za 29 (zN (zv 19))) false<| .step (za 30 (zf 3 (zv 29))) false<| .step (zw 29 (zt 30) (zt 26)) false<| .step (zw 4 (zt 3) (.const (zb false))) false<| .done
theorem qIo:zj Tryz.prog 31 qgy 12 (qP qvP 5)=some qvN:=by kernel_rfl
noncomputable def qvp:Code:=((Tryz.f142.body).getD .skip)
noncomputable def qvo:IR:=.ret
noncomputable def qvn:IR:=zq [zE 29 (.build 53 #[]) 53,zw 53 (zt 4) (zt 29)] <| .ret
noncomputable def qkW:IR:=.seq (.cond (zv 16) (.seq (.raw (qP qvp 2)) (qvo)) .skip) (qvn)
noncomputable def qvr:IR:=zq [zA 4 53] <| .seq (.drw [za 16 (zI .lss (zI .add (zo 1 (zN (zv 0))) (zv 1)) (zL (zo 0 (zN (zv 0)))))]) (qkW)
def qvq:List Nat:=zV 30 [2,3,5,6,7,8,9,10,11,12,13,14,15]
def qH6:C2 142 30 qvq qvr [.cellN 4 3]:=c2 [2] Tryz.func142
noncomputable def qvm:OT:=zy 17 (zv 0)<|zy 18 (zN (zv 17))<|zy 19 (zf 0 (zv 18))<|zy 20 (zl (zv 19))<|zy 21 (zv 0)<|zy 22 (zN (zv 21))<|zy 23 (zf 1 (zv 22))<|zy 24 (zl (zv 23))<|zy 25 (zv 1)<|zy 26 (zI .add (zv 24) (zv 25))<| .step (za 27 (zx 3 (zv 20) (zv 26))) false<| .step (za 28 (zM 3 (zv 27))) false<| .step (zw 53 (zt 4) (zt 28)) false<| .done
theorem qH5:zj Tryz.prog 30 qvq 10 (qP qvp 2)=some qvm:=by kernel_rfl
noncomputable def qvs:IR:=zq [za 4 (zQ false),zm 6 0,zc 7 142 #[zt 6,zO 0] #[83,3] 53,zA 5 53,zw 53 (zt 5) (zt 7),za 16 (.ite (zB .eql (zo 0 (zv 5)) (.const (zu 2))) (zQ true) (zB .eql (zo 0 (zv 5)) (.const (zu 4)))),zg 16 true 17 (zv 1),zg 16 true 19 (zo 1 (zv 5)),zh 16 true 20 160 #[zt 17,zt 19] #[51,9] 4,za 4 (.ite (zv 16) (zv 20) (zQ false))] <| .ret
def qH8:List Nat:=[0,1,4,5,6,7,16,17,19,20]
def qH7:C2 141 22 qH8 qvs [.tmp 4]:=c2 [] Tryz.func141
noncomputable def qvL:IR:=zq [zm 10 0,za 14 (zI .add (zo 1 (zN (zv 10))) (zK 1)),za 16 (zf 1 (zN (zv 10))),zw 3 (zt 16) (zt 14),za 4 (zQ true)] <| .ret
noncomputable def qvM:IR:=zq [za 4 (zQ false),zm 5 0,zm 6 1,zE 7 (.buildSlice 51 1 #[(0,(zt 6))]) 51,zc 8 141 #[zt 5,zt 7] #[83,51] 4,za 9 (zn (zv 8))] <| .seq (.cond (zv 9) (zq [za 4 (zQ false)] <| .ret) .skip) (qvL)
def qIn:List Nat:=zV 17 [2,3,11,12,13,15]
def qIm:C2 117 17 qIn qvM [.tmp 4]:=c2 [] Tryz.func117
noncomputable def qu4:IR:=.reg [za 8 (zI .add (zv 8) (zK 1))]
noncomputable def qu3:IR:=.seq (.block 1 (zq [za 5 (zl (zx 1 (zv 6) (zv 8))),zm 12 0,zm 13 5,zc 14 117 #[zt 12,zt 13] #[83,9] 4,za 15 (zn (zv 14))] <| .cond (zv 15) (.reg [zm 16 0,zc 17 143 #[zt 16] #[83] 0]) .skip)) (qu4)
noncomputable def qkL:IR:=zq [za 9 (zI .lss (zv 8) (zv 7))] <| .seq (.cond (zv 9) .skip (.exit 0)) (qu3)
noncomputable def qu5:IR:=zq [zm 6 1,za 7 (zL (zv 6)),za 8 (zK 0)] <| .block 0 (.loop qkL)
def qHN:List Nat:=zV 18 [2,3,4,10,11]
def qHM:C2 153 19 qHN qu5 []:=c2 [] Tryz.func153
noncomputable def qvJ:IR:=zq [zm 11 0,za 15 (zI .add (zo 1 (zN (zv 11))) (zK 1)),za 17 (zf 1 (zN (zv 11))),zw 3 (zt 17) (zt 15),za 2 (zo 1 (zv 3))] <| .ret
noncomputable def qvK:IR:=zq [za 2 (.const (zs #[])),zm 4 0,zc 5 142 #[zt 4,zO 0] #[83,3] 53,zA 3 53,zw 53 (zt 3) (zt 5),za 8 (zB .neq (zo 0 (zv 3)) (.const (zu 1)))] <| .seq (.cond (zv 8) (.reg [zm 9 0,zc 10 143 #[zt 9] #[83] 0]) .skip) (qvJ)
def qIl:List Nat:=zV 18 [1,6,7,12,13,14,16]
def qIk:C1 120 20 qIl qvK [.tmp 2]:=c1 [] Tryz.func120
noncomputable def qvj:Code:=((Tryz.f143.body).getD .skip)
noncomputable def qvi:IR:=.reg [zE 14 (.build 153 #[]) 153,za 15 (.op1 (.mkif 153) (zv 14)),.eff none none (.panic (zt 15)) 0]
noncomputable def qvl:IR:=.seq (.raw (qP qvj 0)) (qvi)
def qvk:List Nat:=zV 16 [1]
def qH4:C1 143 16 qvk qvl []:=c1 [0] Tryz.func143
noncomputable def qvh:OT:=zy 2 (zv 0)<|zy 3 (zv 0)<|zy 4 (zN (zv 3))<|zy 5 (zf 2 (zv 4))<|zy 6 (zl (zv 5))<|zy 7 (zv 0)<|zy 8 (zN (zv 7))<|zy 9 (zf 1 (zv 8))<|zy 10 (zl (zv 9))<| .step (zE 11 (.call {callee:=.builtin .max,args:=#[zt 6,zt 10],argTypes:=#[3,3]}) 3) true<| .step (za 12 (zN (zv 2))) false<| .step (za 13 (zf 2 (zv 12))) false<| .step (zw 3 (zt 13) (zt 11)) false<| .done
theorem qH3:zj Tryz.prog 16 qvk 10 (qP qvj 0)=some qvh:=by kernel_rfl
noncomputable def qjP:IR:=.cond (zv 11) (.reg [zm 12 0,zc 13 143 #[zt 12] #[83] 0]) .skip
noncomputable def qrA:IR:=.seq (.drw [za 11 (zI .lss (zo 1 (zN (zv 0))) (zL (zo 0 (zN (zv 0)))))]) (qjP)
def qE2:List Nat:=[0,11,12,13]
def qE1:C1 63 14 qE2 qrA []:=c1 [] Tryz.func63
noncomputable def quW:IR:=.reg [zm 15 0,za 19 (zI .add (zo 1 (zN (zv 15))) (zK 1)),za 21 (zf 1 (zN (zv 15))),zw 3 (zt 21) (zt 19)]
noncomputable def quX:IR:=zq [zm 3 0,zc 4 142 #[zt 3,zO 0] #[83,3] 53,zA 2 53,zw 53 (zt 2) (zt 4),za 12 (.ite (zB .neq (zo 0 (zv 2)) (.const (zu 1))) (zQ true) (zS .neq (zo 1 (zv 2)) (.const (zs #[116]))))] <| .seq (.cond (zv 12) (.reg [zm 13 0,zc 14 143 #[zt 13] #[83] 0]) .skip) (quW)
def qHH:List Nat:=[0,2,3,4,12,13,14,15,19,21]
def qHG:C1 156 22 qHH quX []:=c1 [] Tryz.func156
noncomputable def qru:IR:=.block 0 (zq [zm 12 0,zc 13 117 #[zt 12,zY #[105,110,116]] #[83,9] 4,zm 14 13,zg 14 false 15 (zv 0),zh 14 false 16 117 #[zt 15,zY #[98,111,111,108]] #[83,9] 4,za 18 (.ite (zv 14) (zQ true) (zv 16)),zg 18 false 19 (zv 0),zh 18 false 20 117 #[zt 19,zY #[110,117,108,108]] #[83,9] 4,za 11 (.ite (zv 18) (zQ true) (zv 20))] <| .cond (zv 11) .skip (zq [zm 23 0,zc 24 117 #[zt 23,zY #[97,114,114,97,121]] #[83,9] 4,zm 22 24] <| .cond (zv 22) (.reg [zm 25 0,zE 26 (.buildSlice 51 1 #[(0,(zY #[91]))]) 51,zc 27 153 #[zt 25,zt 26] #[83,51] 0,zm 28 0,zc 29 72 #[zt 28] #[83] 0,zm 30 0,zE 31 (.buildSlice 51 1 #[(0,(zY #[93]))]) 51,zc 32 153 #[zt 30,zt 31] #[83,51] 0]) (zq [zm 34 0,zc 35 117 #[zt 34,zY #[114,101,99,111,114,100]] #[83,9] 4,zm 36 35,zg 36 false 37 (zv 0),zh 36 false 38 117 #[zt 37,zY #[111,110,101,111,102]] #[83,9] 4,za 33 (.ite (zv 36) (zQ true) (zv 38))] <| .cond (zv 33) (.reg [zm 40 0,zE 41 (.buildSlice 51 1 #[(0,(zY #[91]))]) 51,zc 42 153 #[zt 40,zt 41] #[83,51] 0,zm 43 0,zm 44 0,zE 45 (.makeFunc (.func 155) #[zt 44] #[]) 129,zc 46 154 #[zt 43,zt 45] #[83,129] 51,zm 47 0,zE 48 (.buildSlice 51 1 #[(0,(zY #[93]))]) 51,zc 49 153 #[zt 47,zt 48] #[83,51] 0]) (zq [zm 51 0,zc 52 117 #[zt 51,zY #[63]] #[83,9] 4,zm 50 52] <| .cond (zv 50) (.reg [zm 53 0,zc 54 156 #[zt 53] #[83] 0]) (zq [zm 2 0,zc 3 120 #[zt 2] #[83] 9,zm 4 0,zc 5 117 #[zt 4,zY #[91]] #[83,9] 4] <| .cond (zv 5) (.reg [zm 6 0,zc 7 72 #[zt 6] #[83] 0,zm 8 0,zE 9 (.buildSlice 51 1 #[(0,(zY #[93]))]) 51,zc 10 153 #[zt 8,zt 9] #[83,51] 0]) .skip)))))
def qES:List Nat:=zV 55 [1,17,21,39]
def qER:C1 72 55 qES qru []:=c1 [] Tryz.func72
noncomputable def quY:IR:=zq [za 2 (.const (zs #[])),zm 3 0,zc 4 120 #[zt 3] #[83] 9,zm 5 0,zE 6 (.buildSlice 51 1 #[(0,(zY #[58]))]) 51,zc 7 153 #[zt 5,zt 6] #[83,51] 0,zm 8 0,zc 9 72 #[zt 8] #[83] 0,za 2 (.const (zs #[]))] <| .ret
def qHJ:List Nat:=zV 10 [1]
def qHI:C1 155 10 qHJ quY [.tmp 2]:=c1 [] Tryz.func155
noncomputable def qu1:IR:=.block 1 (.reg [zm 11 5,zm 12 1,zE 13 (.call {callee:=.value (zt 12),args:=#[],argTypes:=#[]}) 9,zE 14 (.buildSlice 51 1 #[(0,(zt 13))]) 51,zp 15 #[zt 11,zt 14] #[51,51] 51,zm 5 15])
noncomputable def quZ:IR:=zq [zm 9 0,zc 10 117 #[zt 9,zY #[44]] #[83,9] 4] <| .seq (.cond (zv 10) .skip (.exit 0)) (qu1)
noncomputable def qu0:IR:=zq [zm 4 5] <| .ret
noncomputable def qu2:IR:=zq [za 4 (.const (.slice none 0 0)),zm 6 1,zE 7 (.call {callee:=.value (zt 6),args:=#[],argTypes:=#[]}) 9,zE 8 (.buildSlice 51 1 #[(0,(zt 7))]) 51,zm 5 8] <| .seq (.block 0 (.loop quZ)) (qu0)
def qHL:List Nat:=zV 16 [2,3]
def qHK:C2 154 17 qHL qu2 [.tmp 4]:=c2 [] Tryz.func154
noncomputable def qt6:IR:=.ret
noncomputable def qt7:IR:=zq [za 2 (.const (zs #[])),za 3 (zo 1 (zN (zv 0))),zm 8 0,zc 9 72 #[zt 8] #[83] 0] <| .seq (.drw [za 19 (.op3 (.slLoHi 3) (zo 0 (zN (zv 0))) (zv 3) (zo 1 (zN (zv 0)))),zc 20 73 #[zt 19] #[48] 9,zm 2 20]) (qt6)
def qG5:List Nat:=[0,2,3,8,9,19,20]
def qG4:C1 202 21 qG5 qt7 [.tmp 2]:=c1 [] Tryz.func202
noncomputable def qrs:IR:=.reg [za 8 (zI .add (zv 8) (zK 1))]
noncomputable def qrr:IR:=.seq (.block 1 (.reg [za 11 (zM 3 (zx 3 (zv 6) (zv 8))),zA 5 53,zw 53 (zt 5) (zt 11),za 13 (zo 1 (zv 5)),zc 14 89 #[zt 3,zt 13] #[114,9] 127])) (qrs)
noncomputable def qjO:IR:=zq [za 9 (zI .lss (zv 8) (zv 7))] <| .seq (.cond (zv 9) .skip (.exit 0)) (qrr)
noncomputable def qrq:IR:=zq [zc 16 90 #[zt 3] #[114] 9,zm 2 16] <| .ret
noncomputable def qrt:IR:=zq [za 2 (.const (zs #[])),zA 3 114,zm 6 0,za 7 (zL (zv 6)),za 8 (zK 0)] <| .seq (.block 0 (.loop qjO)) (qrq)
def qEQ:List Nat:=zV 17 [1,4,10,12,15]
def qEP:C1 73 17 qEQ qrt [.tmp 2]:=c1 [] Tryz.func73
noncomputable def qvv:Code:=((Tryz.f140.body).getD .skip)
noncomputable def qvu:IR:=zq [za 4 (zI .sub (zL (zo 3 (zN (zv 0)))) (zK 1))] <| .ret
noncomputable def qvx:IR:=zq [zE 3 (.box 44 (zt 1)) 0,za 4 (zK 0)] <| .seq (.raw (qP qvv 1)) (qvu)
def qvw:List Nat:=zV 15 [2]
def qIa:C2 140 21 qvw qvx [.tmp 4]:=c2 [1] Tryz.func140
noncomputable def qvt:OT:=zy 5 (zv 0)<|zy 6 (zv 0)<|zy 7 (zN (zv 6))<|zy 8 (zf 3 (zv 7))<|zy 9 (zl (zv 8))<|zy 10 (zM 6 (zv 3))<| .step (zE 11 (.buildSlice 29 1 #[(0,(zt 10))]) 29) true<| .step (zp 12 #[zt 9,zt 11] #[29,29] 29) true<| .step (za 13 (zN (zv 5))) false<| .step (za 14 (zf 3 (zv 13))) false<| .step (zw 29 (zt 14) (zt 12)) false<| .done
theorem qH9:zj Tryz.prog 21 qvw 8 (qP qvv 1)=some qvt:=by kernel_rfl
noncomputable def qjV:IR:=zq [zm 2 4] <| .ret
noncomputable def qjU:IR:=zq [zm 24 0,zc 25 120 #[zt 24] #[83] 9,zm 4 25,zm 26 0,zc 27 117 #[zt 26,zY #[95]] #[83,9] 4] <| .seq (.cond (zv 27) (.reg [zm 28 4,zm 29 0,zc 30 120 #[zt 29] #[83] 9,za 4 (zS .add (zv 28) (zS .add (.const (zs #[95])) (zv 30)))]) .skip) (qjV)
noncomputable def qr7:IR:=zq [za 2 (.const (zs #[])),zm 5 0,zc 6 142 #[zt 5,zO 0] #[83,3] 53,zA 3 53,zw 53 (zt 3) (zt 6),za 10 (zB .eql (zo 0 (zv 3)) (.const (zu 2))),zg 10 true 12 (zo 1 (zv 3)),zh 10 true 13 75 #[zt 12] #[9] 4,za 14 (.ite (zv 10) (zv 13) (zQ false))] <| .seq (.cond (zv 14) (zq [zm 15 0,za 19 (zI .add (zo 1 (zN (zv 15))) (zK 1)),za 21 (zf 1 (zN (zv 15))),zw 3 (zt 21) (zt 19),za 2 (zo 1 (zv 3))] <| .ret) .skip) (qjU)
def qr6:List Nat:=zV 31 [1,7,8,9,11,16,17,18,20,22,23]
def qFo:C1 327 34 qr6 qr7 [.tmp 2]:=c1 [] Tryz.func327
noncomputable def qr8:IR:=zq [za 2 (.const (.slice none 0 0)),zm 3 0,zm 4 0,zE 5 (.makeFunc (.func 62) #[zt 4] #[]) 96,zc 6 353 #[zt 3,zt 5] #[83,96] 40,zm 2 6] <| .ret
def qFq:List Nat:=zV 7 [1]
def qFp:C1 326 7 qFq qr8 [.tmp 2]:=c1 [] Tryz.func326
noncomputable def qrY:IR:=zq [zm 11 0,zm 12 1,zc 13 364 #[zt 11,zt 12] #[83,96] 40,zm 5 13,zm 14 0,zE 15 (.buildSlice 51 1 #[(0,(zY #[41]))]) 51,zc 16 153 #[zt 14,zt 15] #[83,51] 0,zm 4 5] <| .ret
noncomputable def qrZ:IR:=zq [za 4 (.const (.slice none 0 0)),zm 6 0,zE 7 (.buildSlice 51 1 #[(0,(zY #[40]))]) 51,zc 8 153 #[zt 6,zt 7] #[83,51] 0,zm 9 0,zc 10 117 #[zt 9,zY #[41]] #[83,9] 4] <| .seq (.cond (zv 10) (zq [za 4 (.const (.slice none 0 0))] <| .ret) .skip) (qrY)
def qFj:List Nat:=zV 17 [2,3]
def qFi:C2 353 18 qFj qrZ [.tmp 4]:=c2 [] Tryz.func353
noncomputable def qrW:IR:=.block 1 (.reg [zm 11 5,zm 12 1,zE 13 (.call {callee:=.value (zt 12),args:=#[],argTypes:=#[]}) 3,zE 14 (.buildSlice 40 1 #[(0,(zt 13))]) 40,zp 15 #[zt 11,zt 14] #[40,40] 40,zm 5 15])
noncomputable def qrU:IR:=zq [zm 9 0,zc 10 117 #[zt 9,zY #[44]] #[83,9] 4] <| .seq (.cond (zv 10) .skip (.exit 0)) (qrW)
noncomputable def qrV:IR:=zq [zm 4 5] <| .ret
noncomputable def qrX:IR:=zq [za 4 (.const (.slice none 0 0)),zm 6 1,zE 7 (.call {callee:=.value (zt 6),args:=#[],argTypes:=#[]}) 3,zE 8 (.buildSlice 40 1 #[(0,(zt 7))]) 40,zm 5 8] <| .seq (.block 0 (.loop qrU)) (qrV)
def qFh:List Nat:=zV 16 [2,3]
def qFg:C2 364 17 qFh qrX [.tmp 4]:=c2 [] Tryz.func364
noncomputable def qjY:IR:=zq [zm 15 0,zc 16 326 #[zt 15] #[83] 40,za 17 (zf 5 (zv 3)),zw 40 (zt 17) (zt 16),zm 18 0,za 19 (zM 6 (zv 3)),zc 20 140 #[zt 18,zt 19] #[83,44] 3,zm 2 20] <| .ret
noncomputable def qsB:IR:=zq [za 2 (zK 0),zm 4 0,zc 5 120 #[zt 4] #[83] 9,zE 6 (.build 44 #[(0,(.const (zu 5))),(1,(zt 5))]) 44,zA 3 44,zw 44 (zt 3) (zt 6),zm 7 0,zc 8 117 #[zt 7,zY #[123]] #[83,9] 4] <| .seq (.cond (zv 8) (.reg [zm 9 0,zc 10 202 #[zt 9] #[83] 9,za 11 (zf 3 (zv 3)),zw 9 (zt 11) (zt 10),zm 12 0,zE 13 (.buildSlice 51 1 #[(0,(zY #[125]))]) 51,zc 14 153 #[zt 12,zt 13] #[83,51] 0]) .skip) (qjY)
def qsA:List Nat:=zV 21 [1]
def qFZ:C1 274 21 qsA qsB [.tmp 2]:=c1 [] Tryz.func274
noncomputable def qsx:IR:=zq [za 4 (zK 0),zm 6 1,zm 7 0,zc 8 327 #[zt 7] #[83] 9,zE 9 (.build 44 #[(0,(.const (zu 5))),(2,(zt 6)),(1,(zt 8))]) 44,zA 5 44,zw 44 (zt 5) (zt 9),zm 10 0,zc 11 326 #[zt 10] #[83] 40,za 12 (zf 5 (zv 5)),zw 40 (zt 12) (zt 11),zm 13 0,za 14 (zM 6 (zv 5)),zc 15 140 #[zt 13,zt 14] #[83,44] 3,zm 4 15] <| .ret
def qFU:List Nat:=zV 16 [2,3]
def qFT:C2 277 16 qFU qsx [.tmp 4]:=c2 [] Tryz.func277
noncomputable def qsy:IR:=zq [za 2 (.const (zs #[])),zm 4 0,zc 5 202 #[zt 4] #[83] 9,zm 3 5,zm 6 0,zE 7 (.buildSlice 51 1 #[(0,(zY #[36]))]) 51,zc 8 153 #[zt 6,zt 7] #[83,51] 0,zm 2 3] <| .ret
def qFW:List Nat:=zV 9 [1]
def qFV:C1 276 10 qFW qsy [.tmp 2]:=c1 [] Tryz.func276
noncomputable def qsz:IR:=.reg [za 2 (zl (zv 0)),zc 3 276 #[zt 2] #[83] 9,zw 9 (zt 1) (zt 3)]
def qFY:List Nat:=zV 4 []
def qFX:C2 275 4 qFY qsz []:=c2 [] Tryz.func275
noncomputable def qvy:IR:=.block 1 (.block 2 (zq [zm 17 0,zc 18 117 #[zt 17,zY #[91]] #[83,9] 4,zm 16 18] <| .cond (zv 16) (.reg [zm 19 0,zc 20 62 #[zt 19] #[83] 3,zm 7 20,zm 21 0,zE 22 (.buildSlice 51 1 #[(0,(zY #[93]))]) 51,zc 23 153 #[zt 21,zt 22] #[83,51] 0,zm 24 0,zm 25 4,zm 26 7,zE 27 (.buildSlice 40 2 #[(0,(zt 25)),(1,(zt 26))]) 40,zE 28 (.build 44 #[(0,(.const (zu 7))),(5,(zt 27))]) 44,zc 29 140 #[zt 24,zt 28] #[83,44] 3,zm 4 29,za 6 (zK 2)]) (zq [zm 31 0,zc 32 117 #[zt 31,zY #[46]] #[83,9] 4,zm 30 32] <| .cond (zv 30) (.reg [zm 33 0,zm 34 0,zc 35 120 #[zt 34] #[83] 9,zm 36 4,zE 37 (.buildSlice 40 1 #[(0,(zt 36))]) 40,zE 38 (.build 44 #[(0,(.const (zu 8))),(1,(zt 35)),(5,(zt 37))]) 44,zc 39 140 #[zt 33,zt 38] #[83,44] 3,zm 4 39,za 6 (zK 3)]) (zq [zm 14 4,zm 15 6,zm 2 14,zm 3 15] <| .ret))))
noncomputable def qkX:IR:=.block 0 (.loop qvy)
noncomputable def qvA:IR:=zq [za 2 (zK 0),za 3 (zK 0),zm 9 0,zc 10 217 #[zt 9] #[83] 236,zm 8 10,za 11 (ze 0 (zv 8)),za 12 (ze 1 (zv 8)),zm 4 11,zm 5 12,za 6 (zK 0),zm 13 5] <| .seq (.cond (zv 13) (.reg [za 6 (zK 1)]) .skip) (qkX)
def qvz:List Nat:=zV 40 [1]
def qIb:C1 139 40 qvz qvA [.tmp 2,.tmp 3]:=c1 [] Tryz.func139
noncomputable def qrC:IR:=zq [zm 32 0,zc 33 142 #[zt 32,zO 0] #[83,3] 53,za 7 (.op1 (.fld 1) (zv 33)),zm 35 0,za 39 (zI .add (zo 1 (zN (zv 35))) (zK 1)),za 41 (zf 1 (zN (zv 35))),zw 3 (zt 41) (zt 39),zm 43 0,zc 44 139 #[zt 43] #[83] 169,zm 42 44,za 45 (ze 0 (zv 42)),za 46 (ze 1 (zv 42)),zm 8 45,zm 9 46,zm 47 0,zm 48 7,zm 49 5,zm 50 8,zE 51 (.buildSlice 40 2 #[(0,(zt 49)),(1,(zt 50))]) 40,zE 52 (.build 44 #[(0,(.const (zu 6))),(1,(zt 48)),(5,(zt 51))]) 44,zc 53 140 #[zt 47,zt 52] #[83,44] 3,zm 2 53] <| .ret
noncomputable def qrB:IR:=zq [zm 23 0,zc 24 139 #[zt 23] #[83] 169,zm 22 24,za 25 (ze 0 (zv 22)),za 26 (ze 1 (zv 22)),zm 5 25,zm 6 26,zm 27 0,zE 28 (.buildSlice 51 10 #[(0,(zY #[43])),(1,(zY #[45])),(2,(zY #[42])),(3,(zY #[47])),(4,(zY #[109,111,100])),(5,(zY #[60])),(6,(zY #[60,61])),(7,(zY #[61])),(8,(zY #[97,110,100])),(9,(zY #[111,114]))]) 51,zc 29 141 #[zt 27,zt 28] #[83,51] 4,za 30 (zn (zv 29))] <| .seq (.cond (zv 30) (zq [zm 2 5] <| .ret) .skip) (qrC)
noncomputable def qrD:IR:=zq [za 2 (zK 0),zm 10 0,zc 11 117 #[zt 10,zY #[110,111,116]] #[83,9] 4] <| .seq (.cond (zv 11) (zq [zm 13 0,zc 14 139 #[zt 13] #[83] 169,zm 12 14,za 15 (ze 0 (zv 12)),za 16 (ze 1 (zv 12)),zm 3 15,zm 4 16,zm 17 0,zm 18 3,zE 19 (.buildSlice 40 1 #[(0,(zt 18))]) 40,zE 20 (.build 44 #[(0,(.const (zu 6))),(1,(zY #[110,111,116])),(5,(zt 19))]) 44,zc 21 140 #[zt 17,zt 20] #[83,44] 3,zm 2 21] <| .ret) .skip) (qrB)
def qE4:List Nat:=zV 54 [1,31,34,36,37,38,40]
def qE3:C1 62 54 qE4 qrD [.tmp 2]:=c1 [] Tryz.func62
end Go.L02
namespace Go.L01
open Go Go.Eng Go.Proofs
set_option maxRecDepth 100000
set_option maxHeartbeats 2000000
noncomputable def qf3:IR:=zq [za 2 (zQ false),za 11 (.ite (zI .gtr (zT (zv 0)) (zK 0)) (zI .leq (zT (zv 0)) (zK 12)) (zQ false)),zg 11 true 13 (.op2 .ixs (zv 0) (zK 0)),zh 11 true 14 162 #[zt 13] #[188] 4,za 16 (.ite (zv 11) (zv 14) (zQ false)),zg 16 true 17 (zv 0),zh 16 true 18 163 #[zt 17,(.func 164)] #[9,190] 3,za 21 (.ite (zv 16) (zI .lss (zv 18) (zK 0)) (zQ false)),zg 21 true 22 (zv 0),zh 21 true 23 166 #[zt 22] #[9] 4,za 2 (.ite (zv 21) (zn (zv 23)) (zQ false))] <| .ret
def qEK:List Nat:=[0,2,11,13,14,16,17,18,21,22,23]
def qEJ:C1 77 26 qEK qf3 [.tmp 2]:=c1 [] Tryz.func77
noncomputable def qf2:IR:=zq [za 2 (zQ false),za 11 (.ite (zI .gtr (zT (zv 0)) (zK 0)) (zI .leq (zT (zv 0)) (zK 12)) (zQ false)),zg 11 true 13 (.op2 .ixs (zv 0) (zK 0)),zh 11 true 14 167 #[zt 13] #[5] 4,za 16 (.ite (zv 11) (zv 14) (zQ false)),zg 16 true 17 (zv 0),zh 16 true 18 168 #[zt 17] #[9] 3,za 23 (.ite (zv 16) (zI .eql (zv 18) (zT (zv 0))) (zQ false)),zg 23 true 24 (zv 0),zh 23 true 25 169 #[zt 24] #[9] 4,za 2 (.ite (zv 23) (zn (zv 25)) (zQ false))] <| .ret
def qEG:List Nat:=[0,2,11,13,14,16,17,18,23,24,25]
def qEF:C1 79 28 qEG qf2 [.tmp 2]:=c1 [] Tryz.func79
noncomputable def quJ:IR:=zq [za 2 (zQ false),zc 3 233 #[] #[] 144,zm 4 0,zE 5 (.lookup 144 (zt 3) (zt 4) false) 4,zm 2 5] <| .ret
def qHs:List Nat:=zV 6 [1]
def qHr:C1 166 6 qHs quJ [.tmp 2]:=c1 [] Tryz.func166
noncomputable def quG:IR:=zq [za 2 (zQ false),zc 3 236 #[] #[] 51,zm 4 0,zc 5 235 #[zt 3,zt 4] #[51,9] 4,zm 2 5] <| .ret
def qHm:List Nat:=zV 6 [1]
def qHl:C1 169 6 qHm quG [.tmp 2]:=c1 [] Tryz.func169
noncomputable def qst:IR:=zq [za 0 (.const (.slice none 0 0)),zc 1 332 #[zY #[97,110,100,32,97,114,114,97,121,32,98,101,103,105,110,32,98,111,111,108,32,98,114,101,97,107,32,99,108,117,115,116,101,114,32,100,111,32,100,111,119,110,32,101,108,115,101,32,101,108,115,101,105,102,32,101,110,100,32,101,120,99,101,112,116,32,102,97,108,115,101,32,102,111,114,32,104,97,115,32,105,102,32,105,110,32,105,110,116,32,105,115,32,105,116,101,114,32,109,111,100,32,110,105,108,32,110,111,116,32,110,117,108,108,32,111,110,101,111,102,32,111,114,32,111,116,104,101,114,115,32,112,114,111,99,32,112,117,116,32,114,101,99,111,114,100,32,114,101,112,32,114,101,116,117,114,110,32,114,101,116,117,114,110,115,32,115,105,103,110,97,108,32,115,105,103,110,97,108,115,32,116,97,103,32,116,97,103,99,97,115,101,32,116,104,101,110,32,116,114,117,101,32,117,112,32,118,97,114,32,119,104,101,110,32,119,104,101,114,101,32,119,104,105,108,101,32,121,105,101,108,100,32,121,105,101,108,100,115]] #[9] 51,zm 0 1] <| .ret
def qFM:List Nat:=[0,1]
def qFL:C0 286 2 qFM qst [.tmp 0]:=c0 [] Tryz.func286
noncomputable def qtj:IR:=zq [za 0 (.const (.slice none 0 0)),zE 1 (.buildSlice 51 46 #[(0,(zY #[97,110,100])),(1,(zY #[97,114,114,97,121])),(2,(zY #[98,101,103,105,110])),(3,(zY #[98,111,111,108])),(4,(zY #[98,114,101,97,107])),(5,(zY #[99,108,117,115,116,101,114])),(6,(zY #[100,111])),(7,(zY #[100,111,119,110])),(8,(zY #[101,108,115,101])),(9,(zY #[101,108,115,101,105,102])),(10,(zY #[101,110,100])),(11,(zY #[101,120,99,101,112,116])),(12,(zY #[102,97,108,115,101])),(13,(zY #[102,111,114])),(14,(zY #[104,97,115])),(15,(zY #[105,102])),(16,(zY #[105,110])),(17,(zY #[105,110,116])),(18,(zY #[105,115])),(19,(zY #[105,116,101,114])),(20,(zY #[109,111,100])),(21,(zY #[110,105,108])),(22,(zY #[110,111,116])),(23,(zY #[110,117,108,108])),(24,(zY #[111,110,101,111,102])),(25,(zY #[111,114])),(26,(zY #[111,116,104,101,114,115])),(27,(zY #[112,114,111,99])),(28,(zY #[112,117,116])),(29,(zY #[114,101,99,111,114,100])),(30,(zY #[114,101,112])),(31,(zY #[114,101,116,117,114,110])),(32,(zY #[114,101,116,117,114,110,115])),(33,(zY #[115,105,103,110,97,108])),(34,(zY #[115,105,103,110,97,108,115])),(35,(zY #[116,97,103])),(36,(zY #[116,97,103,99,97,115,101])),(37,(zY #[116,104,101,110])),(38,(zY #[116,114,117,101])),(39,(zY #[117,112])),(40,(zY #[118,97,114])),(41,(zY #[119,104,101,110])),(42,(zY #[119,104,101,114,101])),(43,(zY #[119,104,105,108,101])),(44,(zY #[121,105,101,108,100])),(45,(zY #[121,105,101,108,100,115]))]) 51,zm 0 1] <| .ret
def qGt:List Nat:=[0,1]
def qGs:C0 236 2 qGt qtj [.tmp 0]:=c0 [] Tryz.func236
noncomputable def qr9:IR:=zq [za 0 (.const (.slice none 0 0)),zc 2 332 #[zY #[36,32,40,32,41,32,42,32,43,32,44,32,45,32,46,32,47,32,58,32,58,61,32,59,32,60,32,60,61,32,61,32,63,32,91,32,93,32,95,32,123,32,125]] #[9] 51,zm 1 2,zm 3 1,zc 4 195 #[zt 3] #[51] 0,zm 0 1] <| .ret
def qFs:List Nat:=zV 5 []
def qFr:C0 310 6 qFs qr9 [.tmp 0]:=c0 [] Tryz.func310
noncomputable def qsV:IR:=zq [za 0 (.const (.slice none 0 0)),zE 1 (.buildSlice 51 21 #[(0,(zY #[36])),(1,(zY #[40])),(2,(zY #[41])),(3,(zY #[42])),(4,(zY #[43])),(5,(zY #[44])),(6,(zY #[45])),(7,(zY #[46])),(8,(zY #[47])),(9,(zY #[58])),(10,(zY #[58,61])),(11,(zY #[59])),(12,(zY #[60])),(13,(zY #[60,61])),(14,(zY #[61])),(15,(zY #[63])),(16,(zY #[91])),(17,(zY #[93])),(18,(zY #[95])),(19,(zY #[123])),(20,(zY #[125]))]) 51,zm 0 1] <| .ret
def qGc:List Nat:=[0,1]
def qGb:C0 246 2 qGc qsV [.tmp 0]:=c0 [] Tryz.func246
noncomputable def qrM:Code:=((Tryz.f53.body).getD .skip)
noncomputable def qrL:IR:=.ret
noncomputable def qrO:IR:=zq [za 2 (.const (.slice none 0 0)),zA 3 26,zm 8 0,zc 9 115 #[zt 8] #[9] 122,zm 7 9,za 10 (ze 0 (zv 7)),za 11 (ze 1 (zv 7)),za 12 (ze 2 (zv 7)),zA 6 26,zm 4 10,zm 5 11,zw 26 (zt 6) (zt 12)] <| .seq (.raw (qP qrM 2)) (qrL)
def qrN:List Nat:=zV 15 [1]
def qFd:C1 53 15 qrN qrO [.tmp 2,.cellN 3 2]:=c1 [2] Tryz.func53
noncomputable def qrK:OT:=zy 13 (zv 4)<|zy 14 (zM 2 (zv 6))<|zy 2 (zv 13)<| .step (zw 26 (zt 3) (zt 14)) false<| .done
theorem qFc:zj Tryz.prog 15 qrN 3 (qP qrM 2)=some qrK:=by kernel_rfl
noncomputable def qr3:Code:=((Tryz.f33.body).getD .skip)
noncomputable def qr2:IR:=.ret
noncomputable def qr5:IR:=zq [za 2 (.const (.slice none 0 0)),zA 3 26,zm 8 0,zc 9 87 #[zt 8] #[9] 122,zm 7 9,za 10 (ze 0 (zv 7)),za 11 (ze 1 (zv 7)),za 12 (ze 2 (zv 7)),zA 6 26,zm 4 10,zm 5 11,zw 26 (zt 6) (zt 12)] <| .seq (.raw (qP qr3 2)) (qr2)
def qr4:List Nat:=zV 15 [1]
def qFn:C1 33 15 qr4 qr5 [.tmp 2,.cellN 3 2]:=c1 [2] Tryz.func33
noncomputable def qr1:OT:=zy 13 (zv 4)<|zy 14 (zM 2 (zv 6))<|zy 2 (zv 13)<| .step (zw 26 (zt 3) (zt 14)) false<| .done
theorem qFm:zj Tryz.prog 15 qr4 3 (qP qr3 2)=some qr1:=by kernel_rfl
noncomputable def quN:IR:=zq [za 2 (zQ false),za 2 (.ite (zB .geq (zv 0) (.const (zu 97))) (zB .leq (zv 0) (.const (zu 122))) (zQ false))] <| .ret
def qHz:List Nat:=[0,2]
def qHy:C1 162 9 qHz quN [.tmp 2]:=c1 [] Tryz.func162
noncomputable def quM:IR:=zq [za 4 (zK 0),zm 5 0,zm 6 1,zc 7 231 #[zt 5,zt 6,(.const (zb true))] #[9,190,4] 3,zm 4 7] <| .ret
def qHx:List Nat:=zV 8 [2,3]
def qHw:C2 163 8 qHx quM [.tmp 4]:=c2 [] Tryz.func163
noncomputable def qgr:IR:=zq [za 2 (zQ false),za 5 (.op2 (.ibin .gtr .i32) (zv 0) (.const (.int .i32 126))),zg 5 false 7 (.op1 (.conv .u8) (zv 0)),zh 5 false 8 165 #[zt 7] #[188] 4,za 2 (.ite (zv 5) (zQ true) (zn (zv 8)))] <| .ret
def qHv:List Nat:=[0,2,5,7,8]
def quL:C1 164 11 qHv qgr [.tmp 2]:=c1 [] Tryz.func164
noncomputable def quK:IR:=zq [za 2 (zQ false),zm 3 0,zc 4 162 #[zt 3] #[188] 4,zm 5 4,zg 5 false 6 (zv 0),zh 5 false 7 232 #[zt 6] #[188] 4,za 2 (.ite (zv 5) (zQ true) (zv 7))] <| .ret
def qHu:List Nat:=zV 8 [1]
def qHt:C1 165 9 qHu quK [.tmp 2]:=c1 [] Tryz.func165
noncomputable def quI:IR:=zq [za 2 (zQ false),za 2 (.ite (zB .geq (zv 0) (.const (zu 97))) (zB .leq (zv 0) (.const (zu 122))) (zQ false))] <| .ret
def qHq:List Nat:=[0,2]
def qHp:C1 167 9 qHq quI [.tmp 2]:=c1 [] Tryz.func167
noncomputable def qkI:IR:=.block 1 (.reg [za 3 (zI .add (zv 3) (zK 1))])
noncomputable def qkG:IR:=zq [za 8 (zI .lss (zv 3) (zT (zv 0))),zg 8 true 11 (.op2 .ixs (zv 0) (zv 3)),zh 8 true 12 167 #[zt 11] #[5] 4,zg 8 true 13 (zv 12),zg 13 false 16 (.op2 .ixs (zv 0) (zv 3)),zh 13 false 17 234 #[zt 16] #[5] 4,za 19 (.ite (zv 8) (.ite (zv 13) (zQ true) (zv 17)) (zQ false))] <| .seq (.cond (zv 19) .skip (.exit 0)) (qkI)
noncomputable def qkH:IR:=zq [zm 2 3] <| .ret
noncomputable def quH:IR:=zq [za 2 (zK 0),za 3 (zK 0)] <| .seq (.block 0 (.loop qkG)) (qkH)
def qHo:List Nat:=[0,2,3,8,11,12,13,16,17,19]
def qHn:C1 168 23 qHo quH [.tmp 2]:=c1 [] Tryz.func168
noncomputable def qtr:IR:=.reg [za 7 (zI .add (zv 7) (zK 1))]
noncomputable def qtq:IR:=.seq (.block 1 (.reg [za 3 (zl (zx 1 (zv 5) (zv 7))),zm 11 1,zm 12 3,.eff none none (.mapUpdate 144 (zt 11) (zt 12) (.const (zb true))) 0])) (qtr)
noncomputable def qkl:IR:=zq [za 8 (zI .lss (zv 7) (zv 6))] <| .seq (.cond (zv 8) .skip (.exit 0)) (qtq)
noncomputable def qtp:IR:=zq [zm 0 1] <| .ret
noncomputable def qts:IR:=zq [za 0 (.const (.map none)),zE 4 (.makeMap 144 none) 144,zm 1 4,zc 5 286 #[] #[] 51,za 6 (zL (zv 5)),za 7 (zK 0)] <| .seq (.block 0 (.loop qkl)) (qtp)
def qGz:List Nat:=zV 13 [2,9,10]
def qGy:C0 233 15 qGz qts [.tmp 0]:=c0 [] Tryz.func233
noncomputable def qtm:IR:=.reg [za 5 (zI .add (zv 5) (zK 1))]
noncomputable def qtl:IR:=.seq (.block 1 (zq [za 17 (zS .eql (zl (zx 1 (zv 0) (zv 5))) (zv 1))] <| .cond (zv 17) (zq [za 4 (zQ true)] <| .ret) .skip)) (qtm)
noncomputable def qkk:IR:=zq [za 9 (zI .lss (zv 5) (zL (zv 0)))] <| .seq (.cond (zv 9) .skip (.exit 0)) (qtl)
noncomputable def qtk:IR:=zq [za 4 (zQ false)] <| .ret
noncomputable def qtn:IR:=zq [za 4 (zQ false),za 5 (zK 0)] <| .seq (.block 0 (.loop qkk)) (qtk)
def qGv:List Nat:=[0,1,4,5,9,17]
def qGu:C2 235 18 qGv qtn [.tmp 4]:=c2 [] Tryz.func235
noncomputable def qk1:Code:=((Tryz.f115.body).getD .skip)
noncomputable def qd1:Code:=(qe9 qk1).getD 0 .skip
noncomputable def qvR:IR:=.ret
noncomputable def qgz:IR:=.seq (.raw (qP qk1 8)) (qvR)
noncomputable def qvQ:IR:=zq [zE 11 (.makeFunc (.func 200) #[] #[zt 2,zt 3,zt 4]) 1,.eff none none (.defer {callee:=.value (zt 11),args:=#[],argTypes:=#[]}) 0,zm 12 0,zE 13 (.build 215 #[(0,(zt 12)),(2,(zO 1))]) 215,zE 14 (.build 217 #[(0,(zt 13))]) 217,zE 15 (.box 217 (zt 14)) 213,zm 5 15,zm 16 5,zE 17 (.makeFunc (.func 201) #[zt 16] #[]) 218] <| .seq (.block 0 (.raw qd1)) (qgz)
noncomputable def qk2:IR:=zq [zA 2 48,zA 3 51,zA 4 26,za 9 (zI .gtr (zT (zv 0)) (zK 20000))] <| .seq (.cond (zv 9) (zq [zE 10 (.build 26 #[(0,(zO 2))]) 26,zw 48 (zt 2) (.const (.slice none 0 0)),zw 51 (zt 3) (.const (.slice none 0 0)),zw 26 (zt 4) (zt 10)] <| .ret) .skip) (qvQ)
def Q6:List Nat:=zV 29 [1,7,8]
noncomputable def qvT:IR:=.reg [zA 6 53,zw 53 (zt 6) (zt 18)]
noncomputable def qvS:IR:=.block 1 (.reg [za 19 (zl (zv 2)),za 20 (zM 3 (zv 6)),zE 21 (.buildSlice 48 1 #[(0,(zt 20))]) 48,zp 22 #[zt 19,zt 21] #[48,48] 48,zw 48 (zt 2) (zt 22)])
def qIp:∃A B,qd1=.rangeFunc (.tmp 17) #[18] A B/\Part Tryz.prog 29 Q6 A qvT/\Part Tryz.prog 29 Q6 B qvS:=
 ⟨rfA qd1,rfB qd1,by kernel_rfl,⟨by kernel_rfl,by kernel_rfl⟩,⟨by kernel_rfl,by kernel_rfl⟩⟩
theorem qIq:(jo Tryz.prog Tryz.f115.ntmps Q6 [8] (Tryz.f115.body.getD .skip)).map IR.norm=some qk2:=by kernel_rfl
def qIs {v0:Value} {w:World} {R:Ending->World->Prop} (h:∀ρ:qa,ρ 0=v0->ρ gS=.tuple #[]->qk2.wp ⟨Tryz.prog,29,Q6,y6⟩ (vz Tryz.prog [.cell1 2,.cell1 3,.cellN 4 2] R .returning) (xj Tryz.prog [.cell1 2,.cell1 3,.cellN 4 2] R) ρ w):
  Calls Tryz.prog 115 #[v0] w R:=by
 obtain ⟨a,b,e⟩:=ua.1 qIq;exact qwZ (args:=#[v0]) Tryz.func115 (c:=(Tryz.f115.body.getD .skip)) rfl b e (by kernel_rfl) (show zX Tryz.prog Q6 Tryz.f115.results.toList=some [.cell1 2,.cell1 3,.cellN 4 2] by kernel_rfl) (uV rfl) (h _ rfl rfl)
noncomputable def qk0:OT:=zy 23 (zl (zv 2))<|zy 24 (zv 5)<|zy 25 (zN (zv 24))<|zy 26 (zf 3 (zv 25))<|zy 27 (zl (zv 26))<| .both (.step (zE 28 (.build 26 #[]) 26) true<| .step (zw 48 (zt 2) (zt 23)) true<| .step (zw 51 (zt 3) (zt 27)) true<| .step (zw 26 (zt 4) (zt 28)) false<| .done)<| .step (zw 48 (zt 2) (zt 23)) true<| .both (.step (zE 28 (.build 26 #[]) 26) true<| .step (zw 51 (zt 3) (zt 27)) true<| .step (zw 26 (zt 4) (zt 28)) false<| .done)<| .step (zw 51 (zt 3) (zt 27)) true<| .step (zE 28 (.build 26 #[]) 26) true<| .step (zw 26 (zt 4) (zt 28)) false<| .done
theorem qIr:zj Tryz.prog 29 Q6 8 (qP qk1 8)=some qk0:=by kernel_rfl
noncomputable def qqQ:IR:=.reg [zm 37 5,zm 38 10,za 44 (.op3 .stLoHi (zv 0) (zv 8) (zI .add (zv 8) (zv 11))),zm 45 7,zE 46 (.build 53 #[(0,(zt 38)),(1,(zt 44)),(2,(zt 45))]) 53,zE 47 (.buildSlice 48 1 #[(0,(zt 46))]) 48,zp 48 #[zt 37,zt 47] #[48,48] 48,zm 5 48,za 8 (zI .add (zv 8) (zv 11))]
noncomputable def qdT:IR:=.cond (zv 58) (.reg [za 8 (zI .add (zv 8) (zK 1))]) (zq [za 63 (zB .eql (zv 23) (.const (zu 37)))] <| .cond (zv 63) (.reg [za 67 (.op2 .stLo (zv 0) (zv 8)),zc 68 175 #[zt 67] #[9] 3,zm 9 68,zm 69 6,za 75 (.op3 .stLoHi (zv 0) (zv 8) (zI .add (zv 8) (zv 9))),zE 76 (.buildSlice 51 1 #[(0,(zt 75))]) 51,zp 77 #[zt 69,zt 76] #[51,51] 51,zm 6 77,za 8 (zI .add (zv 8) (zv 9))]) (zq [za 27 (.op2 .stLo (zv 0) (zv 8)),zc 28 176 #[zt 27] #[9] 194,zm 24 28,za 29 (ze 0 (zv 24)),za 30 (ze 1 (zv 24)),za 31 (ze 2 (zv 24)),zm 10 29,zm 11 30,zm 12 31,za 33 (zI .neq (zv 12) (zK 0))] <| .seq (.cond (zv 33) (zq [zm 34 12,zm 35 7,zE 36 (.build 26 #[(0,(zt 34)),(1,(zt 35))]) 26,za 2 (.const (.slice none 0 0)),za 3 (.const (.slice none 0 0)),zw 26 (zt 4) (zt 36)] <| .ret) .skip) (qqQ)))
noncomputable def qqP:IR:=.block 1 (zq [za 23 (.op2 .ixs (zv 0) (zv 8))] <| .block 2 (zq [za 52 (zB .eql (zv 23) (.const (zu 10)))] <| .cond (zv 52) (.reg [za 7 (zI .add (zv 7) (zK 1)),za 8 (zI .add (zv 8) (zK 1))]) (zq [za 58 (zB .eql (zv 23) (.const (zu 32)))] <| .seq (.cond (zv 58) .skip (.reg [za 58 (zB .eql (zv 23) (.const (zu 9)))])) (qdT))))
noncomputable def qjB:IR:=zq [za 20 (zI .lss (zv 8) (zT (zv 0)))] <| .seq (.cond (zv 20) .skip (.exit 0)) (qqP)
noncomputable def qqO:IR:=zq [zm 81 5,zm 82 6,zE 83 (.build 26 #[]) 26,zm 2 81,zm 3 82,zw 26 (zt 4) (zt 83)] <| .ret
noncomputable def qqN:IR:=zq [za 5 (.const (.slice none 0 0)),za 6 (.const (.slice none 0 0)),za 7 (zK 1),za 8 (zK 0)] <| .seq (.block 0 (.loop qjB)) (qqO)
noncomputable def qqR:IR:=zq [za 2 (.const (.slice none 0 0)),za 3 (.const (.slice none 0 0)),zA 4 26,za 15 (zI .gtr (zT (zv 0)) (zK 20000))] <| .seq (.cond (zv 15) (zq [zE 16 (.build 26 #[(0,(zO 2))]) 26,za 2 (.const (.slice none 0 0)),za 3 (.const (.slice none 0 0)),zw 26 (zt 4) (zt 16)] <| .ret) .skip) (qqN)
def qEx:List Nat:=zV 84 [1,13,14,17,18,19,21,22,25,26,32,39,40,41,42,43,49,50,51,53,54,55,56,57,59,60,61,62,64,65,66,70,71,72,73,74,78,79,80]
def qEw:C1 87 84 qEx qqR [.tmp 2,.tmp 3,.cellN 4 2]:=c1 [] Tryz.func87
noncomputable def qtw:IR:=.block 1 (zq [za 13 (ze 1 (zv 11)),za 14 (ze 2 (zv 11)),zm 7 13,zm 8 14,zm 15 1,zm 16 8,zE 17 (.call {callee:=.value (zt 15),args:=#[zt 16],argTypes:=#[21]}) 4,za 19 (.op2 (.bbin .eql) (zv 17) (zv 2))] <| .cond (zv 19) (zq [zm 6 7] <| .ret) .skip)
noncomputable def qtu:IR:=zq [zE 11 (.next (zt 10) true) 0,za 12 (ze 0 (zv 11))] <| .seq (.cond (zv 12) .skip (.exit 0)) (qtw)
noncomputable def qtv:IR:=zq [za 6 (.const (.int .i64 (-1)))] <| .ret
noncomputable def qtx:IR:=zq [za 6 (zK 0),zm 9 0,zE 10 (.range 9 (zt 9)) 0] <| .seq (.block 0 (.loop qtu)) (qtv)
def qGD:List Nat:=zV 20 [3,4,5,18]
def qGC:C3 231 21 qGD qtx [.tmp 6]:=c3 [] Tryz.func231
noncomputable def qtt:IR:=zq [za 2 (zQ false),za 2 (.ite (zB .geq (zv 0) (.const (zu 48))) (zB .leq (zv 0) (.const (zu 57))) (zQ false))] <| .ret
def qGB:List Nat:=[0,2]
def qGA:C1 232 9 qGB qtt [.tmp 2]:=c1 [] Tryz.func232
noncomputable def qto:IR:=zq [za 2 (zQ false),za 2 (.ite (zB .geq (zv 0) (.const (zu 48))) (zB .leq (zv 0) (.const (zu 57))) (zQ false))] <| .ret
def qGx:List Nat:=[0,2]
def qGw:C1 234 9 qGx qto [.tmp 2]:=c1 [] Tryz.func234
noncomputable def qt9:IR:=.reg [zm 18 0,zc 19 266 #[zt 18] #[213] 0]
noncomputable def qt8:IR:=.seq (.block 1 (zq [zm 20 1,zm 21 0,zc 22 267 #[zt 21] #[213] 53,zE 23 (.call {callee:=.value (zt 20),args:=#[zt 22],argTypes:=#[53]}) 4,za 24 (zn (zv 23))] <| .cond (zv 24) (.ret) .skip)) (qt9)
noncomputable def qku:IR:=.seq (.cond (zv 17) .skip (.exit 0)) (qt8)
noncomputable def qkt:IR:=.seq (.drw [za 17 (zI .lss (zo 1 (zf 0 (zN (zv 0)))) (zT (zo 0 (zf 0 (zN (zv 0))))))]) (qku)
noncomputable def qua:IR:=zq [zm 4 0,zc 5 266 #[zt 4] #[213] 0] <| .block 0 (.loop qkt)
def qG7:List Nat:=[0,1,4,5,17,18,19,20,21,22,23,24]
def qG6:C2 201 25 qG7 qua []:=c2 [] Tryz.func201
noncomputable def quq:IR:=.block 1 (.reg [za 3 (zI .add (zv 3) (zK 1))])
noncomputable def qkA:IR:=zq [za 13 (.ite (zI .lss (zv 3) (zT (zv 0))) (zB .neq (.op2 .ixs (zv 0) (zv 3)) (.const (zu 10))) (zQ false))] <| .seq (.cond (zv 13) .skip (.exit 0)) (quq)
noncomputable def qkB:IR:=zq [zm 2 3] <| .ret
noncomputable def qur:IR:=zq [za 2 (zK 0),za 3 (zK 0)] <| .seq (.block 0 (.loop qkA)) (qkB)
def qHe:List Nat:=[0,2,3,13]
def qHd:C1 175 17 qHe qur [.tmp 2]:=c1 [] Tryz.func175
noncomputable def qgo:Code:=((Tryz.f176.body).getD .skip)
noncomputable def qun:IR:=zq [zm 21 6,za 2 (.const (zu 1)),zm 3 21,za 4 (zK 0)] <| .ret
noncomputable def qkz:IR:=zq [za 20 (zI .gtr (zv 6) (zK 12))] <| .seq (.cond (zv 20) (zq [za 2 (.const (zu 0)),za 3 (zK 0),za 4 (zK 12)] <| .ret) .skip) (qun)
noncomputable def qum:IR:=zq [zm 31 7,za 2 (.const (zu 3)),zm 3 31,za 4 (zK 0)] <| .ret
noncomputable def qul:IR:=zq [za 2 (.const (zu 0)),za 3 (zK 0),za 4 (zK 10)] <| .ret
noncomputable def qky:IR:=.seq (.cond (zv 44) (zq [za 2 (.const (zu 4)),za 3 (zK 1),za 4 (zK 0)] <| .ret) .skip) (qul)
noncomputable def qkx:IR:=.seq (.raw (qP qgo 16)) (qky)
noncomputable def qgn:IR:=.seq (.cond (zv 40) (zq [za 2 (.const (zu 4)),za 3 (zK 2),za 4 (zK 0)] <| .ret) .skip) (qkx)
noncomputable def quk:IR:=.seq (.raw (qP qgo 14)) (qgn)
noncomputable def quj:IR:=zq [zm 22 5,zc 23 234 #[zt 22] #[5] 4] <| .seq (.cond (zv 23) (zq [zm 24 0,zc 25 244 #[zt 24] #[9] 3,zm 7 25,za 28 (.op3 .stLoHi (zv 0) (zK 0) (zv 7)),zc 29 245 #[zt 28] #[9] 4,za 30 (zn (zv 29))] <| .seq (.cond (zv 30) (zq [za 2 (.const (zu 0)),za 3 (zK 0),za 4 (zK 11)] <| .ret) .skip) (qum)) .skip) (quk)
noncomputable def qup:IR:=zq [za 2 (.const (zu 0)),za 3 (zK 0),za 4 (zK 0),za 5 (.op2 .ixs (zv 0) (zK 0)),zm 10 5,zc 11 167 #[zt 10] #[5] 4] <| .seq (.cond (zv 11) (zq [zm 12 0,zc 13 168 #[zt 12] #[9] 3,zm 6 13,za 16 (.op3 .stLoHi (zv 0) (zK 0) (zv 6)),zc 17 169 #[zt 16] #[9] 4] <| .seq (.cond (zv 17) (zq [zm 18 6,za 2 (.const (zu 2)),zm 3 18,za 4 (zK 0)] <| .ret) .skip) (qkz)) .skip) (quj)
def qgp:List Nat:=zV 45 [1,8,9,14,15,19,26,27]
def qHc:C1 176 45 qgp qup [.tmp 2,.tmp 3,.tmp 4]:=c1 [16,14] Tryz.func176
noncomputable def qkw:OT:=zy 32 (zv 0)<|zy 33 (zT (zv 32))<|zy 34 (zI .gtr (zv 33) (zK 1))<|zy 35 (zv 34)<| .take (some (35,true)) 37 (zv 0)<| .take (some (35,true)) 38 (.op3 .stLoHi (zv 37) (zK 0) (zK 2))<| .step (zh 35 true 36 246 #[] #[] 51) true<| .step (zh 35 true 39 235 #[zt 36,zt 38] #[51,9] 4) false<| .step (za 40 (.ite (zv 35) (zv 39) (zQ false))) false<| .done
theorem qHb:zj Tryz.prog 45 qgp 7 (qP qgo 14)=some qkw:=by kernel_rfl
noncomputable def qui:OT:=zy 42 (zv 0)<|zy 43 (.op3 .stLoHi (zv 42) (zK 0) (zK 1))<| .step (zc 41 246 #[] #[] 51) true<| .step (zc 44 235 #[zt 41,zt 43] #[51,9] 4) false<| .done
theorem qHa:zj Tryz.prog 45 qgp 3 (qP qgo 16)=some qui:=by kernel_rfl
noncomputable def qsa:IR:=zq [za 2 (zQ false),zm 6 0,zc 7 273 #[zt 6] #[9] 127,zm 5 7,za 8 (ze 0 (zv 5)),za 9 (ze 1 (zv 5)),zm 3 8,zm 4 9,zm 10 4,zE 11 (.binOp .eql 126 (zt 10) (.const .nilIface) 126) 4,za 20 (.ite (.ite (zv 11) (zI .geq (zv 3) (zK 0)) (zQ false)) (zI .leq (zv 3) (zK 1000000000)) (zQ false)),zg 20 true 21 (zv 3),zh 20 true 22 171 #[zt 21] #[3] 9,za 2 (.ite (zv 20) (zS .eql (zv 22) (zv 0)) (zQ false))] <| .ret
def qFu:List Nat:=zV 23 [1,12,13,14,15,16,17,18,19]
def qFt:C1 309 26 qFu qsa [.tmp 2]:=c1 [] Tryz.func309
noncomputable def qgs:IR:=zq [za 4 (zQ false),zm 5 0,zm 6 1,zc 7 229 #[zt 5,zt 6] #[51,9] 3,za 4 (zI .geq (zv 7) (zK 0))] <| .ret
def qkJ:List Nat:=zV 8 [2,3]
def quO:C2 160 9 qkJ qgs [.tmp 4]:=c2 [] Tryz.func160
noncomputable def qgb:IR:=zq [za 2 (.ite (zI .lss (zT (zv 0)) (zK 10)) (zQ true) (zS .eql (zv 0) (.const (zs #[49,48,48,48,48,48,48,48,48,48]))))] <| .ret
noncomputable def qgc:IR:=zq [za 2 (zQ false),za 11 (.ite (zI .eql (zT (zv 0)) (zK 0)) (zQ true) (zI .gtr (zT (zv 0)) (zK 10))),zg 11 false 12 (zv 0),zh 11 false 13 244 #[zt 12] #[9] 3,za 27 (.ite (.ite (zv 11) (zQ true) (zI .neq (zv 13) (zT (zv 0)))) (zQ true) (.ite (zI .gtr (zT (zv 0)) (zK 1)) (zB .eql (.op2 .ixs (zv 0) (zK 0)) (.const (zu 48))) (zQ false)))] <| .seq (.cond (zv 27) (zq [za 2 (zQ false)] <| .ret) .skip) (qgb)
def qsW:List Nat:=[0,2,11,12,13,27]
def qGd:C1 245 35 qsW qgc [.tmp 2]:=c1 [] Tryz.func245
noncomputable def qf8:Code:=(qig ((Tryz.f266.body).getD .skip))
noncomputable def qj5:IR:=.raw (qP qf8 8)
noncomputable def qj4:IR:=.cond (zv 36) (zq [za 51 (zf 0 (zN (zv 0))),zc 52 306 #[zt 51] #[215] 9,zc 53 305 #[zt 52,(.const (zu 10))] #[9,5] 3,zm 3 53,za 55 (zI .lss (zv 3) (zK 0))] <| .seq (.cond (zv 55) (.reg [za 58 (zf 0 (zN (zv 0))),zc 59 306 #[zt 58] #[215] 9,za 3 (zT (zv 59))]) .skip) (qj5)) (.exit 0)
noncomputable def qf7:IR:=.cond (zv 18) (.reg [za 34 (zf 0 (zN (zv 0))),zc 35 304 #[zt 34,zO 1] #[215,3] 9]) (.seq (.drw [za 36 (zB .eql (.op2 .ixs (zo 0 (zf 0 (zN (zv 0)))) (zo 1 (zf 0 (zN (zv 0))))) (.const (zu 37)))]) (qj4))
noncomputable def qsM:IR:=.block 1 (.block 2 (.seq (.raw (qP qf8 2)) (qf7)))
noncomputable def qj3:IR:=.seq (.cond (zv 17) .skip (.exit 0)) (qsM)
noncomputable def qj2:IR:=.seq (.drw [za 17 (zI .lss (zo 1 (zf 0 (zN (zv 0)))) (zT (zo 0 (zf 0 (zN (zv 0))))))]) (qj3)
noncomputable def qsL:IR:=.block 0 (.loop qj2)
noncomputable def qj6:IR:=zq [zc 4 303 #[] #[] 289,zE 5 (.index 289 (zt 4) (zO 2)) 288,zm 2 5] <| .seq (.raw (.label 0)) (qsL)
def qcp:List Nat:=zV 75 [1,6,7,8,9,10,11,12,13,14,15,16,32,33,37,38,39,40,41,42,43,44,45,46,47,48,49,50,54,56,57,60]
theorem qF4:(jo Tryz.prog Tryz.f266.ntmps qcp [8,2] (qig (Tryz.f266.body.getD .skip))).map IR.norm=some qj6:=by kernel_rfl
def qF7 {v0:Value} {w:World} {R:Ending->World->Prop} (h:∀ρ:qa,ρ 0=v0->qj6.wp ⟨Tryz.prog,75,qcp,[]⟩ (qB [] R) (ji [] R) ρ w):
  Calls Tryz.prog 266 #[v0] w R:=by
 obtain ⟨a,b,e⟩:=ua.1 qF4;exact qwY (args:=#[v0]) Tryz.func266 (c:=(qig (Tryz.f266.body.getD .skip))) rfl b e (by kernel_rfl) (show zX Tryz.prog qcp Tryz.f266.results.toList=some [] by kernel_rfl) (uV rfl) (h _ rfl)
noncomputable def qsK:OT:=zy 19 (zv 2)<|zy 20 (zv 0)<|zy 21 (zN (zv 20))<|zy 22 (zf 0 (zv 21))<|zy 23 (zf 0 (zv 22))<|zy 24 (zl (zv 23))<|zy 25 (zv 0)<|zy 26 (zN (zv 25))<|zy 27 (zf 0 (zv 26))<|zy 28 (zf 1 (zv 27))<|zy 29 (zl (zv 28))<|zy 30 (.op2 .ixs (zv 24) (zv 29))<| .step (zE 31 (.call {callee:=.value (zt 19),args:=#[zt 30],argTypes:=#[188]}) 4) false<| .step (zm 18 31) false<| .done
theorem qF6:zj Tryz.prog 75 qcp 12 (qP qf8 2)=some qsK:=by kernel_rfl
noncomputable def qsJ:OT:=zy 61 (zv 0)<|zy 62 (zv 0)<|zy 63 (zN (zv 62))<|zy 64 (zf 3 (zv 63))<|zy 65 (zl (zv 64))<|zy 66 (zv 0)<|zy 67 (zN (zv 66))<|zy 68 (zf 0 (zv 67))<|zy 69 (zv 3)<| .step (zc 70 304 #[zt 68,zt 69] #[215,3] 9) true<| .step (zE 71 (.buildSlice 51 1 #[(0,(zt 70))]) 51) true<| .step (zp 72 #[zt 65,zt 71] #[51,51] 51) true<| .step (za 73 (zN (zv 61))) false<| .step (za 74 (zf 3 (zv 73))) false<| .step (zw 51 (zt 74) (zt 72)) false<| .done
theorem qF5:zj Tryz.prog 75 qcp 12 (qP qf8 8)=some qsJ:=by kernel_rfl
noncomputable def qco:Code:=((Tryz.f267.body).getD .skip)
noncomputable def qF2:IR:=.reg [za 83 (zf 0 (zN (zv 0))),zm 84 6,zc 85 304 #[zt 83,zt 84] #[215,3] 9,za 86 (zf 1 (zv 3)),zw 9 (zt 86) (zt 85)]
noncomputable def qj1:IR:=zq [za 69 (zf 0 (zN (zv 0))),zc 70 306 #[zt 69] #[215] 9,za 7 (.op3 .stLoHi (zv 70) (zK 0) (zv 6)),za 73 (zf 0 (zv 3)),zw 5 (zt 73) (.const (zu 1)),zm 74 7,zc 75 166 #[zt 74] #[9] 4] <| .seq (.cond (zv 75) (.reg [za 76 (zf 0 (zv 3)),zw 5 (zt 76) (.const (zu 2))]) (zq [za 78 (zI .gtr (zv 6) (zK 12))] <| .cond (zv 78) (.reg [zm 79 0,zc 80 308 #[zt 79,zO 12] #[213,24] 0]) .skip)) (qF2)
noncomputable def qsG:IR:=.reg [za 106 (zf 0 (zv 3)),zw 5 (zt 106) (.const (zu 3)),za 109 (zf 0 (zN (zv 0))),zm 110 8,zc 111 304 #[zt 109,zt 110] #[215,3] 9,za 112 (zf 1 (zv 3)),zw 9 (zt 112) (zt 111)]
noncomputable def qj0:IR:=zq [za 98 (zf 0 (zN (zv 0))),zc 99 306 #[zt 98] #[215] 9,za 101 (.op3 .stLoHi (zv 99) (zK 0) (zv 8)),zc 102 309 #[zt 101] #[9] 4,za 103 (zn (zv 102))] <| .seq (.cond (zv 103) (.reg [zm 104 0,zc 105 308 #[zt 104,zO 11] #[213,24] 0]) .skip) (qsG)
noncomputable def qjZ:IR:=.reg [za 32 (zI .add (zv 32) (zK 1))]
noncomputable def qsF:IR:=.seq (.block 2 (zq [za 11 (zl (zx 1 (zv 30) (zv 32))),za 38 (zf 0 (zN (zv 0))),zc 39 306 #[zt 38] #[215] 9,zm 40 11,zc 41 311 #[zt 39,zt 40] #[9,9] 4] <| .cond (zv 41) (.reg [zm 42 9,za 44 (zT (zv 11)),zE 45 (.call {callee:=.builtin .max,args:=#[zt 42,zt 44],argTypes:=#[3,3]}) 3,zm 9 45]) .skip)) (qjZ)
noncomputable def qdW:IR:=zq [za 33 (zI .lss (zv 32) (zv 31))] <| .seq (.cond (zv 33) .skip (.exit 1)) (qsF)
noncomputable def qsE:IR:=.reg [za 51 (zf 0 (zv 3)),zw 5 (zt 51) (.const (zu 4)),za 54 (zf 0 (zN (zv 0))),zm 55 9,zc 56 304 #[zt 54,zt 55] #[215,3] 9,za 57 (zf 1 (zv 3)),zw 9 (zt 57) (zt 56)]
noncomputable def qf6:IR:=zq [za 48 (zI .eql (zv 9) (zK 0))] <| .seq (.cond (zv 48) (.reg [zm 49 0,zc 50 308 #[zt 49,zO 10] #[213,24] 0]) .skip) (qsE)
noncomputable def qbt:IR:=zq [za 113 (zM 3 (zv 3)),zw 53 (zt 2) (zt 113)] <| .ret
noncomputable def qsH:IR:=.seq (.block 0 (zq [zm 59 5,zc 60 162 #[zt 59] #[188] 4,zm 58 60] <| .cond (zv 58) (.seq (.raw (qP qco 16)) (qj1)) (zq [zm 88 5,zc 89 232 #[zt 88] #[188] 4,zm 87 89] <| .cond (zv 87) (.seq (.raw (qP qco 25)) (qj0)) (zq [za 9 (zK 0),zc 30 310 #[] #[] 51,za 31 (zL (zv 30)),za 32 (zK 0)] <| .seq (.block 1 (.loop qdW)) (qf6))))) (qbt)
noncomputable def qsI:IR:=zq [zA 2 53,za 16 (zo 2 (zf 0 (zN (zv 0)))),zE 17 (.build 53 #[(2,(zt 16))]) 53,zA 3 53,zw 53 (zt 3) (zt 17),zc 18 303 #[] #[] 289,zA 4 289,zw 289 (zt 4) (zt 18)] <| .seq (.drw [za 5 (.op2 .ixs (zo 0 (zf 0 (zN (zv 0)))) (zo 1 (zf 0 (zN (zv 0)))))]) (qsH)
def kZ:List Nat:=zV 114 [1,10,12,13,14,15,19,20,21,22,23,24,25,26,27,28,29,34,35,36,37,43,46,47,52,53,67,68,71,72,77,81,82,96,97,100,107,108]
def qF3:C1 267 114 kZ qsI [.cellN 2 3]:=c1 [25,16] Tryz.func267
noncomputable def qsD:OT:=zy 61 (zv 0)<|zy 62 (zN (zv 61))<|zy 63 (zf 0 (zv 62))<| .step (zE 64 (.indexAddr 289 (zt 4) (zO 0)) 0) true<|zy 65 (zl (zv 64))<| .step (zc 66 307 #[zt 63,zt 65] #[215,288] 3) false<| .step (zm 6 66) false<| .done
theorem qF1:zj Tryz.prog 114 kZ 5 (qP qco 16)=some qsD:=by kernel_rfl
noncomputable def qsC:OT:=zy 90 (zv 0)<|zy 91 (zN (zv 90))<|zy 92 (zf 0 (zv 91))<| .step (zE 93 (.indexAddr 289 (zt 4) (zO 1)) 0) true<|zy 94 (zl (zv 93))<| .step (zc 95 307 #[zt 92,zt 94] #[215,288] 3) false<| .step (zm 8 95) false<| .done
theorem qF0:zj Tryz.prog 114 kZ 5 (qP qco 25)=some qsC:=by kernel_rfl
noncomputable def qsX:IR:=.block 1 (.reg [za 3 (zI .add (zv 3) (zK 1))])
noncomputable def qj9:IR:=zq [za 8 (zI .lss (zv 3) (zT (zv 0))),zg 8 true 11 (.op2 .ixs (zv 0) (zv 3)),zh 8 true 12 234 #[zt 11] #[5] 4,za 13 (.ite (zv 8) (zv 12) (zQ false))] <| .seq (.cond (zv 13) .skip (.exit 0)) (qsX)
noncomputable def qka:IR:=zq [zm 2 3] <| .ret
noncomputable def qsY:IR:=zq [za 2 (zK 0),za 3 (zK 0)] <| .seq (.block 0 (.loop qj9)) (qka)
def qGf:List Nat:=[0,2,3,8,11,12,13]
def qGe:C1 244 17 qGf qsY [.tmp 2]:=c1 [] Tryz.func244
noncomputable def qgk:IR:=.reg [za 8 (zI .add (zv 8) (zK 1))]
noncomputable def qgj:IR:=.seq (.block 1 (zq [zm 5 8,za 16 (zS .eql (zv 1) (zl (zx 1 (zv 0) (zv 5))))] <| .cond (zv 16) (zq [zm 4 5] <| .ret) .skip)) (qgk)
noncomputable def qdZ:IR:=zq [za 9 (zI .lss (zv 8) (zv 7))] <| .seq (.cond (zv 9) .skip (.exit 0)) (qgj)
noncomputable def qgi:IR:=zq [za 4 (.const (.int .i64 (-1)))] <| .ret
noncomputable def qgl:IR:=zq [za 4 (zK 0),za 7 (zL (zv 0)),za 8 (zK 0)] <| .seq (.block 0 (.loop qdZ)) (qgi)
def qkm:List Nat:=[0,1,4,5,7,8,9,16]
def qtA:C2 229 19 qkm qgl [.tmp 4]:=c2 [] Tryz.func229
noncomputable def qso:IR:=zq [zA 0 289,zE 1 (.build 289 #[(0,(.func 165)),(1,(.func 232)),(2,(.func 346))]) 289,zw 289 (zt 0) (zt 1)] <| .ret
def qFE:List Nat:=[0,1]
def qFD:C0 303 2 qFE qso [.cellN 0 3]:=c0 [] Tryz.func303
noncomputable def qsl:Code:=((Tryz.f304.body).getD .skip)
noncomputable def qsk:IR:=zq [zm 30 0,za 35 (zI .add (zo 1 (zN (zv 30))) (zv 1)),za 37 (zf 1 (zN (zv 30))),zw 3 (zt 37) (zt 35),zm 4 5] <| .ret
noncomputable def qsj:IR:=.seq (.raw (qP qsl 2)) (qsk)
noncomputable def qsn:IR:=zq [za 4 (.const (zs #[]))] <| .seq (.drw [za 5 (.op3 .stLoHi (zo 0 (zN (zv 0))) (zo 1 (zN (zv 0))) (zI .add (zo 1 (zN (zv 0))) (zv 1)))]) (qsj)
def qsm:List Nat:=[0,1,4,5,21,22,23,24,25,26,27,28,29,30,35,37]
def qFC:C2 304 39 qsm qsn [.tmp 4]:=c2 [2] Tryz.func304
noncomputable def qsi:OT:=zy 21 (zv 0)<|zy 22 (zN (zv 21))<|zy 23 (zf 2 (zv 22))<|zy 24 (zl (zv 23))<|zy 25 (zv 5)<| .step (zc 26 198 #[zt 25,zY #[10]] #[9,9] 3) true<| .step (za 27 (zI .add (zv 24) (zv 26))) false<| .step (za 28 (zN (zv 21))) false<| .step (za 29 (zf 2 (zv 28))) false<| .step (zw 3 (zt 29) (zt 27)) false<| .done
theorem qFB:zj Tryz.prog 39 qsm 6 (qP qsl 2)=some qsi:=by kernel_rfl
noncomputable def qsg:IR:=.ret
noncomputable def qsh:IR:=zq [za 2 (.const (zs #[]))] <| .seq (.drw [za 2 (.op2 .stLo (zo 0 (zN (zv 0))) (zo 1 (zN (zv 0))))]) (qsg)
def qFA:List Nat:=[0,2]
def qFz:C1 306 12 qFA qsh [.tmp 2]:=c1 [] Tryz.func306
noncomputable def qse:IR:=.reg [za 11 (zI .add (zv 11) (zK 1))]
noncomputable def qsd:IR:=.seq (.block 1 (zq [zm 6 11,zm 14 1,za 17 (.op2 .ixs (zv 5) (zv 6)),zE 18 (.call {callee:=.value (zt 14),args:=#[zt 17],argTypes:=#[188]}) 4,za 19 (zn (zv 18))] <| .cond (zv 19) (zq [zm 4 6] <| .ret) .skip)) (qse)
noncomputable def qjW:IR:=zq [za 12 (zI .lss (zv 11) (zv 10))] <| .seq (.cond (zv 12) .skip (.exit 0)) (qsd)
noncomputable def qsc:IR:=zq [za 4 (zT (zv 5))] <| .ret
noncomputable def qsf:IR:=zq [za 4 (zK 0),zm 7 0,zc 8 306 #[zt 7] #[318] 9,zm 5 8,za 10 (zT (zv 5)),za 11 (zK 0)] <| .seq (.block 0 (.loop qjW)) (qsc)
def qFy:List Nat:=zV 20 [2,3,9,13,15,16]
def qFx:C2 307 24 qFy qsf [.tmp 4]:=c2 [] Tryz.func307
noncomputable def qsb:IR:=.reg [zm 4 1,za 9 (zo 2 (zf 0 (zN (zv 0)))),zE 10 (.build 26 #[(0,(zt 4)),(1,(zt 9))]) 26,zE 11 (.build 212 #[(0,(zt 10))]) 212,za 12 (.op1 (.mkif 212) (zv 11)),.eff none none (.panic (zt 12)) 0]
def qFw:List Nat:=[0,1,4,9,10,11,12]
def qFv:C2 308 13 qFw qsb []:=c2 [] Tryz.func308
noncomputable def qr0:IR:=zq [za 2 (zQ false),za 2 (.ite (.ite (zB .eql (zv 0) (.const (zu 32))) (zQ true) (zB .eql (zv 0) (.const (zu 9)))) (zQ true) (zB .eql (zv 0) (.const (zu 10))))] <| .ret
def qFl:List Nat:=[0,2]
def qFk:C1 346 13 qFl qr0 [.tmp 2]:=c1 [] Tryz.func346
noncomputable def qjA:IR:=zq [za 4 (zK 0),za 5 (.const .nilIface),zm 6 0,zc 7 177 #[zt 6] #[111] 0,zm 8 0,za 12 (zo 1 (zN (zv 0))),zm 13 1,zp 14 #[zt 12,zt 13] #[112,9] 112,za 16 (zf 1 (zN (zv 8))),zw 112 (zt 16) (zt 14),za 4 (zT (zv 1)),za 5 (.const .nilIface)] <| .ret
def qEv:List Nat:=zV 17 [2,3,9,10,11,15]
def qqM:C2 89 19 qEv qjA [.tmp 4,.tmp 5]:=c2 [] Tryz.func89
end Go.L01
