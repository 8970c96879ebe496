/- Lemmas for a claim about layer 2 (tree). No conditions but those they state. -/
import Derived.Test.YtbcmiempigoooaaGreatDoorNal
import Derived.Test.YtbcmiempigoooaaGreatDoorProg
import Derived.KernelRfl
set_option linter.all false
namespace Go.Eng
open Go Go.Proofs
theorem sE {V:List Nat} {args:Array Value} {i:Nat} (h:V.contains i=true) (a:i≠gS):x8 V args i=args.getD i undef:=by
 unfold x8;rw [if_neg a,if_pos (by simpa using h)]
abbrev C0 (f n:Nat) (V:List Nat) (ir:IR) (rs:List RV):Prop:=∀{w:World} {R:Ending→World→Prop},(∀ρ:qa,ir.wp ⟨Tryz.prog,n,V,[]⟩ (qw rs R) (qF rs R) ρ w)→Calls Tryz.prog f #[] w R
theorem c0 (a:List Nat) {f n:Nat} {fn:Func} {V:List Nat} {ir:IR} {rs:List RV} (l:Tryz.prog.funcs[f]? =some fn) (g:fn.body=some (fn.body.getD .skip):=by rfl) (b:(qT Tryz.prog fn.ntmps V a (fn.body.getD .skip)).map IR.norm=some ir:=by kernel_rfl) (c:vc Tryz.prog V fn.results.toList=some rs:=by kernel_rfl) (e:(xu fn V&&Nat.ble 0 fn.ntmps&&Nat.beq fn.ntmps n)=true:=by kernel_rfl):C0 f n V ir rs:=by
 simp only [Bool.and_eq_true] at e;obtain ⟨⟨i,k⟩,a3⟩:=e;have j:=Nat.eq_of_beq_eq_true a3;subst j;exact fun {w R} h=>Jj (args:= #[]) l g b i c (Nat.le_of_ble_eq_true k) (h _)
abbrev C1 (f n:Nat) (V:List Nat) (ir:IR) (rs:List RV):Prop:=∀{v0:Value} {w:World} {R:Ending→World→Prop},(∀ρ:qa,ρ 0=v0→ir.wp ⟨Tryz.prog,n,V,[]⟩ (qw rs R) (qF rs R) ρ w)→Calls Tryz.prog f #[v0] w R
theorem c1 (a:List Nat) {f n:Nat} {fn:Func} {V:List Nat} {ir:IR} {rs:List RV} (l:Tryz.prog.funcs[f]? =some fn) (g:fn.body=some (fn.body.getD .skip):=by rfl) (b:(qT Tryz.prog fn.ntmps V a (fn.body.getD .skip)).map IR.norm=some ir:=by kernel_rfl) (c:vc Tryz.prog V fn.results.toList=some rs:=by kernel_rfl) (e:(xu fn V&&Nat.ble 1 fn.ntmps&&Nat.beq fn.ntmps n&&V.contains 0)=true:=by kernel_rfl):C1 f n V ir rs:=by
 simp only [Bool.and_eq_true] at e;obtain ⟨⟨⟨i,k⟩,a3⟩,b0⟩:=e;have j:=Nat.eq_of_beq_eq_true a3;subst j;exact fun {v0 w R} h=>Jj (args:= #[v0]) l g b i c (Nat.le_of_ble_eq_true k) (h _ (sE b0 (by decide)))
abbrev C2 (f n:Nat) (V:List Nat) (ir:IR) (rs:List RV):Prop:=∀{v0 v1:Value} {w:World} {R:Ending→World→Prop},(∀ρ:qa,ρ 0=v0→ρ 1=v1→ir.wp ⟨Tryz.prog,n,V,[]⟩ (qw rs R) (qF rs R) ρ w)→Calls Tryz.prog f #[v0,v1] w R
theorem c2 (a:List Nat) {f n:Nat} {fn:Func} {V:List Nat} {ir:IR} {rs:List RV} (o:Tryz.prog.funcs[f]? =some fn) (j:fn.body=some (fn.body.getD .skip):=by rfl) (b:(qT Tryz.prog fn.ntmps V a (fn.body.getD .skip)).map IR.norm=some ir:=by kernel_rfl) (c:vc Tryz.prog V fn.results.toList=some rs:=by kernel_rfl) (e:(xu fn V&&Nat.ble 2 fn.ntmps&&Nat.beq fn.ntmps n&&V.contains 0&&V.contains 1)=true:=by kernel_rfl):C2 f n V ir rs:=by
 simp only [Bool.and_eq_true] at e;obtain ⟨⟨⟨⟨k,m⟩,a3⟩,b0⟩,i⟩:=e;have l:=Nat.eq_of_beq_eq_true a3;subst l;exact fun {v0 g w R} h=>Jj (args:= #[v0,g]) o j b k c (Nat.le_of_ble_eq_true m) (h _ (sE b0 (by decide)) (sE i (by decide)))
abbrev C3 (f n:Nat) (V:List Nat) (ir:IR) (rs:List RV):Prop:=∀{v0 v1 v2:Value} {w:World} {R:Ending→World→Prop},(∀ρ:qa,ρ 0=v0→ρ 1=v1→ρ 2=v2→ir.wp ⟨Tryz.prog,n,V,[]⟩ (qw rs R) (qF rs R) ρ w)→Calls Tryz.prog f #[v0,v1,v2] w R
theorem c3 (a:List Nat) {f n:Nat} {fn:Func} {V:List Nat} {ir:IR} {rs:List RV} (o:Tryz.prog.funcs[f]? =some fn) (j:fn.body=some (fn.body.getD .skip):=by rfl) (b:(qT Tryz.prog fn.ntmps V a (fn.body.getD .skip)).map IR.norm=some ir:=by kernel_rfl) (c:vc Tryz.prog V fn.results.toList=some rs:=by kernel_rfl) (e:(xu fn V&&Nat.ble 3 fn.ntmps&&Nat.beq fn.ntmps n&&V.contains 0&&V.contains 1&&V.contains 2)=true:=by kernel_rfl):C3 f n V ir rs:=by
 simp only [Bool.and_eq_true] at e;obtain ⟨⟨⟨⟨⟨k,m⟩,a3⟩,b0⟩,i⟩,b2⟩:=e;have l:=Nat.eq_of_beq_eq_true a3;subst l;exact fun {v0 g p w R} h=>Jj (args:= #[v0,g,p]) o j b k c (Nat.le_of_ble_eq_true m) (h _ (sE b0 (by decide)) (sE i (by decide)) (sE b2 (by decide)))
abbrev C4 (f n:Nat) (V:List Nat) (ir:IR) (rs:List RV):Prop:=∀{v0 v1 v2 v3:Value} {w:World} {R:Ending→World→Prop},(∀ρ:qa,ρ 0=v0→ρ 1=v1→ρ 2=v2→ρ 3=v3→ir.wp ⟨Tryz.prog,n,V,[]⟩ (qw rs R) (qF rs R) ρ w)→Calls Tryz.prog f #[v0,v1,v2,v3] w R
theorem c4 (a:List Nat) {f n:Nat} {fn:Func} {V:List Nat} {ir:IR} {rs:List RV} (o:Tryz.prog.funcs[f]? =some fn) (j:fn.body=some (fn.body.getD .skip):=by rfl) (b:(qT Tryz.prog fn.ntmps V a (fn.body.getD .skip)).map IR.norm=some ir:=by kernel_rfl) (c:vc Tryz.prog V fn.results.toList=some rs:=by kernel_rfl) (e:(xu fn V&&Nat.ble 4 fn.ntmps&&Nat.beq fn.ntmps n&&V.contains 0&&V.contains 1&&V.contains 2&&V.contains 3)=true:=by kernel_rfl):C4 f n V ir rs:=by
 simp only [Bool.and_eq_true] at e;obtain ⟨⟨⟨⟨⟨⟨k,m⟩,a3⟩,b0⟩,i⟩,b2⟩,b3⟩:=e;have l:=Nat.eq_of_beq_eq_true a3;subst l;exact fun {v0 g p v3 w R} h=>Jj (args:= #[v0,g,p,v3]) o j b k c (Nat.le_of_ble_eq_true m) (h _ (sE b0 (by decide)) (sE i (by decide)) (sE b2 (by decide)) (sE b3 (by decide)))
abbrev C5 (f n:Nat) (V:List Nat) (ir:IR) (rs:List RV):Prop:=∀{v0 v1 v2 v3 v4:Value} {w:World} {R:Ending→World→Prop},(∀ρ:qa,ρ 0=v0→ρ 1=v1→ρ 2=v2→ρ 3=v3→ρ 4=v4→ir.wp ⟨Tryz.prog,n,V,[]⟩ (qw rs R) (qF rs R) ρ w)→Calls Tryz.prog f #[v0,v1,v2,v3,v4] w R
theorem c5 (a:List Nat) {f n:Nat} {fn:Func} {V:List Nat} {ir:IR} {rs:List RV} (o:Tryz.prog.funcs[f]? =some fn) (j:fn.body=some (fn.body.getD .skip):=by rfl) (b:(qT Tryz.prog fn.ntmps V a (fn.body.getD .skip)).map IR.norm=some ir:=by kernel_rfl) (c:vc Tryz.prog V fn.results.toList=some rs:=by kernel_rfl) (e:(xu fn V&&Nat.ble 5 fn.ntmps&&Nat.beq fn.ntmps n&&V.contains 0&&V.contains 1&&V.contains 2&&V.contains 3&&V.contains 4)=true:=by kernel_rfl):C5 f n V ir rs:=by
 simp only [Bool.and_eq_true] at e;obtain ⟨⟨⟨⟨⟨⟨⟨k,m⟩,a3⟩,b0⟩,i⟩,b2⟩,b3⟩,b4⟩:=e;have l:=Nat.eq_of_beq_eq_true a3;subst l;exact fun {v0 g p v3 v4 w R} h=>Jj (args:= #[v0,g,p,v3,v4]) o j b k c (Nat.le_of_ble_eq_true m) (h _ (sE b0 (by decide)) (sE i (by decide)) (sE b2 (by decide)) (sE b3 (by decide)) (sE b4 (by decide)))
abbrev C6 (f n:Nat) (V:List Nat) (ir:IR) (rs:List RV):Prop:=∀{v0 v1 v2 v3 v4 v5:Value} {w:World} {R:Ending→World→Prop},(∀ρ:qa,ρ 0=v0→ρ 1=v1→ρ 2=v2→ρ 3=v3→ρ 4=v4→ρ 5=v5→ir.wp ⟨Tryz.prog,n,V,[]⟩ (qw rs R) (qF rs R) ρ w)→Calls Tryz.prog f #[v0,v1,v2,v3,v4,v5] w R
theorem c6 (a:List Nat) {f n:Nat} {fn:Func} {V:List Nat} {ir:IR} {rs:List RV} (p:Tryz.prog.funcs[f]? =some fn) (k:fn.body=some (fn.body.getD .skip):=by rfl) (b:(qT Tryz.prog fn.ntmps V a (fn.body.getD .skip)).map IR.norm=some ir:=by kernel_rfl) (c:vc Tryz.prog V fn.results.toList=some rs:=by kernel_rfl) (e:(xu fn V&&Nat.ble 6 fn.ntmps&&Nat.beq fn.ntmps n&&V.contains 0&&V.contains 1&&V.contains 2&&V.contains 3&&V.contains 4&&V.contains 5)=true:=by kernel_rfl):C6 f n V ir rs:=by
 simp only [Bool.and_eq_true] at e;obtain ⟨⟨⟨⟨⟨⟨⟨⟨l,o⟩,a3⟩,b0⟩,j⟩,b2⟩,b3⟩,b4⟩,g⟩:=e;have m:=Nat.eq_of_beq_eq_true a3;subst m;exact fun {v0 i s v3 v4 v5 w R} h=>Jj (args:= #[v0,i,s,v3,v4,v5]) p k b l c (Nat.le_of_ble_eq_true o) (h _ (sE b0 (by decide)) (sE j (by decide)) (sE b2 (by decide)) (sE b3 (by decide)) (sE b4 (by decide)) (sE g (by decide)))
end Go.Eng
namespace Go.L02
open Go Go.Eng Go.Proofs
set_option maxRecDepth 100000
set_option maxHeartbeats 2000000
noncomputable def qn5:Code:=((Tryz.f54.body).getD .skip)
noncomputable def qb2:IR:=zq [zE 16 (.makeFunc (.func 116) #[] #[zt 5,zt 2,zt 6,zt 4]) 1, .eff none none (.defer {callee:= .value (zt 16),args:= #[],argTypes:= #[]}) 0,zm 17 1,zE 18 (.call {callee:= .value (zt 17),args:= #[],argTypes:= #[]}) 0,zw 4 (zt 4) (.const (zb true))] <| .ret
noncomputable def qdY:IR:=zq [zE 2 (.box 83 (zt 0)) 0,zA 4 4] <| .seq (.raw (qN qn5 1)) (qb2)
def qaA:List Nat:=zV 19 [3]
theorem qAW:(qT Tryz.prog Tryz.f54.ntmps qaA [1] (Tryz.f54.body.getD .skip)).map IR.norm=some qdY:=by kernel_rfl
theorem qn4 {v0 a:Value} {w:World} {R:Ending→World→Prop} (h:∀ρ:qa,ρ 0=v0→ρ 1=a→ρ gS= .tuple #[]→qdY.wp ⟨Tryz.prog,19,qaA,z6⟩ (jD Tryz.prog [.cell1 4] R .returning) (vC Tryz.prog [.cell1 4] R) ρ w):
  Calls Tryz.prog 54 #[v0,a] w R:=by
 obtain ⟨g,b,e⟩:=Option.map_eq_some_iff.1 qAW;exact qeX (args:= #[v0,a]) Tryz.func54 (c:=(Tryz.f54.body.getD .skip)) rfl b e (by kernel_rfl) (show vc Tryz.prog qaA Tryz.f54.results.toList=some [.cell1 4] by kernel_rfl) (Nat.le_of_ble_eq_true rfl) (h _ rfl rfl rfl)
noncomputable def qhi:OT:=zy 7 (zl (zv 2))<|zy 8 (zN (zv 7))<|zy 9 (zf 1 (zv 8))<|zy 10 (zl (zv 9))<|zy 11 (zl (zv 2))<|zy 12 (zN (zv 11))<|zy 13 (zf 3 (zv 12))<|zy 14 (zl (zv 13))<|zy 15 (zL (zv 14))<| .both (.step (zA 5 3) true<| .step (zA 6 3) true<| .step (zw 3 (zt 5) (zt 10)) true<| .step (zw 3 (zt 6) (zt 15)) false<| .done)<| .step (zA 6 3) true<| .step (zA 5 3) true<| .step (zw 3 (zt 5) (zt 10)) true<| .step (zw 3 (zt 6) (zt 15)) false<| .done
theorem qn3:vF Tryz.prog 19 qaA 12 (qN qn5 1)=some qhi:=by kernel_rfl
noncomputable def qsl:Code:=((Tryz.f116.body).getD .skip)
noncomputable def qsk:IR:= .raw (qN qsl 5)
def qev:List Nat:=zV 31 [15]
noncomputable def qsj:OT:=zy 18 (zl (zv 1))<|zy 19 (zl (zv 1))<|zy 20 (zl (zv 0))<|zy 21 (zl (zv 1))<|zy 22 (zN (zv 21))<|zy 23 (zf 3 (zv 22))<|zy 24 (zl (zv 23))<|zy 25 (zl (zv 2))<|zy 26 (.op3 (.slLoHi 6) (zv 24) (zK 0) (zv 25))<|zy 27 (zN (zv 18))<|zy 28 (zf 1 (zv 27))<| .step (zw 3 (zt 28) (zt 20)) true<| .step (za 29 (zN (zv 19))) false<| .step (za 30 (zf 3 (zv 29))) false<| .step (zw 29 (zt 30) (zt 26)) false<| .step (zw 4 (zt 3) (.const (zb false))) false<| .done
theorem qEe:vF Tryz.prog 31 qev 12 (qN qsl 5)=some qsj:=by kernel_rfl
noncomputable def qr1:Code:=((Tryz.f142.body).getD .skip)
noncomputable def qr0:IR:= .ret
noncomputable def qrZ:IR:=zq [zE 29 (.build 53 #[]) 53,zw 53 (zt 4) (zt 29)] <| .ret
noncomputable def qiz:IR:= .seq (.cond (zv 16) (.seq (.raw (qN qr1 2)) (qr0)) .skip) (qrZ)
noncomputable def qr3:IR:=zq [zA 4 53] <| .seq (.drw [za 16 (zI .lss (zI .add (zo 1 (zN (zv 0))) (zv 1)) (zL (zo 0 (zN (zv 0)))))]) (qiz)
def qr2:List Nat:=zV 30 [2,3,5,6,7,8,9,10,11,12,13,14,15]
theorem qDX:C2 142 30 qr2 qr3 [.cellN 4 3]:=c2 [2] Tryz.func142
noncomputable def qrY:OT:=zy 17 (zv 0)<|zy 18 (zN (zv 17))<|zy 19 (zf 0 (zv 18))<|zy 20 (zl (zv 19))<|zy 21 (zv 0)<|zy 22 (zN (zv 21))<|zy 23 (zf 1 (zv 22))<|zy 24 (zl (zv 23))<|zy 25 (zv 1)<|zy 26 (zI .add (zv 24) (zv 25))<| .step (za 27 (zx 3 (zv 20) (zv 26))) false<| .step (za 28 (zM 3 (zv 27))) false<| .step (zw 53 (zt 4) (zt 28)) false<| .done
theorem qDW:vF Tryz.prog 30 qr2 10 (qN qr1 2)=some qrY:=by kernel_rfl
noncomputable def qr4:IR:=zq [za 4 (zQ false),zm 6 0,zc 7 142 #[zt 6,zO 0] #[83,3] 53,zA 5 53,zw 53 (zt 5) (zt 7),za 16 (.ite (zB .eql (zo 0 (zv 5)) (.const (zu 2))) (zQ true) (zB .eql (zo 0 (zv 5)) (.const (zu 4)))),zg 16 true 17 (zv 1),zg 16 true 19 (zo 1 (zv 5)),zh 16 true 20 160 #[zt 17,zt 19] #[51,9] 4,za 4 (.ite (zv 16) (zv 20) (zQ false))] <| .ret
def qDZ:List Nat:=[0,1,4,5,6,7,16,17,19,20]
theorem qDY:C2 141 22 qDZ qr4 [.tmp 4]:=c2 [] Tryz.func141
noncomputable def qsh:IR:=zq [zm 10 0,za 14 (zI .add (zo 1 (zN (zv 10))) (zK 1)),za 16 (zf 1 (zN (zv 10))),zw 3 (zt 16) (zt 14),za 4 (zQ true)] <| .ret
noncomputable def qsi:IR:=zq [za 4 (zQ false),zm 5 0,zm 6 1,zE 7 (.buildSlice 51 1 #[(0,(zt 6))]) 51,zc 8 141 #[zt 5,zt 7] #[83,51] 4,za 9 (zn (zv 8))] <| .seq (.cond (zv 9) (zq [za 4 (zQ false)] <| .ret) .skip) (qsh)
def qEd:List Nat:=zV 17 [2,3,11,12,13,15]
theorem qEc:C2 117 17 qEd qsi [.tmp 4]:=c2 [] Tryz.func117
noncomputable def qrG:IR:= .reg [za 8 (zI .add (zv 8) (zK 1))]
noncomputable def qrF:IR:= .seq (.block 1 (zq [za 5 (zl (zx 1 (zv 6) (zv 8))),zm 12 0,zm 13 5,zc 14 117 #[zt 12,zt 13] #[83,9] 4,za 15 (zn (zv 14))] <| .cond (zv 15) (.reg [zm 16 0,zc 17 143 #[zt 16] #[83] 0]) .skip)) (qrG)
noncomputable def qio:IR:=zq [za 9 (zI .lss (zv 8) (zv 7))] <| .seq (.cond (zv 9) .skip (.exit 0)) (qrF)
noncomputable def qrH:IR:=zq [zm 6 1,za 7 (zL (zv 6)),za 8 (zK 0)] <| .block 0 (.loop qio)
def qDE:List Nat:=zV 18 [2,3,4,10,11]
theorem qDD:C2 153 19 qDE qrH []:=c2 [] Tryz.func153
noncomputable def qse:IR:=zq [zm 11 0,za 15 (zI .add (zo 1 (zN (zv 11))) (zK 1)),za 17 (zf 1 (zN (zv 11))),zw 3 (zt 17) (zt 15),za 2 (zo 1 (zv 3))] <| .ret
noncomputable def qsf:IR:=zq [za 2 (.const (zs #[])),zm 4 0,zc 5 142 #[zt 4,zO 0] #[83,3] 53,zA 3 53,zw 53 (zt 3) (zt 5),za 8 (zB .neq (zo 0 (zv 3)) (.const (zu 1)))] <| .seq (.cond (zv 8) (.reg [zm 9 0,zc 10 143 #[zt 9] #[83] 0]) .skip) (qse)
def qEb:List Nat:=zV 18 [1,6,7,12,13,14,16]
theorem qEa:C1 120 20 qEb qsf [.tmp 2]:=c1 [] Tryz.func120
noncomputable def qrV:Code:=((Tryz.f143.body).getD .skip)
noncomputable def qrU:IR:= .reg [zE 14 (.build 153 #[]) 153,za 15 (.op1 (.mkif 153) (zv 14)), .eff none none (.panic (zt 15)) 0]
noncomputable def qrX:IR:= .seq (.raw (qN qrV 0)) (qrU)
def qrW:List Nat:=zV 16 [1]
theorem qDV:C1 143 16 qrW qrX []:=c1 [0] Tryz.func143
noncomputable def qrT:OT:=zy 2 (zv 0)<|zy 3 (zv 0)<|zy 4 (zN (zv 3))<|zy 5 (zf 2 (zv 4))<|zy 6 (zl (zv 5))<|zy 7 (zv 0)<|zy 8 (zN (zv 7))<|zy 9 (zf 1 (zv 8))<|zy 10 (zl (zv 9))<| .step (zE 11 (.call {callee:= .builtin .max,args:= #[zt 6,zt 10],argTypes:= #[3,3]}) 3) true<| .step (za 12 (zN (zv 2))) false<| .step (za 13 (zf 2 (zv 12))) false<| .step (zw 3 (zt 13) (zt 11)) false<| .done
theorem qDU:vF Tryz.prog 16 qrW 10 (qN qrV 0)=some qrT:=by kernel_rfl
noncomputable def qhh:IR:= .cond (zv 11) (.reg [zm 12 0,zc 13 143 #[zt 12] #[83] 0]) .skip
noncomputable def qn2:IR:= .seq (.drw [za 11 (zI .lss (zo 1 (zN (zv 0))) (zL (zo 0 (zN (zv 0)))))]) (qhh)
def qAV:List Nat:=[0,11,12,13]
theorem qAU:C1 63 14 qAV qn2 []:=c1 [] Tryz.func63
noncomputable def qry:IR:= .reg [zm 15 0,za 19 (zI .add (zo 1 (zN (zv 15))) (zK 1)),za 21 (zf 1 (zN (zv 15))),zw 3 (zt 21) (zt 19)]
noncomputable def qrz:IR:=zq [zm 3 0,zc 4 142 #[zt 3,zO 0] #[83,3] 53,zA 2 53,zw 53 (zt 2) (zt 4),za 12 (.ite (zB .neq (zo 0 (zv 2)) (.const (zu 1))) (zQ true) (zS .neq (zo 1 (zv 2)) (.const (zs #[116]))))] <| .seq (.cond (zv 12) (.reg [zm 13 0,zc 14 143 #[zt 13] #[83] 0]) .skip) (qry)
def qDy:List Nat:=[0,2,3,4,12,13,14,15,19,21]
theorem qDx:C1 156 22 qDy qrz []:=c1 [] Tryz.func156
noncomputable def qnX:IR:= .block 0 (zq [zm 12 0,zc 13 117 #[zt 12,zY #[105,110,116]] #[83,9] 4,zm 14 13,zg 14 false 15 (zv 0),zh 14 false 16 117 #[zt 15,zY #[98,111,111,108]] #[83,9] 4,za 18 (.ite (zv 14) (zQ true) (zv 16)),zg 18 false 19 (zv 0),zh 18 false 20 117 #[zt 19,zY #[110,117,108,108]] #[83,9] 4,za 11 (.ite (zv 18) (zQ true) (zv 20))] <| .cond (zv 11) .skip (zq [zm 23 0,zc 24 117 #[zt 23,zY #[97,114,114,97,121]] #[83,9] 4,zm 22 24] <| .cond (zv 22) (.reg [zm 25 0,zE 26 (.buildSlice 51 1 #[(0,(zY #[91]))]) 51,zc 27 153 #[zt 25,zt 26] #[83,51] 0,zm 28 0,zc 29 72 #[zt 28] #[83] 0,zm 30 0,zE 31 (.buildSlice 51 1 #[(0,(zY #[93]))]) 51,zc 32 153 #[zt 30,zt 31] #[83,51] 0]) (zq [zm 34 0,zc 35 117 #[zt 34,zY #[114,101,99,111,114,100]] #[83,9] 4,zm 36 35,zg 36 false 37 (zv 0),zh 36 false 38 117 #[zt 37,zY #[111,110,101,111,102]] #[83,9] 4,za 33 (.ite (zv 36) (zQ true) (zv 38))] <| .cond (zv 33) (.reg [zm 40 0,zE 41 (.buildSlice 51 1 #[(0,(zY #[91]))]) 51,zc 42 153 #[zt 40,zt 41] #[83,51] 0,zm 43 0,zm 44 0,zE 45 (.makeFunc (.func 155) #[zt 44] #[]) 129,zc 46 154 #[zt 43,zt 45] #[83,129] 51,zm 47 0,zE 48 (.buildSlice 51 1 #[(0,(zY #[93]))]) 51,zc 49 153 #[zt 47,zt 48] #[83,51] 0]) (zq [zm 51 0,zc 52 117 #[zt 51,zY #[63]] #[83,9] 4,zm 50 52] <| .cond (zv 50) (.reg [zm 53 0,zc 54 156 #[zt 53] #[83] 0]) (zq [zm 2 0,zc 3 120 #[zt 2] #[83] 9,zm 4 0,zc 5 117 #[zt 4,zY #[91]] #[83,9] 4] <| .cond (zv 5) (.reg [zm 6 0,zc 7 72 #[zt 6] #[83] 0,zm 8 0,zE 9 (.buildSlice 51 1 #[(0,(zY #[93]))]) 51,zc 10 153 #[zt 8,zt 9] #[83,51] 0]) .skip)))))
def qAN:List Nat:=zV 55 [1,17,21,39]
theorem qAM:C1 72 55 qAN qnX []:=c1 [] Tryz.func72
noncomputable def qrA:IR:=zq [za 2 (.const (zs #[])),zm 3 0,zc 4 120 #[zt 3] #[83] 9,zm 5 0,zE 6 (.buildSlice 51 1 #[(0,(zY #[58]))]) 51,zc 7 153 #[zt 5,zt 6] #[83,51] 0,zm 8 0,zc 9 72 #[zt 8] #[83] 0,za 2 (.const (zs #[]))] <| .ret
def qDA:List Nat:=zV 10 [1]
theorem qDz:C1 155 10 qDA qrA [.tmp 2]:=c1 [] Tryz.func155
noncomputable def qrD:IR:= .block 1 (.reg [zm 11 5,zm 12 1,zE 13 (.call {callee:= .value (zt 12),args:= #[],argTypes:= #[]}) 9,zE 14 (.buildSlice 51 1 #[(0,(zt 13))]) 51,zp 15 #[zt 11,zt 14] #[51,51] 51,zm 5 15])
noncomputable def qrB:IR:=zq [zm 9 0,zc 10 117 #[zt 9,zY #[44]] #[83,9] 4] <| .seq (.cond (zv 10) .skip (.exit 0)) (qrD)
noncomputable def qrC:IR:=zq [zm 4 5] <| .ret
noncomputable def qrE:IR:=zq [za 4 (.const (.slice none 0 0)),zm 6 1,zE 7 (.call {callee:= .value (zt 6),args:= #[],argTypes:= #[]}) 9,zE 8 (.buildSlice 51 1 #[(0,(zt 7))]) 51,zm 5 8] <| .seq (.block 0 (.loop qrB)) (qrC)
def qDC:List Nat:=zV 16 [2,3]
theorem qDB:C2 154 17 qDC qrE [.tmp 4]:=c2 [] Tryz.func154
noncomputable def qnV:IR:= .reg [za 8 (zI .add (zv 8) (zK 1))]
noncomputable def qnU:IR:= .seq (.block 1 (.reg [za 11 (zM 3 (zx 3 (zv 6) (zv 8))),zA 5 53,zw 53 (zt 5) (zt 11),za 13 (zo 1 (zv 5)),zc 14 89 #[zt 3,zt 13] #[114,9] 127])) (qnV)
noncomputable def qhg:IR:=zq [za 9 (zI .lss (zv 8) (zv 7))] <| .seq (.cond (zv 9) .skip (.exit 0)) (qnU)
noncomputable def qnT:IR:=zq [zc 16 90 #[zt 3] #[114] 9,zm 2 16] <| .ret
noncomputable def qnW:IR:=zq [za 2 (.const (zs #[])),zA 3 114,zm 6 0,za 7 (zL (zv 6)),za 8 (zK 0)] <| .seq (.block 0 (.loop qhg)) (qnT)
def qAL:List Nat:=zV 17 [1,4,10,12,15]
theorem qAK:C1 73 17 qAL qnW [.tmp 2]:=c1 [] Tryz.func73
end Go.L02
namespace Go.L01
open Go Go.Eng Go.Proofs
set_option maxRecDepth 100000
set_option maxHeartbeats 2000000
noncomputable def qdX:IR:=zq [za 2 (zQ false),za 11 (.ite (zI .gtr (zT (zv 0)) (zK 0)) (zI .leq (zT (zv 0)) (zK 12)) (zQ false)),zg 11 true 13 (.op2 .ixs (zv 0) (zK 0)),zh 11 true 14 162 #[zt 13] #[188] 4,za 16 (.ite (zv 11) (zv 14) (zQ false)),zg 16 true 17 (zv 0),zh 16 true 18 163 #[zt 17,(.func 164)] #[9,190] 3,za 21 (.ite (zv 16) (zI .lss (zv 18) (zK 0)) (zQ false)),zg 21 true 22 (zv 0),zh 21 true 23 166 #[zt 22] #[9] 4,za 2 (.ite (zv 21) (zn (zv 23)) (zQ false))] <| .ret
def qAF:List Nat:=[0,2,11,13,14,16,17,18,21,22,23]
theorem qAE:C1 77 26 qAF qdX [.tmp 2]:=c1 [] Tryz.func77
noncomputable def qdW:IR:=zq [za 2 (zQ false),za 11 (.ite (zI .gtr (zT (zv 0)) (zK 0)) (zI .leq (zT (zv 0)) (zK 12)) (zQ false)),zg 11 true 13 (.op2 .ixs (zv 0) (zK 0)),zh 11 true 14 167 #[zt 13] #[5] 4,za 16 (.ite (zv 11) (zv 14) (zQ false)),zg 16 true 17 (zv 0),zh 16 true 18 168 #[zt 17] #[9] 3,za 23 (.ite (zv 16) (zI .eql (zv 18) (zT (zv 0))) (zQ false)),zg 23 true 24 (zv 0),zh 23 true 25 169 #[zt 24] #[9] 4,za 2 (.ite (zv 23) (zn (zv 25)) (zQ false))] <| .ret
def qAB:List Nat:=[0,2,11,13,14,16,17,18,23,24,25]
theorem qAA:C1 79 28 qAB qdW [.tmp 2]:=c1 [] Tryz.func79
noncomputable def qrl:IR:=zq [za 2 (zQ false),zc 3 233 #[] #[] 144,zm 4 0,zE 5 (.lookup 144 (zt 3) (zt 4) false) 4,zm 2 5] <| .ret
def qDj:List Nat:=zV 6 [1]
theorem qDi:C1 166 6 qDj qrl [.tmp 2]:=c1 [] Tryz.func166
noncomputable def qri:IR:=zq [za 2 (zQ false),zc 3 236 #[] #[] 51,zm 4 0,zc 5 235 #[zt 3,zt 4] #[51,9] 4,zm 2 5] <| .ret
def qDd:List Nat:=zV 6 [1]
theorem qDc:C1 169 6 qDd qri [.tmp 2]:=c1 [] Tryz.func169
noncomputable def qpk:IR:=zq [za 0 (.const (.slice none 0 0)),zc 1 332 #[zY #[97,110,100,32,97,114,114,97,121,32,98,101,103,105,110,32,98,111,111,108,32,98,114,101,97,107,32,99,108,117,115,116,101,114,32,100,111,32,100,111,119,110,32,101,108,115,101,32,101,108,115,101,105,102,32,101,110,100,32,101,120,99,101,112,116,32,102,97,108,115,101,32,102,111,114,32,104,97,115,32,105,102,32,105,110,32,105,110,116,32,105,115,32,105,116,101,114,32,109,111,100,32,110,105,108,32,110,111,116,32,110,117,108,108,32,111,110,101,111,102,32,111,114,32,111,116,104,101,114,115,32,112,114,111,99,32,112,117,116,32,114,101,99,111,114,100,32,114,101,112,32,114,101,116,117,114,110,32,114,101,116,117,114,110,115,32,115,105,103,110,97,108,32,115,105,103,110,97,108,115,32,116,97,103,32,116,97,103,99,97,115,101,32,116,104,101,110,32,116,114,117,101,32,117,112,32,118,97,114,32,119,104,101,110,32,119,104,101,114,101,32,119,104,105,108,101,32,121,105,101,108,100,32,121,105,101,108,100,115]] #[9] 51,zm 0 1] <| .ret
def qBF:List Nat:=[0,1]
theorem qBE:C0 286 2 qBF qpk [.tmp 0]:=c0 [] Tryz.func286
noncomputable def qp6:IR:=zq [za 0 (.const (.slice none 0 0)),zE 1 (.buildSlice 51 46 #[(0,(zY #[97,110,100])),(1,(zY #[97,114,114,97,121])),(2,(zY #[98,101,103,105,110])),(3,(zY #[98,111,111,108])),(4,(zY #[98,114,101,97,107])),(5,(zY #[99,108,117,115,116,101,114])),(6,(zY #[100,111])),(7,(zY #[100,111,119,110])),(8,(zY #[101,108,115,101])),(9,(zY #[101,108,115,101,105,102])),(10,(zY #[101,110,100])),(11,(zY #[101,120,99,101,112,116])),(12,(zY #[102,97,108,115,101])),(13,(zY #[102,111,114])),(14,(zY #[104,97,115])),(15,(zY #[105,102])),(16,(zY #[105,110])),(17,(zY #[105,110,116])),(18,(zY #[105,115])),(19,(zY #[105,116,101,114])),(20,(zY #[109,111,100])),(21,(zY #[110,105,108])),(22,(zY #[110,111,116])),(23,(zY #[110,117,108,108])),(24,(zY #[111,110,101,111,102])),(25,(zY #[111,114])),(26,(zY #[111,116,104,101,114,115])),(27,(zY #[112,114,111,99])),(28,(zY #[112,117,116])),(29,(zY #[114,101,99,111,114,100])),(30,(zY #[114,101,112])),(31,(zY #[114,101,116,117,114,110])),(32,(zY #[114,101,116,117,114,110,115])),(33,(zY #[115,105,103,110,97,108])),(34,(zY #[115,105,103,110,97,108,115])),(35,(zY #[116,97,103])),(36,(zY #[116,97,103,99,97,115,101])),(37,(zY #[116,104,101,110])),(38,(zY #[116,114,117,101])),(39,(zY #[117,112])),(40,(zY #[118,97,114])),(41,(zY #[119,104,101,110])),(42,(zY #[119,104,101,114,101])),(43,(zY #[119,104,105,108,101])),(44,(zY #[121,105,101,108,100])),(45,(zY #[121,105,101,108,100,115]))]) 51,zm 0 1] <| .ret
def qCl:List Nat:=[0,1]
theorem qCk:C0 236 2 qCl qp6 [.tmp 0]:=c0 [] Tryz.func236
noncomputable def qoV:IR:=zq [za 0 (.const (.slice none 0 0)),zc 2 332 #[zY #[36,32,40,32,41,32,42,32,43,32,44,32,45,32,46,32,47,32,58,32,58,61,32,59,32,60,32,60,61,32,61,32,63,32,91,32,93,32,95,32,123,32,125]] #[9] 51,zm 1 2,zm 3 1,zc 4 195 #[zt 3] #[51] 0,zm 0 1] <| .ret
def qBn:List Nat:=zV 5 []
theorem qBm:C0 310 6 qBn qoV [.tmp 0]:=c0 [] Tryz.func310
noncomputable def qpM:IR:=zq [za 0 (.const (.slice none 0 0)),zE 1 (.buildSlice 51 21 #[(0,(zY #[36])),(1,(zY #[40])),(2,(zY #[41])),(3,(zY #[42])),(4,(zY #[43])),(5,(zY #[44])),(6,(zY #[45])),(7,(zY #[46])),(8,(zY #[47])),(9,(zY #[58])),(10,(zY #[58,61])),(11,(zY #[59])),(12,(zY #[60])),(13,(zY #[60,61])),(14,(zY #[61])),(15,(zY #[63])),(16,(zY #[91])),(17,(zY #[93])),(18,(zY #[95])),(19,(zY #[123])),(20,(zY #[125]))]) 51,zm 0 1] <| .ret
def qB6:List Nat:=[0,1]
theorem qB5:C0 246 2 qB6 qpM [.tmp 0]:=c0 [] Tryz.func246
noncomputable def qn8:Code:=((Tryz.f53.body).getD .skip)
noncomputable def qn7:IR:= .ret
noncomputable def qoa:IR:=zq [za 2 (.const (.slice none 0 0)),zA 3 26,zm 8 0,zc 9 115 #[zt 8] #[9] 122,zm 7 9,za 10 (ze 0 (zv 7)),za 11 (ze 1 (zv 7)),za 12 (ze 2 (zv 7)),zA 6 26,zm 4 10,zm 5 11,zw 26 (zt 6) (zt 12)] <| .seq (.raw (qN qn8 2)) (qn7)
def qn9:List Nat:=zV 15 [1]
theorem qAY:C1 53 15 qn9 qoa [.tmp 2, .cellN 3 2]:=c1 [2] Tryz.func53
noncomputable def qn6:OT:=zy 13 (zv 4)<|zy 14 (zM 2 (zv 6))<|zy 2 (zv 13)<| .step (zw 26 (zt 3) (zt 14)) false<| .done
theorem qAX:vF Tryz.prog 15 qn9 3 (qN qn8 2)=some qn6:=by kernel_rfl
noncomputable def qoR:Code:=((Tryz.f33.body).getD .skip)
noncomputable def qoQ:IR:= .ret
noncomputable def qoT:IR:=zq [za 2 (.const (.slice none 0 0)),zA 3 26,zm 8 0,zc 9 87 #[zt 8] #[9] 122,zm 7 9,za 10 (ze 0 (zv 7)),za 11 (ze 1 (zv 7)),za 12 (ze 2 (zv 7)),zA 6 26,zm 4 10,zm 5 11,zw 26 (zt 6) (zt 12)] <| .seq (.raw (qN qoR 2)) (qoQ)
def qoS:List Nat:=zV 15 [1]
theorem qBj:C1 33 15 qoS qoT [.tmp 2, .cellN 3 2]:=c1 [2] Tryz.func33
noncomputable def qoP:OT:=zy 13 (zv 4)<|zy 14 (zM 2 (zv 6))<|zy 2 (zv 13)<| .step (zw 26 (zt 3) (zt 14)) false<| .done
theorem qBi:vF Tryz.prog 15 qoS 3 (qN qoR 2)=some qoP:=by kernel_rfl
noncomputable def qrp:IR:=zq [za 2 (zQ false),za 2 (.ite (zB .geq (zv 0) (.const (zu 97))) (zB .leq (zv 0) (.const (zu 122))) (zQ false))] <| .ret
def qDq:List Nat:=[0,2]
theorem qDp:C1 162 9 qDq qrp [.tmp 2]:=c1 [] Tryz.func162
noncomputable def qro:IR:=zq [za 4 (zK 0),zm 5 0,zm 6 1,zc 7 231 #[zt 5,zt 6,(.const (zb true))] #[9,190,4] 3,zm 4 7] <| .ret
def qDo:List Nat:=zV 8 [2,3]
theorem qDn:C2 163 8 qDo qro [.tmp 4]:=c2 [] Tryz.func163
noncomputable def qeo:IR:=zq [za 2 (zQ false),za 5 (.op2 (.ibin .gtr .i32) (zv 0) (.const (.int .i32 126))),zg 5 false 7 (.op1 (.conv .u8) (zv 0)),zh 5 false 8 165 #[zt 7] #[188] 4,za 2 (.ite (zv 5) (zQ true) (zn (zv 8)))] <| .ret
def qDm:List Nat:=[0,2,5,7,8]
theorem qrn:C1 164 11 qDm qeo [.tmp 2]:=c1 [] Tryz.func164
noncomputable def qrm:IR:=zq [za 2 (zQ false),zm 3 0,zc 4 162 #[zt 3] #[188] 4,zm 5 4,zg 5 false 6 (zv 0),zh 5 false 7 232 #[zt 6] #[188] 4,za 2 (.ite (zv 5) (zQ true) (zv 7))] <| .ret
def qDl:List Nat:=zV 8 [1]
theorem qDk:C1 165 9 qDl qrm [.tmp 2]:=c1 [] Tryz.func165
noncomputable def qrk:IR:=zq [za 2 (zQ false),za 2 (.ite (zB .geq (zv 0) (.const (zu 97))) (zB .leq (zv 0) (.const (zu 122))) (zQ false))] <| .ret
def qDh:List Nat:=[0,2]
theorem qDg:C1 167 9 qDh qrk [.tmp 2]:=c1 [] Tryz.func167
noncomputable def qil:IR:= .block 1 (.reg [za 3 (zI .add (zv 3) (zK 1))])
noncomputable def qij:IR:=zq [za 8 (zI .lss (zv 3) (zT (zv 0))),zg 8 true 11 (.op2 .ixs (zv 0) (zv 3)),zh 8 true 12 167 #[zt 11] #[5] 4,zg 8 true 13 (zv 12),zg 13 false 16 (.op2 .ixs (zv 0) (zv 3)),zh 13 false 17 234 #[zt 16] #[5] 4,za 19 (.ite (zv 8) (.ite (zv 13) (zQ true) (zv 17)) (zQ false))] <| .seq (.cond (zv 19) .skip (.exit 0)) (qil)
noncomputable def qik:IR:=zq [zm 2 3] <| .ret
noncomputable def qrj:IR:=zq [za 2 (zK 0),za 3 (zK 0)] <| .seq (.block 0 (.loop qij)) (qik)
def qDf:List Nat:=[0,2,3,8,11,12,13,16,17,19]
theorem qDe:C1 168 23 qDf qrj [.tmp 2]:=c1 [] Tryz.func168
noncomputable def qqe:IR:= .reg [za 7 (zI .add (zv 7) (zK 1))]
noncomputable def qqd:IR:= .seq (.block 1 (.reg [za 3 (zl (zx 1 (zv 5) (zv 7))),zm 11 1,zm 12 3, .eff none none (.mapUpdate 144 (zt 11) (zt 12) (.const (zb true))) 0])) (qqe)
noncomputable def qhY:IR:=zq [za 8 (zI .lss (zv 7) (zv 6))] <| .seq (.cond (zv 8) .skip (.exit 0)) (qqd)
noncomputable def qqc:IR:=zq [zm 0 1] <| .ret
noncomputable def qqf:IR:=zq [za 0 (.const (.map none)),zE 4 (.makeMap 144 none) 144,zm 1 4,zc 5 286 #[] #[] 51,za 6 (zL (zv 5)),za 7 (zK 0)] <| .seq (.block 0 (.loop qhY)) (qqc)
def qCr:List Nat:=zV 13 [2,9,10]
theorem qCq:C0 233 15 qCr qqf [.tmp 0]:=c0 [] Tryz.func233
noncomputable def qp9:IR:= .reg [za 5 (zI .add (zv 5) (zK 1))]
noncomputable def qp8:IR:= .seq (.block 1 (zq [za 17 (zS .eql (zl (zx 1 (zv 0) (zv 5))) (zv 1))] <| .cond (zv 17) (zq [za 4 (zQ true)] <| .ret) .skip)) (qp9)
noncomputable def qhX:IR:=zq [za 9 (zI .lss (zv 5) (zL (zv 0)))] <| .seq (.cond (zv 9) .skip (.exit 0)) (qp8)
noncomputable def qp7:IR:=zq [za 4 (zQ false)] <| .ret
noncomputable def qqa:IR:=zq [za 4 (zQ false),za 5 (zK 0)] <| .seq (.block 0 (.loop qhX)) (qp7)
def qCn:List Nat:=[0,1,4,5,9,17]
theorem qCm:C2 235 18 qCn qqa [.tmp 4]:=c2 [] Tryz.func235
noncomputable def qiD:Code:=((Tryz.f115.body).getD .skip)
noncomputable def qcd:Code:=(QI qiD).getD 0 .skip
noncomputable def qsn:IR:= .ret
noncomputable def qew:IR:= .seq (.raw (qN qiD 8)) (qsn)
noncomputable def qsm:IR:=zq [zE 11 (.makeFunc (.func 200) #[] #[zt 2,zt 3,zt 4]) 1, .eff none none (.defer {callee:= .value (zt 11),args:= #[],argTypes:= #[]}) 0,zm 12 0,zE 13 (.build 215 #[(0,(zt 12)),(2,(zO 1))]) 215,zE 14 (.build 217 #[(0,(zt 13))]) 217,zE 15 (.box 217 (zt 14)) 213,zm 5 15,zm 16 5,zE 17 (.makeFunc (.func 201) #[zt 16] #[]) 218] <| .seq (.block 0 (.raw qcd)) (qew)
noncomputable def qiE:IR:=zq [zA 2 48,zA 3 51,zA 4 26,za 9 (zI .gtr (zT (zv 0)) (zK 20000))] <| .seq (.cond (zv 9) (zq [zE 10 (.build 26 #[(0,(zO 2))]) 26,zw 48 (zt 2) (.const (.slice none 0 0)),zw 51 (zt 3) (.const (.slice none 0 0)),zw 26 (zt 4) (zt 10)] <| .ret) .skip) (qsm)
def yj:List Nat:=zV 29 [1,7,8]
noncomputable def qsp:IR:= .reg [zA 6 53,zw 53 (zt 6) (zt 18)]
noncomputable def qso:IR:= .block 1 (.reg [za 19 (zl (zv 2)),za 20 (zM 3 (zv 6)),zE 21 (.buildSlice 48 1 #[(0,(zt 20))]) 48,zp 22 #[zt 19,zt 21] #[48,48] 48,zw 48 (zt 2) (zt 22)])
theorem qEf:∃A B,qcd= .rangeFunc (.tmp 17) #[18] A B∧Part Tryz.prog 29 yj A qsp∧Part Tryz.prog 29 yj B qso:=
 ⟨rfA qcd,rfB qcd,by kernel_rfl,⟨by kernel_rfl,by kernel_rfl⟩,⟨by kernel_rfl,by kernel_rfl⟩⟩
theorem qEg:(qT Tryz.prog Tryz.f115.ntmps yj [8] (Tryz.f115.body.getD .skip)).map IR.norm=some qiE:=by kernel_rfl
theorem qEi {v0:Value} {w:World} {R:Ending→World→Prop} (h:∀ρ:qa,ρ 0=v0→ρ gS= .tuple #[]→qiE.wp ⟨Tryz.prog,29,yj,z6⟩ (jD Tryz.prog [.cell1 2, .cell1 3, .cellN 4 2] R .returning) (vC Tryz.prog [.cell1 2, .cell1 3, .cellN 4 2] R) ρ w):
  Calls Tryz.prog 115 #[v0] w R:=by
 obtain ⟨e,a,b⟩:=Option.map_eq_some_iff.1 qEg;exact qeX (args:= #[v0]) Tryz.func115 (c:=(Tryz.f115.body.getD .skip)) rfl a b (by kernel_rfl) (show vc Tryz.prog yj Tryz.f115.results.toList=some [.cell1 2, .cell1 3, .cellN 4 2] by kernel_rfl) (Nat.le_of_ble_eq_true rfl) (h _ rfl rfl)
noncomputable def qiC:OT:=zy 23 (zl (zv 2))<|zy 24 (zv 5)<|zy 25 (zN (zv 24))<|zy 26 (zf 3 (zv 25))<|zy 27 (zl (zv 26))<| .both (.step (zE 28 (.build 26 #[]) 26) true<| .step (zw 48 (zt 2) (zt 23)) true<| .step (zw 51 (zt 3) (zt 27)) true<| .step (zw 26 (zt 4) (zt 28)) false<| .done)<| .step (zw 48 (zt 2) (zt 23)) true<| .both (.step (zE 28 (.build 26 #[]) 26) true<| .step (zw 51 (zt 3) (zt 27)) true<| .step (zw 26 (zt 4) (zt 28)) false<| .done)<| .step (zw 51 (zt 3) (zt 27)) true<| .step (zE 28 (.build 26 #[]) 26) true<| .step (zw 26 (zt 4) (zt 28)) false<| .done
theorem qEh:vF Tryz.prog 29 yj 8 (qN qiD 8)=some qiC:=by kernel_rfl
noncomputable def qnn:IR:= .reg [zm 37 5,zm 38 10,za 44 (.op3 .stLoHi (zv 0) (zv 8) (zI .add (zv 8) (zv 11))),zm 45 7,zE 46 (.build 53 #[(0,(zt 38)),(1,(zt 44)),(2,(zt 45))]) 53,zE 47 (.buildSlice 48 1 #[(0,(zt 46))]) 48,zp 48 #[zt 37,zt 47] #[48,48] 48,zm 5 48,za 8 (zI .add (zv 8) (zv 11))]
noncomputable def qb0:IR:= .cond (zv 58) (.reg [za 8 (zI .add (zv 8) (zK 1))]) (zq [za 63 (zB .eql (zv 23) (.const (zu 37)))] <| .cond (zv 63) (.reg [za 67 (.op2 .stLo (zv 0) (zv 8)),zc 68 175 #[zt 67] #[9] 3,zm 9 68,zm 69 6,za 75 (.op3 .stLoHi (zv 0) (zv 8) (zI .add (zv 8) (zv 9))),zE 76 (.buildSlice 51 1 #[(0,(zt 75))]) 51,zp 77 #[zt 69,zt 76] #[51,51] 51,zm 6 77,za 8 (zI .add (zv 8) (zv 9))]) (zq [za 27 (.op2 .stLo (zv 0) (zv 8)),zc 28 176 #[zt 27] #[9] 194,zm 24 28,za 29 (ze 0 (zv 24)),za 30 (ze 1 (zv 24)),za 31 (ze 2 (zv 24)),zm 10 29,zm 11 30,zm 12 31,za 33 (zI .neq (zv 12) (zK 0))] <| .seq (.cond (zv 33) (zq [zm 34 12,zm 35 7,zE 36 (.build 26 #[(0,(zt 34)),(1,(zt 35))]) 26,za 2 (.const (.slice none 0 0)),za 3 (.const (.slice none 0 0)),zw 26 (zt 4) (zt 36)] <| .ret) .skip) (qnn)))
noncomputable def qnm:IR:= .block 1 (zq [za 23 (.op2 .ixs (zv 0) (zv 8))] <| .block 2 (zq [za 52 (zB .eql (zv 23) (.const (zu 10)))] <| .cond (zv 52) (.reg [za 7 (zI .add (zv 7) (zK 1)),za 8 (zI .add (zv 8) (zK 1))]) (zq [za 58 (zB .eql (zv 23) (.const (zu 32)))] <| .seq (.cond (zv 58) .skip (.reg [za 58 (zB .eql (zv 23) (.const (zu 9)))])) (qb0))))
noncomputable def qhb:IR:=zq [za 20 (zI .lss (zv 8) (zT (zv 0)))] <| .seq (.cond (zv 20) .skip (.exit 0)) (qnm)
noncomputable def qnl:IR:=zq [zm 81 5,zm 82 6,zE 83 (.build 26 #[]) 26,zm 2 81,zm 3 82,zw 26 (zt 4) (zt 83)] <| .ret
noncomputable def qnk:IR:=zq [za 5 (.const (.slice none 0 0)),za 6 (.const (.slice none 0 0)),za 7 (zK 1),za 8 (zK 0)] <| .seq (.block 0 (.loop qhb)) (qnl)
noncomputable def qno:IR:=zq [za 2 (.const (.slice none 0 0)),za 3 (.const (.slice none 0 0)),zA 4 26,za 15 (zI .gtr (zT (zv 0)) (zK 20000))] <| .seq (.cond (zv 15) (zq [zE 16 (.build 26 #[(0,(zO 2))]) 26,za 2 (.const (.slice none 0 0)),za 3 (.const (.slice none 0 0)),zw 26 (zt 4) (zt 16)] <| .ret) .skip) (qnk)
def qAr:List Nat:=zV 84 [1,13,14,17,18,19,21,22,25,26,32,39,40,41,42,43,49,50,51,53,54,55,56,57,59,60,61,62,64,65,66,70,71,72,73,74,78,79,80]
theorem qAq:C1 87 84 qAr qno [.tmp 2, .tmp 3, .cellN 4 2]:=c1 [] Tryz.func87
noncomputable def qqj:IR:= .block 1 (zq [za 13 (ze 1 (zv 11)),za 14 (ze 2 (zv 11)),zm 7 13,zm 8 14,zm 15 1,zm 16 8,zE 17 (.call {callee:= .value (zt 15),args:= #[zt 16],argTypes:= #[21]}) 4,za 19 (.op2 (.bbin .eql) (zv 17) (zv 2))] <| .cond (zv 19) (zq [zm 6 7] <| .ret) .skip)
noncomputable def qqh:IR:=zq [zE 11 (.next (zt 10) true) 0,za 12 (ze 0 (zv 11))] <| .seq (.cond (zv 12) .skip (.exit 0)) (qqj)
noncomputable def qqi:IR:=zq [za 6 (.const (.int .i64 (-1)))] <| .ret
noncomputable def qqk:IR:=zq [za 6 (zK 0),zm 9 0,zE 10 (.range 9 (zt 9)) 0] <| .seq (.block 0 (.loop qqh)) (qqi)
def qCv:List Nat:=zV 20 [3,4,5,18]
theorem qCu:C3 231 21 qCv qqk [.tmp 6]:=c3 [] Tryz.func231
noncomputable def qqg:IR:=zq [za 2 (zQ false),za 2 (.ite (zB .geq (zv 0) (.const (zu 48))) (zB .leq (zv 0) (.const (zu 57))) (zQ false))] <| .ret
def qCt:List Nat:=[0,2]
theorem qCs:C1 232 9 qCt qqg [.tmp 2]:=c1 [] Tryz.func232
noncomputable def qqb:IR:=zq [za 2 (zQ false),za 2 (.ite (zB .geq (zv 0) (.const (zu 48))) (zB .leq (zv 0) (.const (zu 57))) (zQ false))] <| .ret
def qCp:List Nat:=[0,2]
theorem qCo:C1 234 9 qCp qqb [.tmp 2]:=c1 [] Tryz.func234
noncomputable def qqU:IR:= .reg [zm 18 0,zc 19 266 #[zt 18] #[213] 0]
noncomputable def qqT:IR:= .seq (.block 1 (zq [zm 20 1,zm 21 0,zc 22 267 #[zt 21] #[213] 53,zE 23 (.call {callee:= .value (zt 20),args:= #[zt 22],argTypes:= #[53]}) 4,za 24 (zn (zv 23))] <| .cond (zv 24) (.ret) .skip)) (qqU)
noncomputable def qh7:IR:= .seq (.cond (zv 17) .skip (.exit 0)) (qqT)
noncomputable def qh6:IR:= .seq (.drw [za 17 (zI .lss (zo 1 (zf 0 (zN (zv 0)))) (zT (zo 0 (zf 0 (zN (zv 0))))))]) (qh7)
noncomputable def qqV:IR:=zq [zm 4 0,zc 5 266 #[zt 4] #[213] 0] <| .block 0 (.loop qh6)
def qCX:List Nat:=[0,1,4,5,17,18,19,20,21,22,23,24]
theorem qCW:C2 201 25 qCX qqV []:=c2 [] Tryz.func201
noncomputable def qrb:IR:= .block 1 (.reg [za 3 (zI .add (zv 3) (zK 1))])
noncomputable def qig:IR:=zq [za 13 (.ite (zI .lss (zv 3) (zT (zv 0))) (zB .neq (.op2 .ixs (zv 0) (zv 3)) (.const (zu 10))) (zQ false))] <| .seq (.cond (zv 13) .skip (.exit 0)) (qrb)
noncomputable def qih:IR:=zq [zm 2 3] <| .ret
noncomputable def qrc:IR:=zq [za 2 (zK 0),za 3 (zK 0)] <| .seq (.block 0 (.loop qig)) (qih)
def qDa:List Nat:=[0,2,3,13]
theorem qC9:C1 175 17 qDa qrc [.tmp 2]:=c1 [] Tryz.func175
noncomputable def qel:Code:=((Tryz.f176.body).getD .skip)
noncomputable def qq9:IR:=zq [zm 21 6,za 2 (.const (zu 1)),zm 3 21,za 4 (zK 0)] <| .ret
noncomputable def qif:IR:=zq [za 20 (zI .gtr (zv 6) (zK 12))] <| .seq (.cond (zv 20) (zq [za 2 (.const (zu 0)),za 3 (zK 0),za 4 (zK 12)] <| .ret) .skip) (qq9)
noncomputable def qq8:IR:=zq [zm 31 7,za 2 (.const (zu 3)),zm 3 31,za 4 (zK 0)] <| .ret
noncomputable def qq7:IR:=zq [za 2 (.const (zu 0)),za 3 (zK 0),za 4 (zK 10)] <| .ret
noncomputable def qie:IR:= .seq (.cond (zv 44) (zq [za 2 (.const (zu 4)),za 3 (zK 1),za 4 (zK 0)] <| .ret) .skip) (qq7)
noncomputable def qid:IR:= .seq (.raw (qN qel 16)) (qie)
noncomputable def qek:IR:= .seq (.cond (zv 40) (zq [za 2 (.const (zu 4)),za 3 (zK 2),za 4 (zK 0)] <| .ret) .skip) (qid)
noncomputable def qq6:IR:= .seq (.raw (qN qel 14)) (qek)
noncomputable def qq5:IR:=zq [zm 22 5,zc 23 234 #[zt 22] #[5] 4] <| .seq (.cond (zv 23) (zq [zm 24 0,zc 25 244 #[zt 24] #[9] 3,zm 7 25,za 28 (.op3 .stLoHi (zv 0) (zK 0) (zv 7)),zc 29 245 #[zt 28] #[9] 4,za 30 (zn (zv 29))] <| .seq (.cond (zv 30) (zq [za 2 (.const (zu 0)),za 3 (zK 0),za 4 (zK 11)] <| .ret) .skip) (qq8)) .skip) (qq6)
noncomputable def qra:IR:=zq [za 2 (.const (zu 0)),za 3 (zK 0),za 4 (zK 0),za 5 (.op2 .ixs (zv 0) (zK 0)),zm 10 5,zc 11 167 #[zt 10] #[5] 4] <| .seq (.cond (zv 11) (zq [zm 12 0,zc 13 168 #[zt 12] #[9] 3,zm 6 13,za 16 (.op3 .stLoHi (zv 0) (zK 0) (zv 6)),zc 17 169 #[zt 16] #[9] 4] <| .seq (.cond (zv 17) (zq [zm 18 6,za 2 (.const (zu 2)),zm 3 18,za 4 (zK 0)] <| .ret) .skip) (qif)) .skip) (qq5)
def qem:List Nat:=zV 45 [1,8,9,14,15,19,26,27]
theorem qC8:C1 176 45 qem qra [.tmp 2, .tmp 3, .tmp 4]:=c1 [16,14] Tryz.func176
noncomputable def qic:OT:=zy 32 (zv 0)<|zy 33 (zT (zv 32))<|zy 34 (zI .gtr (zv 33) (zK 1))<|zy 35 (zv 34)<| .take (some (35,true)) 37 (zv 0)<| .take (some (35,true)) 38 (.op3 .stLoHi (zv 37) (zK 0) (zK 2))<| .step (zh 35 true 36 246 #[] #[] 51) true<| .step (zh 35 true 39 235 #[zt 36,zt 38] #[51,9] 4) false<| .step (za 40 (.ite (zv 35) (zv 39) (zQ false))) false<| .done
theorem qC7:vF Tryz.prog 45 qem 7 (qN qel 14)=some qic:=by kernel_rfl
noncomputable def qq4:OT:=zy 42 (zv 0)<|zy 43 (.op3 .stLoHi (zv 42) (zK 0) (zK 1))<| .step (zc 41 246 #[] #[] 51) true<| .step (zc 44 235 #[zt 41,zt 43] #[51,9] 4) false<| .done
theorem qC6:vF Tryz.prog 45 qem 3 (qN qel 16)=some qq4:=by kernel_rfl
noncomputable def qo3:IR:=zq [za 2 (zQ false),zm 6 0,zc 7 273 #[zt 6] #[9] 127,zm 5 7,za 8 (ze 0 (zv 5)),za 9 (ze 1 (zv 5)),zm 3 8,zm 4 9,zm 10 4,zE 11 (.binOp .eql 126 (zt 10) (.const .nilIface) 126) 4,za 20 (.ite (.ite (zv 11) (zI .geq (zv 3) (zK 0)) (zQ false)) (zI .leq (zv 3) (zK 1000000000)) (zQ false)),zg 20 true 21 (zv 3),zh 20 true 22 171 #[zt 21] #[3] 9,za 2 (.ite (zv 20) (zS .eql (zv 22) (zv 0)) (zQ false))] <| .ret
def qBr:List Nat:=zV 23 [1,12,13,14,15,16,17,18,19]
theorem qBq:C1 309 26 qBr qo3 [.tmp 2]:=c1 [] Tryz.func309
noncomputable def qep:IR:=zq [za 4 (zQ false),zm 5 0,zm 6 1,zc 7 229 #[zt 5,zt 6] #[51,9] 3,za 4 (zI .geq (zv 7) (zK 0))] <| .ret
def qim:List Nat:=zV 8 [2,3]
theorem qrq:C2 160 9 qim qep [.tmp 4]:=c2 [] Tryz.func160
noncomputable def qd8:IR:=zq [za 2 (.ite (zI .lss (zT (zv 0)) (zK 10)) (zQ true) (zS .eql (zv 0) (.const (zs #[49,48,48,48,48,48,48,48,48,48]))))] <| .ret
noncomputable def qd9:IR:=zq [za 2 (zQ false),za 11 (.ite (zI .eql (zT (zv 0)) (zK 0)) (zQ true) (zI .gtr (zT (zv 0)) (zK 10))),zg 11 false 12 (zv 0),zh 11 false 13 244 #[zt 12] #[9] 3,za 27 (.ite (.ite (zv 11) (zQ true) (zI .neq (zv 13) (zT (zv 0)))) (zQ true) (.ite (zI .gtr (zT (zv 0)) (zK 1)) (zB .eql (.op2 .ixs (zv 0) (zK 0)) (.const (zu 48))) (zQ false)))] <| .seq (.cond (zv 27) (zq [za 2 (zQ false)] <| .ret) .skip) (qd8)
def qpN:List Nat:=[0,2,11,12,13,27]
theorem qB7:C1 245 35 qpN qd9 [.tmp 2]:=c1 [] Tryz.func245
noncomputable def qd4:Code:=(qbl ((Tryz.f266.body).getD .skip))
noncomputable def qhI:IR:= .raw (qN qd4 8)
noncomputable def qhH:IR:= .cond (zv 36) (zq [za 51 (zf 0 (zN (zv 0))),zc 52 306 #[zt 51] #[215] 9,zc 53 305 #[zt 52,(.const (zu 10))] #[9,5] 3,zm 3 53,za 55 (zI .lss (zv 3) (zK 0))] <| .seq (.cond (zv 55) (.reg [za 58 (zf 0 (zN (zv 0))),zc 59 306 #[zt 58] #[215] 9,za 3 (zT (zv 59))]) .skip) (qhI)) (.exit 0)
noncomputable def qd3:IR:= .cond (zv 18) (.reg [za 34 (zf 0 (zN (zv 0))),zc 35 304 #[zt 34,zO 1] #[215,3] 9]) (.seq (.drw [za 36 (zB .eql (.op2 .ixs (zo 0 (zf 0 (zN (zv 0)))) (zo 1 (zf 0 (zN (zv 0))))) (.const (zu 37)))]) (qhH))
noncomputable def qpz:IR:= .block 1 (.block 2 (.seq (.raw (qN qd4 2)) (qd3)))
noncomputable def qhG:IR:= .seq (.cond (zv 17) .skip (.exit 0)) (qpz)
noncomputable def qhF:IR:= .seq (.drw [za 17 (zI .lss (zo 1 (zf 0 (zN (zv 0)))) (zT (zo 0 (zf 0 (zN (zv 0))))))]) (qhG)
noncomputable def qpy:IR:= .block 0 (.loop qhF)
noncomputable def qhJ:IR:=zq [zc 4 303 #[] #[] 289,zE 5 (.index 289 (zt 4) (zO 2)) 288,zm 2 5] <| .seq (.raw (.label 0)) (qpy)
def qaC:List Nat:=zV 75 [1,6,7,8,9,10,11,12,13,14,15,16,32,33,37,38,39,40,41,42,43,44,45,46,47,48,49,50,54,56,57,60]
theorem qBU:(qT Tryz.prog Tryz.f266.ntmps qaC [8,2] (qbl (Tryz.f266.body.getD .skip))).map IR.norm=some qhJ:=by kernel_rfl
theorem qBX {v0:Value} {w:World} {R:Ending→World→Prop} (h:∀ρ:qa,ρ 0=v0→qhJ.wp ⟨Tryz.prog,75,qaC,[]⟩ (qw [] R) (qF [] R) ρ w):
  Calls Tryz.prog 266 #[v0] w R:=by
 obtain ⟨e,a,b⟩:=Option.map_eq_some_iff.1 qBU;exact qjp (args:= #[v0]) Tryz.func266 (c:=(qbl (Tryz.f266.body.getD .skip))) rfl a b (by kernel_rfl) (show vc Tryz.prog qaC Tryz.f266.results.toList=some [] by kernel_rfl) (Nat.le_of_ble_eq_true rfl) (h _ rfl)
noncomputable def qpx:OT:=zy 19 (zv 2)<|zy 20 (zv 0)<|zy 21 (zN (zv 20))<|zy 22 (zf 0 (zv 21))<|zy 23 (zf 0 (zv 22))<|zy 24 (zl (zv 23))<|zy 25 (zv 0)<|zy 26 (zN (zv 25))<|zy 27 (zf 0 (zv 26))<|zy 28 (zf 1 (zv 27))<|zy 29 (zl (zv 28))<|zy 30 (.op2 .ixs (zv 24) (zv 29))<| .step (zE 31 (.call {callee:= .value (zt 19),args:= #[zt 30],argTypes:= #[188]}) 4) false<| .step (zm 18 31) false<| .done
theorem qBW:vF Tryz.prog 75 qaC 12 (qN qd4 2)=some qpx:=by kernel_rfl
noncomputable def qpw:OT:=zy 61 (zv 0)<|zy 62 (zv 0)<|zy 63 (zN (zv 62))<|zy 64 (zf 3 (zv 63))<|zy 65 (zl (zv 64))<|zy 66 (zv 0)<|zy 67 (zN (zv 66))<|zy 68 (zf 0 (zv 67))<|zy 69 (zv 3)<| .step (zc 70 304 #[zt 68,zt 69] #[215,3] 9) true<| .step (zE 71 (.buildSlice 51 1 #[(0,(zt 70))]) 51) true<| .step (zp 72 #[zt 65,zt 71] #[51,51] 51) true<| .step (za 73 (zN (zv 61))) false<| .step (za 74 (zf 3 (zv 73))) false<| .step (zw 51 (zt 74) (zt 72)) false<| .done
theorem qBV:vF Tryz.prog 75 qaC 12 (qN qd4 8)=some qpw:=by kernel_rfl
noncomputable def qaB:Code:=((Tryz.f267.body).getD .skip)
noncomputable def qBS:IR:= .reg [za 83 (zf 0 (zN (zv 0))),zm 84 6,zc 85 304 #[zt 83,zt 84] #[215,3] 9,za 86 (zf 1 (zv 3)),zw 9 (zt 86) (zt 85)]
noncomputable def qhE:IR:=zq [za 69 (zf 0 (zN (zv 0))),zc 70 306 #[zt 69] #[215] 9,za 7 (.op3 .stLoHi (zv 70) (zK 0) (zv 6)),za 73 (zf 0 (zv 3)),zw 5 (zt 73) (.const (zu 1)),zm 74 7,zc 75 166 #[zt 74] #[9] 4] <| .seq (.cond (zv 75) (.reg [za 76 (zf 0 (zv 3)),zw 5 (zt 76) (.const (zu 2))]) (zq [za 78 (zI .gtr (zv 6) (zK 12))] <| .cond (zv 78) (.reg [zm 79 0,zc 80 308 #[zt 79,zO 12] #[213,24] 0]) .skip)) (qBS)
noncomputable def qpt:IR:= .reg [za 106 (zf 0 (zv 3)),zw 5 (zt 106) (.const (zu 3)),za 109 (zf 0 (zN (zv 0))),zm 110 8,zc 111 304 #[zt 109,zt 110] #[215,3] 9,za 112 (zf 1 (zv 3)),zw 9 (zt 112) (zt 111)]
noncomputable def qhD:IR:=zq [za 98 (zf 0 (zN (zv 0))),zc 99 306 #[zt 98] #[215] 9,za 101 (.op3 .stLoHi (zv 99) (zK 0) (zv 8)),zc 102 309 #[zt 101] #[9] 4,za 103 (zn (zv 102))] <| .seq (.cond (zv 103) (.reg [zm 104 0,zc 105 308 #[zt 104,zO 11] #[213,24] 0]) .skip) (qpt)
noncomputable def qhC:IR:= .reg [za 32 (zI .add (zv 32) (zK 1))]
noncomputable def qps:IR:= .seq (.block 2 (zq [za 11 (zl (zx 1 (zv 30) (zv 32))),za 38 (zf 0 (zN (zv 0))),zc 39 306 #[zt 38] #[215] 9,zm 40 11,zc 41 311 #[zt 39,zt 40] #[9,9] 4] <| .cond (zv 41) (.reg [zm 42 9,za 44 (zT (zv 11)),zE 45 (.call {callee:= .builtin .max,args:= #[zt 42,zt 44],argTypes:= #[3,3]}) 3,zm 9 45]) .skip)) (qhC)
noncomputable def qb6:IR:=zq [za 33 (zI .lss (zv 32) (zv 31))] <| .seq (.cond (zv 33) .skip (.exit 1)) (qps)
noncomputable def qpr:IR:= .reg [za 51 (zf 0 (zv 3)),zw 5 (zt 51) (.const (zu 4)),za 54 (zf 0 (zN (zv 0))),zm 55 9,zc 56 304 #[zt 54,zt 55] #[215,3] 9,za 57 (zf 1 (zv 3)),zw 9 (zt 57) (zt 56)]
noncomputable def qd2:IR:=zq [za 48 (zI .eql (zv 9) (zK 0))] <| .seq (.cond (zv 48) (.reg [zm 49 0,zc 50 308 #[zt 49,zO 10] #[213,24] 0]) .skip) (qpr)
noncomputable def Q3:IR:=zq [za 113 (zM 3 (zv 3)),zw 53 (zt 2) (zt 113)] <| .ret
noncomputable def qpu:IR:= .seq (.block 0 (zq [zm 59 5,zc 60 162 #[zt 59] #[188] 4,zm 58 60] <| .cond (zv 58) (.seq (.raw (qN qaB 16)) (qhE)) (zq [zm 88 5,zc 89 232 #[zt 88] #[188] 4,zm 87 89] <| .cond (zv 87) (.seq (.raw (qN qaB 25)) (qhD)) (zq [za 9 (zK 0),zc 30 310 #[] #[] 51,za 31 (zL (zv 30)),za 32 (zK 0)] <| .seq (.block 1 (.loop qb6)) (qd2))))) (Q3)
noncomputable def qpv:IR:=zq [zA 2 53,za 16 (zo 2 (zf 0 (zN (zv 0)))),zE 17 (.build 53 #[(2,(zt 16))]) 53,zA 3 53,zw 53 (zt 3) (zt 17),zc 18 303 #[] #[] 289,zA 4 289,zw 289 (zt 4) (zt 18)] <| .seq (.drw [za 5 (.op2 .ixs (zo 0 (zf 0 (zN (zv 0)))) (zo 1 (zf 0 (zN (zv 0)))))]) (qpu)
def xA:List Nat:=zV 114 [1,10,12,13,14,15,19,20,21,22,23,24,25,26,27,28,29,34,35,36,37,43,46,47,52,53,67,68,71,72,77,81,82,96,97,100,107,108]
theorem qBT:C1 267 114 xA qpv [.cellN 2 3]:=c1 [25,16] Tryz.func267
noncomputable def qpq:OT:=zy 61 (zv 0)<|zy 62 (zN (zv 61))<|zy 63 (zf 0 (zv 62))<| .step (zE 64 (.indexAddr 289 (zt 4) (zO 0)) 0) true<|zy 65 (zl (zv 64))<| .step (zc 66 307 #[zt 63,zt 65] #[215,288] 3) false<| .step (zm 6 66) false<| .done
theorem qBR:vF Tryz.prog 114 xA 5 (qN qaB 16)=some qpq:=by kernel_rfl
noncomputable def qpp:OT:=zy 90 (zv 0)<|zy 91 (zN (zv 90))<|zy 92 (zf 0 (zv 91))<| .step (zE 93 (.indexAddr 289 (zt 4) (zO 1)) 0) true<|zy 94 (zl (zv 93))<| .step (zc 95 307 #[zt 92,zt 94] #[215,288] 3) false<| .step (zm 8 95) false<| .done
theorem qBQ:vF Tryz.prog 114 xA 5 (qN qaB 25)=some qpp:=by kernel_rfl
noncomputable def qpO:IR:= .block 1 (.reg [za 3 (zI .add (zv 3) (zK 1))])
noncomputable def qhN:IR:=zq [za 8 (zI .lss (zv 3) (zT (zv 0))),zg 8 true 11 (.op2 .ixs (zv 0) (zv 3)),zh 8 true 12 234 #[zt 11] #[5] 4,za 13 (.ite (zv 8) (zv 12) (zQ false))] <| .seq (.cond (zv 13) .skip (.exit 0)) (qpO)
noncomputable def qhO:IR:=zq [zm 2 3] <| .ret
noncomputable def qpP:IR:=zq [za 2 (zK 0),za 3 (zK 0)] <| .seq (.block 0 (.loop qhN)) (qhO)
def qB9:List Nat:=[0,2,3,8,11,12,13]
theorem qB8:C1 244 17 qB9 qpP [.tmp 2]:=c1 [] Tryz.func244
noncomputable def qeh:IR:= .reg [za 8 (zI .add (zv 8) (zK 1))]
noncomputable def qeg:IR:= .seq (.block 1 (zq [zm 5 8,za 16 (zS .eql (zv 1) (zl (zx 1 (zv 0) (zv 5))))] <| .cond (zv 16) (zq [zm 4 5] <| .ret) .skip)) (qeh)
noncomputable def qca:IR:=zq [za 9 (zI .lss (zv 8) (zv 7))] <| .seq (.cond (zv 9) .skip (.exit 0)) (qeg)
noncomputable def qef:IR:=zq [za 4 (.const (.int .i64 (-1)))] <| .ret
noncomputable def qei:IR:=zq [za 4 (zK 0),za 7 (zL (zv 0)),za 8 (zK 0)] <| .seq (.block 0 (.loop qca)) (qef)
def qhZ:List Nat:=[0,1,4,5,7,8,9,16]
theorem qqn:C2 229 19 qhZ qei [.tmp 4]:=c2 [] Tryz.func229
noncomputable def qph:IR:=zq [zA 0 289,zE 1 (.build 289 #[(0,(.func 165)),(1,(.func 232)),(2,(.func 346))]) 289,zw 289 (zt 0) (zt 1)] <| .ret
def qBB:List Nat:=[0,1]
theorem qBA:C0 303 2 qBB qph [.cellN 0 3]:=c0 [] Tryz.func303
noncomputable def qpe:Code:=((Tryz.f304.body).getD .skip)
noncomputable def qpd:IR:=zq [zm 30 0,za 35 (zI .add (zo 1 (zN (zv 30))) (zv 1)),za 37 (zf 1 (zN (zv 30))),zw 3 (zt 37) (zt 35),zm 4 5] <| .ret
noncomputable def qpc:IR:= .seq (.raw (qN qpe 2)) (qpd)
noncomputable def qpg:IR:=zq [za 4 (.const (zs #[]))] <| .seq (.drw [za 5 (.op3 .stLoHi (zo 0 (zN (zv 0))) (zo 1 (zN (zv 0))) (zI .add (zo 1 (zN (zv 0))) (zv 1)))]) (qpc)
def qpf:List Nat:=[0,1,4,5,21,22,23,24,25,26,27,28,29,30,35,37]
theorem qBz:C2 304 39 qpf qpg [.tmp 4]:=c2 [2] Tryz.func304
noncomputable def qpb:OT:=zy 21 (zv 0)<|zy 22 (zN (zv 21))<|zy 23 (zf 2 (zv 22))<|zy 24 (zl (zv 23))<|zy 25 (zv 5)<| .step (zc 26 198 #[zt 25,zY #[10]] #[9,9] 3) true<| .step (za 27 (zI .add (zv 24) (zv 26))) false<| .step (za 28 (zN (zv 21))) false<| .step (za 29 (zf 2 (zv 28))) false<| .step (zw 3 (zt 29) (zt 27)) false<| .done
theorem qBy:vF Tryz.prog 39 qpf 6 (qN qpe 2)=some qpb:=by kernel_rfl
noncomputable def qo9:IR:= .ret
noncomputable def qpa:IR:=zq [za 2 (.const (zs #[]))] <| .seq (.drw [za 2 (.op2 .stLo (zo 0 (zN (zv 0))) (zo 1 (zN (zv 0))))]) (qo9)
def qBx:List Nat:=[0,2]
theorem qBw:C1 306 12 qBx qpa [.tmp 2]:=c1 [] Tryz.func306
noncomputable def qo7:IR:= .reg [za 11 (zI .add (zv 11) (zK 1))]
noncomputable def qo6:IR:= .seq (.block 1 (zq [zm 6 11,zm 14 1,za 17 (.op2 .ixs (zv 5) (zv 6)),zE 18 (.call {callee:= .value (zt 14),args:= #[zt 17],argTypes:= #[188]}) 4,za 19 (zn (zv 18))] <| .cond (zv 19) (zq [zm 4 6] <| .ret) .skip)) (qo7)
noncomputable def qhz:IR:=zq [za 12 (zI .lss (zv 11) (zv 10))] <| .seq (.cond (zv 12) .skip (.exit 0)) (qo6)
noncomputable def qo5:IR:=zq [za 4 (zT (zv 5))] <| .ret
noncomputable def qo8:IR:=zq [za 4 (zK 0),zm 7 0,zc 8 306 #[zt 7] #[318] 9,zm 5 8,za 10 (zT (zv 5)),za 11 (zK 0)] <| .seq (.block 0 (.loop qhz)) (qo5)
def qBv:List Nat:=zV 20 [2,3,9,13,15,16]
theorem qBu:C2 307 24 qBv qo8 [.tmp 4]:=c2 [] Tryz.func307
noncomputable def qo4:IR:= .reg [zm 4 1,za 9 (zo 2 (zf 0 (zN (zv 0)))),zE 10 (.build 26 #[(0,(zt 4)),(1,(zt 9))]) 26,zE 11 (.build 212 #[(0,(zt 10))]) 212,za 12 (.op1 (.mkif 212) (zv 11)), .eff none none (.panic (zt 12)) 0]
def qBt:List Nat:=[0,1,4,9,10,11,12]
theorem qBs:C2 308 13 qBt qo4 []:=c2 [] Tryz.func308
noncomputable def qoO:IR:=zq [za 2 (zQ false),za 2 (.ite (.ite (zB .eql (zv 0) (.const (zu 32))) (zQ true) (zB .eql (zv 0) (.const (zu 9)))) (zQ true) (zB .eql (zv 0) (.const (zu 10))))] <| .ret
def qBh:List Nat:=[0,2]
theorem qBg:C1 346 13 qBh qoO [.tmp 2]:=c1 [] Tryz.func346
noncomputable def qha:IR:=zq [za 4 (zK 0),za 5 (.const .nilIface),zm 6 0,zc 7 177 #[zt 6] #[111] 0,zm 8 0,za 12 (zo 1 (zN (zv 0))),zm 13 1,zp 14 #[zt 12,zt 13] #[112,9] 112,za 16 (zf 1 (zN (zv 8))),zw 112 (zt 16) (zt 14),za 4 (zT (zv 1)),za 5 (.const .nilIface)] <| .ret
def qAp:List Nat:=zV 17 [2,3,9,10,11,15]
theorem qnj:C2 89 19 qAp qha [.tmp 4, .tmp 5]:=c2 [] Tryz.func89
end Go.L01
