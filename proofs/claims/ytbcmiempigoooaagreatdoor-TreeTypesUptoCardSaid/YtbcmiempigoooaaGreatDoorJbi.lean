/- Texts of mine for the claims about layer 2 (tree), joined: L02Ia, L1I. -/
import Derived.Test.YtbcmiempigoooaaGreatDoorJbh
import Derived.Test.YtbcmiempigoooaaGreatDoorProg
import Derived.KernelRfl
set_option linter.all false
set_option linter.unusedSimpArgs false
set_option linter.unusedVariables false
namespace Go.Eng
open Go Go.Proofs
theorem sE {V:List Nat} {args:Array Value} {i:Nat} (h:V.contains i=true) (hi:i≠gS):startEnv V args i=args.getD i undef:=by
 unfold startEnv
 rw [if_neg hi,if_pos (by simpa using h)]
abbrev C0 (f n:Nat) (V:List Nat) (ir:IR) (rs:List RV):Prop:=∀{w:World} {R:Ending→World→Prop},(∀ρ:Env,ir.wp ⟨Tryz.prog,n,V,[]⟩ (retK rs R) (ksOf rs R) ρ w)→Calls Tryz.prog f #[] w R
theorem c0 (raws:List Nat) {f n:Nat} {fn:Func} {V:List Nat} {ir:IR} {rs:List RV} (hf:Tryz.prog.funcs[f]? =some fn) (hb:fn.body=some (fn.body.getD .skip):=by rfl) (hok:(comp Tryz.prog fn.ntmps V raws (fn.body.getD .skip)).map IR.norm=some ir:=by kernel_rfl) (hrs:rvsOf Tryz.prog V fn.results.toList=some rs:=by kernel_rfl) (hx:(readB fn V&&Nat.ble 0 fn.ntmps&&Nat.beq fn.ntmps n)=true:=by kernel_rfl):C0 f n V ir rs:=by
 simp only [Bool.and_eq_true] at hx
 obtain ⟨⟨a1,a2⟩,a3⟩:=hx
 have hn:=Nat.eq_of_beq_eq_true a3
 subst hn
 exact fun {w R} h=>calls_irX (args:= #[]) hf hb hok a1 hrs (Nat.le_of_ble_eq_true a2) (h _)
abbrev C1 (f n:Nat) (V:List Nat) (ir:IR) (rs:List RV):Prop:=∀{v0:Value} {w:World} {R:Ending→World→Prop},(∀ρ:Env,ρ 0=v0→ir.wp ⟨Tryz.prog,n,V,[]⟩ (retK rs R) (ksOf rs R) ρ w)→Calls Tryz.prog f #[v0] w R
theorem c1 (raws:List Nat) {f n:Nat} {fn:Func} {V:List Nat} {ir:IR} {rs:List RV} (hf:Tryz.prog.funcs[f]? =some fn) (hb:fn.body=some (fn.body.getD .skip):=by rfl) (hok:(comp Tryz.prog fn.ntmps V raws (fn.body.getD .skip)).map IR.norm=some ir:=by kernel_rfl) (hrs:rvsOf Tryz.prog V fn.results.toList=some rs:=by kernel_rfl) (hx:(readB fn V&&Nat.ble 1 fn.ntmps&&Nat.beq fn.ntmps n&&V.contains 0)=true:=by kernel_rfl):C1 f n V ir rs:=by
 simp only [Bool.and_eq_true] at hx
 obtain ⟨⟨⟨a1,a2⟩,a3⟩,b0⟩:=hx
 have hn:=Nat.eq_of_beq_eq_true a3
 subst hn
 exact fun {v0 w R} h=>calls_irX (args:= #[v0]) hf hb hok a1 hrs (Nat.le_of_ble_eq_true a2) (h _ (sE b0 (by decide)))
abbrev C2 (f n:Nat) (V:List Nat) (ir:IR) (rs:List RV):Prop:=∀{v0 v1:Value} {w:World} {R:Ending→World→Prop},(∀ρ:Env,ρ 0=v0→ρ 1=v1→ir.wp ⟨Tryz.prog,n,V,[]⟩ (retK rs R) (ksOf rs R) ρ w)→Calls Tryz.prog f #[v0,v1] w R
theorem c2 (raws:List Nat) {f n:Nat} {fn:Func} {V:List Nat} {ir:IR} {rs:List RV} (hf:Tryz.prog.funcs[f]? =some fn) (hb:fn.body=some (fn.body.getD .skip):=by rfl) (hok:(comp Tryz.prog fn.ntmps V raws (fn.body.getD .skip)).map IR.norm=some ir:=by kernel_rfl) (hrs:rvsOf Tryz.prog V fn.results.toList=some rs:=by kernel_rfl) (hx:(readB fn V&&Nat.ble 2 fn.ntmps&&Nat.beq fn.ntmps n&&V.contains 0&&V.contains 1)=true:=by kernel_rfl):C2 f n V ir rs:=by
 simp only [Bool.and_eq_true] at hx
 obtain ⟨⟨⟨⟨a1,a2⟩,a3⟩,b0⟩,b1⟩:=hx
 have hn:=Nat.eq_of_beq_eq_true a3
 subst hn
 exact fun {v0 v1 w R} h=>calls_irX (args:= #[v0,v1]) hf hb hok a1 hrs (Nat.le_of_ble_eq_true a2) (h _ (sE b0 (by decide)) (sE b1 (by decide)))
abbrev C3 (f n:Nat) (V:List Nat) (ir:IR) (rs:List RV):Prop:=∀{v0 v1 v2:Value} {w:World} {R:Ending→World→Prop},(∀ρ:Env,ρ 0=v0→ρ 1=v1→ρ 2=v2→ir.wp ⟨Tryz.prog,n,V,[]⟩ (retK rs R) (ksOf rs R) ρ w)→Calls Tryz.prog f #[v0,v1,v2] w R
theorem c3 (raws:List Nat) {f n:Nat} {fn:Func} {V:List Nat} {ir:IR} {rs:List RV} (hf:Tryz.prog.funcs[f]? =some fn) (hb:fn.body=some (fn.body.getD .skip):=by rfl) (hok:(comp Tryz.prog fn.ntmps V raws (fn.body.getD .skip)).map IR.norm=some ir:=by kernel_rfl) (hrs:rvsOf Tryz.prog V fn.results.toList=some rs:=by kernel_rfl) (hx:(readB fn V&&Nat.ble 3 fn.ntmps&&Nat.beq fn.ntmps n&&V.contains 0&&V.contains 1&&V.contains 2)=true:=by kernel_rfl):C3 f n V ir rs:=by
 simp only [Bool.and_eq_true] at hx
 obtain ⟨⟨⟨⟨⟨a1,a2⟩,a3⟩,b0⟩,b1⟩,b2⟩:=hx
 have hn:=Nat.eq_of_beq_eq_true a3
 subst hn
 exact fun {v0 v1 v2 w R} h=>calls_irX (args:= #[v0,v1,v2]) hf hb hok a1 hrs (Nat.le_of_ble_eq_true a2) (h _ (sE b0 (by decide)) (sE b1 (by decide)) (sE b2 (by decide)))
abbrev C4 (f n:Nat) (V:List Nat) (ir:IR) (rs:List RV):Prop:=∀{v0 v1 v2 v3:Value} {w:World} {R:Ending→World→Prop},(∀ρ:Env,ρ 0=v0→ρ 1=v1→ρ 2=v2→ρ 3=v3→ir.wp ⟨Tryz.prog,n,V,[]⟩ (retK rs R) (ksOf rs R) ρ w)→Calls Tryz.prog f #[v0,v1,v2,v3] w R
theorem c4 (raws:List Nat) {f n:Nat} {fn:Func} {V:List Nat} {ir:IR} {rs:List RV} (hf:Tryz.prog.funcs[f]? =some fn) (hb:fn.body=some (fn.body.getD .skip):=by rfl) (hok:(comp Tryz.prog fn.ntmps V raws (fn.body.getD .skip)).map IR.norm=some ir:=by kernel_rfl) (hrs:rvsOf Tryz.prog V fn.results.toList=some rs:=by kernel_rfl) (hx:(readB fn V&&Nat.ble 4 fn.ntmps&&Nat.beq fn.ntmps n&&V.contains 0&&V.contains 1&&V.contains 2&&V.contains 3)=true:=by kernel_rfl):C4 f n V ir rs:=by
 simp only [Bool.and_eq_true] at hx
 obtain ⟨⟨⟨⟨⟨⟨a1,a2⟩,a3⟩,b0⟩,b1⟩,b2⟩,b3⟩:=hx
 have hn:=Nat.eq_of_beq_eq_true a3
 subst hn
 exact fun {v0 v1 v2 v3 w R} h=>calls_irX (args:= #[v0,v1,v2,v3]) hf hb hok a1 hrs (Nat.le_of_ble_eq_true a2) (h _ (sE b0 (by decide)) (sE b1 (by decide)) (sE b2 (by decide)) (sE b3 (by decide)))
abbrev C5 (f n:Nat) (V:List Nat) (ir:IR) (rs:List RV):Prop:=∀{v0 v1 v2 v3 v4:Value} {w:World} {R:Ending→World→Prop},(∀ρ:Env,ρ 0=v0→ρ 1=v1→ρ 2=v2→ρ 3=v3→ρ 4=v4→ir.wp ⟨Tryz.prog,n,V,[]⟩ (retK rs R) (ksOf rs R) ρ w)→Calls Tryz.prog f #[v0,v1,v2,v3,v4] w R
theorem c5 (raws:List Nat) {f n:Nat} {fn:Func} {V:List Nat} {ir:IR} {rs:List RV} (hf:Tryz.prog.funcs[f]? =some fn) (hb:fn.body=some (fn.body.getD .skip):=by rfl) (hok:(comp Tryz.prog fn.ntmps V raws (fn.body.getD .skip)).map IR.norm=some ir:=by kernel_rfl) (hrs:rvsOf Tryz.prog V fn.results.toList=some rs:=by kernel_rfl) (hx:(readB fn V&&Nat.ble 5 fn.ntmps&&Nat.beq fn.ntmps n&&V.contains 0&&V.contains 1&&V.contains 2&&V.contains 3&&V.contains 4)=true:=by kernel_rfl):C5 f n V ir rs:=by
 simp only [Bool.and_eq_true] at hx
 obtain ⟨⟨⟨⟨⟨⟨⟨a1,a2⟩,a3⟩,b0⟩,b1⟩,b2⟩,b3⟩,b4⟩:=hx
 have hn:=Nat.eq_of_beq_eq_true a3
 subst hn
 exact fun {v0 v1 v2 v3 v4 w R} h=>calls_irX (args:= #[v0,v1,v2,v3,v4]) hf hb hok a1 hrs (Nat.le_of_ble_eq_true a2) (h _ (sE b0 (by decide)) (sE b1 (by decide)) (sE b2 (by decide)) (sE b3 (by decide)) (sE b4 (by decide)))
abbrev C6 (f n:Nat) (V:List Nat) (ir:IR) (rs:List RV):Prop:=∀{v0 v1 v2 v3 v4 v5:Value} {w:World} {R:Ending→World→Prop},(∀ρ:Env,ρ 0=v0→ρ 1=v1→ρ 2=v2→ρ 3=v3→ρ 4=v4→ρ 5=v5→ir.wp ⟨Tryz.prog,n,V,[]⟩ (retK rs R) (ksOf rs R) ρ w)→Calls Tryz.prog f #[v0,v1,v2,v3,v4,v5] w R
theorem c6 (raws:List Nat) {f n:Nat} {fn:Func} {V:List Nat} {ir:IR} {rs:List RV} (hf:Tryz.prog.funcs[f]? =some fn) (hb:fn.body=some (fn.body.getD .skip):=by rfl) (hok:(comp Tryz.prog fn.ntmps V raws (fn.body.getD .skip)).map IR.norm=some ir:=by kernel_rfl) (hrs:rvsOf Tryz.prog V fn.results.toList=some rs:=by kernel_rfl) (hx:(readB fn V&&Nat.ble 6 fn.ntmps&&Nat.beq fn.ntmps n&&V.contains 0&&V.contains 1&&V.contains 2&&V.contains 3&&V.contains 4&&V.contains 5)=true:=by kernel_rfl):C6 f n V ir rs:=by
 simp only [Bool.and_eq_true] at hx
 obtain ⟨⟨⟨⟨⟨⟨⟨⟨a1,a2⟩,a3⟩,b0⟩,b1⟩,b2⟩,b3⟩,b4⟩,b5⟩:=hx
 have hn:=Nat.eq_of_beq_eq_true a3
 subst hn
 exact fun {v0 v1 v2 v3 v4 v5 w R} h=>calls_irX (args:= #[v0,v1,v2,v3,v4,v5]) hf hb hok a1 hrs (Nat.le_of_ble_eq_true a2) (h _ (sE b0 (by decide)) (sE b1 (by decide)) (sE b2 (by decide)) (sE b3 (by decide)) (sE b4 (by decide)) (sE b5 (by decide)))
end Go.Eng
namespace Go.L02
open Go Go.Eng Go.Proofs
set_option maxRecDepth 100000
set_option maxHeartbeats 2000000
noncomputable def ir54_body:Code:=((Tryz.f54.body).getD .skip)
noncomputable def ir54_k0:IR:=zq [zE 16 (.makeFunc (.func 116) #[] #[zt 5,zt 2,zt 6,zt 4]) 1, .eff none none (.defer {callee:= .value (zt 16),args:= #[],argTypes:= #[]}) 0,za 17 (zv 1),zE 18 (.call {callee:= .value (zt 17),args:= #[],argTypes:= #[]}) 0,zw 4 (zt 4) (.const (zb true))] <| .ret
noncomputable def ir54:IR:=zq [zE 2 (.box 83 (zt 0)) 0,zE 4 (.alloc 4) 0] <| .seq (.raw (rawReg ir54_body 1)) (ir54_k0)
def ir54_V:List Nat:=[0,1,2,4,5,6,7,8,9,10,11,12,13,14,15,16,17,18]
theorem ir54_ok:(comp Tryz.prog Tryz.f54.ntmps ir54_V [1] (Tryz.f54.body.getD .skip)).map IR.norm=some ir54:=by kernel_rfl
theorem ir54_calls {v0 v1:Value} {w:World} {R:Ending→World→Prop} (h:∀ρ:Env,ρ 0=v0→ρ 1=v1→ρ gS= .tuple #[]→ir54.wp ⟨Tryz.prog,19,ir54_V,dAny⟩ (endK Tryz.prog [.cell1 4] R .returning) (ksD Tryz.prog [.cell1 4] R) ρ w):
  Calls Tryz.prog 54 #[v0,v1] w R:=by
 obtain ⟨ir0,h1,h2⟩:=Option.map_eq_some_iff.1 ir54_ok
 exact calls_irD (args:= #[v0,v1]) Tryz.func54 (c:=(Tryz.f54.body.getD .skip)) rfl h1 h2 (by kernel_rfl) (show rvsOf Tryz.prog ir54_V Tryz.f54.results.toList=some [.cell1 4] by kernel_rfl) (Nat.le_of_ble_eq_true rfl) (h _ rfl rfl rfl)
noncomputable def ir54_o1:OT:=zy 7 (zl (zv 2))<|zy 8 (zN (zv 7))<|zy 9 (zf 1 (zv 8))<|zy 10 (zl (zv 9))<|zy 11 (zl (zv 2))<|zy 12 (zN (zv 11))<|zy 13 (zf 3 (zv 12))<|zy 14 (zl (zv 13))<|zy 15 (zL (zv 14))<| .both (.step (zE 5 (.alloc 3) 0) true<| .step (zE 6 (.alloc 3) 0) true<| .step (zw 3 (zt 5) (zt 10)) true<| .step (zw 3 (zt 6) (zt 15)) false<| .done)<| .step (zE 6 (.alloc 3) 0) true<| .step (zE 5 (.alloc 3) 0) true<| .step (zw 3 (zt 5) (zt 10)) true<| .step (zw 3 (zt 6) (zt 15)) false<| .done
theorem ir54_o1_ok:ordOf Tryz.prog 19 ir54_V 12 (rawReg ir54_body 1)=some ir54_o1:=by kernel_rfl
noncomputable def ir116_body:Code:=((Tryz.f116.body).getD .skip)
noncomputable def ir116_k0:IR:= .raw (rawReg ir116_body 5)
def ir116_V:List Nat:=[0,1,2,3,4,5,6,7,8,9,10,11,12,13,14,16,17,18,19,20,21,22,23,24,25,26,27,28,29,30]
noncomputable def ir116_o5:OT:=zy 18 (zl (zv 1))<|zy 19 (zl (zv 1))<|zy 20 (zl (zv 0))<|zy 21 (zl (zv 1))<|zy 22 (zN (zv 21))<|zy 23 (zf 3 (zv 22))<|zy 24 (zl (zv 23))<|zy 25 (zl (zv 2))<|zy 26 (.op3 (.slLoHi 6) (zv 24) (.const (zk 0)) (zv 25))<|zy 27 (zN (zv 18))<|zy 28 (zf 1 (zv 27))<| .step (zw 3 (zt 28) (zt 20)) true<| .step (za 29 (zN (zv 19))) false<| .step (za 30 (zf 3 (zv 29))) false<| .step (zw 29 (zt 30) (zt 26)) false<| .step (zw 4 (zt 3) (.const (zb false))) false<| .done
theorem ir116_o5_ok:ordOf Tryz.prog 31 ir116_V 12 (rawReg ir116_body 5)=some ir116_o5:=by kernel_rfl
noncomputable def ir142_body:Code:=((Tryz.f142.body).getD .skip)
noncomputable def ir142_k0:IR:= .ret
noncomputable def ir142_k1:IR:=zq [zE 29 (.build 53 #[]) 53,zw 53 (zt 4) (zt 29)] <| .ret
noncomputable def ir142_k2:IR:= .seq (.cond (zv 16) (.seq (.raw (rawReg ir142_body 2)) (ir142_k0)) (.skip)) (ir142_k1)
noncomputable def ir142:IR:=zq [zE 4 (.alloc 53) 0] <| .seq (.drw [za 16 (zI .lss (zI .add (zo 1 (zN (zv 0))) (zv 1)) (zL (zo 0 (zN (zv 0)))))]) (ir142_k2)
def ir142_V:List Nat:=[0,1,4,16,17,18,19,20,21,22,23,24,25,26,27,28,29]
theorem ir142_calls:C2 142 30 ir142_V ir142 [.cellN 4 3]:=c2 [2] Tryz.func142
noncomputable def ir142_o2:OT:=zy 17 (zv 0)<|zy 18 (zN (zv 17))<|zy 19 (zf 0 (zv 18))<|zy 20 (zl (zv 19))<|zy 21 (zv 0)<|zy 22 (zN (zv 21))<|zy 23 (zf 1 (zv 22))<|zy 24 (zl (zv 23))<|zy 25 (zv 1)<|zy 26 (zI .add (zv 24) (zv 25))<| .step (za 27 (zx 3 (zv 20) (zv 26))) false<| .step (za 28 (zM 3 (zv 27))) false<| .step (zw 53 (zt 4) (zt 28)) false<| .done
theorem ir142_o2_ok:ordOf Tryz.prog 30 ir142_V 10 (rawReg ir142_body 2)=some ir142_o2:=by kernel_rfl
noncomputable def ir141:IR:=zq [za 4 (.const (zb false)),za 6 (zv 0),zc 7 142 #[zt 6,(.const (zk 0))] #[83,3] 53,zE 5 (.alloc 53) 0,zw 53 (zt 5) (zt 7),za 16 (.ite (zB .eql (zo 0 (zv 5)) (.const (zu 2))) (.const (zb true)) (zB .eql (zo 0 (zv 5)) (.const (zu 4)))),zg 16 true 17 (zv 1),zg 16 true 19 (zo 1 (zv 5)),zh 16 true 20 160 #[zt 17,zt 19] #[51,9] 4,za 4 (.ite (zv 16) (zv 20) (.const (zb false)))] <| .ret
def ir141_V:List Nat:=[0,1,4,5,6,7,16,17,19,20]
theorem ir141_calls:C2 141 22 ir141_V ir141 [.tmp 4]:=c2 [] Tryz.func141
noncomputable def ir117_k0:IR:=zq [za 10 (zv 0),za 14 (zI .add (zo 1 (zN (zv 10))) (.const (zk 1))),za 16 (zf 1 (zN (zv 10))),zw 3 (zt 16) (zt 14),za 4 (.const (zb true))] <| .ret
noncomputable def ir117:IR:=zq [za 4 (.const (zb false)),za 5 (zv 0),za 6 (zv 1),zE 7 (.buildSlice 51 1 #[(0,(zt 6))]) 51,zc 8 141 #[zt 5,zt 7] #[83,51] 4,za 9 (zn (zv 8))] <| .seq (.cond (zv 9) (zq [za 4 (.const (zb false))] <| .ret) (.skip)) (ir117_k0)
def ir117_V:List Nat:=[0,1,4,5,6,7,8,9,10,14,16]
theorem ir117_calls:C2 117 17 ir117_V ir117 [.tmp 4]:=c2 [] Tryz.func117
noncomputable def ir153_k0:IR:= .reg [za 8 (zI .add (zv 8) (.const (zk 1)))]
noncomputable def ir153_k1:IR:= .seq (.block 1 (zq [za 5 (zl (zx 1 (zv 6) (zv 8))),za 12 (zv 0),za 13 (zv 5),zc 14 117 #[zt 12,zt 13] #[83,9] 4,za 15 (zn (zv 14))] <| .cond (zv 15) (.reg [za 16 (zv 0),zc 17 143 #[zt 16] #[83] 0]) (.skip))) (ir153_k0)
noncomputable def ir153_l2:IR:=zq [za 9 (zI .lss (zv 8) (zv 7))] <| .seq (.cond (zv 9) (.skip) (.exit 0)) (ir153_k1)
noncomputable def ir153:IR:=zq [za 6 (zv 1),za 7 (zL (zv 6)),za 8 (.const (zk 0))] <| .block 0 (.loop ir153_l2)
def ir153_V:List Nat:=[0,1,5,6,7,8,9,12,13,14,15,16,17]
theorem ir153_calls:C2 153 19 ir153_V ir153 []:=c2 [] Tryz.func153
noncomputable def ir120_k0:IR:=zq [za 11 (zv 0),za 15 (zI .add (zo 1 (zN (zv 11))) (.const (zk 1))),za 17 (zf 1 (zN (zv 11))),zw 3 (zt 17) (zt 15),za 2 (zo 1 (zv 3))] <| .ret
noncomputable def ir120:IR:=zq [za 2 (.const (zs #[])),za 4 (zv 0),zc 5 142 #[zt 4,(.const (zk 0))] #[83,3] 53,zE 3 (.alloc 53) 0,zw 53 (zt 3) (zt 5),za 8 (zB .neq (zo 0 (zv 3)) (.const (zu 1)))] <| .seq (.cond (zv 8) (.reg [za 9 (zv 0),zc 10 143 #[zt 9] #[83] 0]) (.skip)) (ir120_k0)
def ir120_V:List Nat:=[0,2,3,4,5,8,9,10,11,15,17]
theorem ir120_calls:C1 120 20 ir120_V ir120 [.tmp 2]:=c1 [] Tryz.func120
noncomputable def ir143_body:Code:=((Tryz.f143.body).getD .skip)
noncomputable def ir143_k0:IR:= .reg [zE 14 (.build 153 #[]) 153,za 15 (.op1 (.mkif 153) (zv 14)), .eff none none (.panic (zt 15)) 0]
noncomputable def ir143:IR:= .seq (.raw (rawReg ir143_body 0)) (ir143_k0)
def ir143_V:List Nat:=[0,2,3,4,5,6,7,8,9,10,11,12,13,14,15]
theorem ir143_calls:C1 143 16 ir143_V ir143 []:=c1 [0] Tryz.func143
noncomputable def ir143_o0:OT:=zy 2 (zv 0)<|zy 3 (zv 0)<|zy 4 (zN (zv 3))<|zy 5 (zf 2 (zv 4))<|zy 6 (zl (zv 5))<|zy 7 (zv 0)<|zy 8 (zN (zv 7))<|zy 9 (zf 1 (zv 8))<|zy 10 (zl (zv 9))<| .step (zE 11 (.call {callee:= .builtin .max,args:= #[zt 6,zt 10],argTypes:= #[3,3]}) 3) true<| .step (za 12 (zN (zv 2))) false<| .step (za 13 (zf 2 (zv 12))) false<| .step (zw 3 (zt 13) (zt 11)) false<| .done
theorem ir143_o0_ok:ordOf Tryz.prog 16 ir143_V 10 (rawReg ir143_body 0)=some ir143_o0:=by kernel_rfl
noncomputable def ir63_k0:IR:= .cond (zv 11) (.reg [za 12 (zv 0),zc 13 143 #[zt 12] #[83] 0]) (.skip)
noncomputable def ir63:IR:= .seq (.drw [za 11 (zI .lss (zo 1 (zN (zv 0))) (zL (zo 0 (zN (zv 0)))))]) (ir63_k0)
def ir63_V:List Nat:=[0,11,12,13]
theorem ir63_calls:C1 63 14 ir63_V ir63 []:=c1 [] Tryz.func63
noncomputable def ir156_k0:IR:= .reg [za 15 (zv 0),za 19 (zI .add (zo 1 (zN (zv 15))) (.const (zk 1))),za 21 (zf 1 (zN (zv 15))),zw 3 (zt 21) (zt 19)]
noncomputable def ir156:IR:=zq [za 3 (zv 0),zc 4 142 #[zt 3,(.const (zk 0))] #[83,3] 53,zE 2 (.alloc 53) 0,zw 53 (zt 2) (zt 4),za 12 (.ite (zB .neq (zo 0 (zv 2)) (.const (zu 1))) (.const (zb true)) (zS .neq (zo 1 (zv 2)) (.const (zs #[116]))))] <| .seq (.cond (zv 12) (.reg [za 13 (zv 0),zc 14 143 #[zt 13] #[83] 0]) (.skip)) (ir156_k0)
def ir156_V:List Nat:=[0,2,3,4,12,13,14,15,19,21]
theorem ir156_calls:C1 156 22 ir156_V ir156 []:=c1 [] Tryz.func156
noncomputable def ir72:IR:= .block 0 (zq [za 12 (zv 0),zE 13 (.call {callee:= .value (.func 117),args:= #[zt 12,(.const (zs #[105,110,116]))],argTypes:= #[83,9]}) 4,za 14 (zv 13),zg 14 false 15 (zv 0), .eff (some (14,false)) (some 16) (.call {callee:= .value (.func 117),args:= #[zt 15,(.const (zs #[98,111,111,108]))],argTypes:= #[83,9]}) 4,za 18 (.ite (zv 14) (.const (zb true)) (zv 16)),zg 18 false 19 (zv 0), .eff (some (18,false)) (some 20) (.call {callee:= .value (.func 117),args:= #[zt 19,(.const (zs #[110,117,108,108]))],argTypes:= #[83,9]}) 4,za 11 (.ite (zv 18) (.const (zb true)) (zv 20))] <| .cond (zv 11) (.skip) (zq [za 23 (zv 0),zE 24 (.call {callee:= .value (.func 117),args:= #[zt 23,(.const (zs #[97,114,114,97,121]))],argTypes:= #[83,9]}) 4,za 22 (zv 24)] <| .cond (zv 22) (.reg [za 25 (zv 0),zE 26 (.buildSlice 51 1 #[(0,(.const (zs #[91])))]) 51,zc 27 153 #[zt 25,zt 26] #[83,51] 0,za 28 (zv 0),zc 29 72 #[zt 28] #[83] 0,za 30 (zv 0),zE 31 (.buildSlice 51 1 #[(0,(.const (zs #[93])))]) 51,zc 32 153 #[zt 30,zt 31] #[83,51] 0]) (zq [za 34 (zv 0),zE 35 (.call {callee:= .value (.func 117),args:= #[zt 34,(.const (zs #[114,101,99,111,114,100]))],argTypes:= #[83,9]}) 4,za 36 (zv 35),zg 36 false 37 (zv 0), .eff (some (36,false)) (some 38) (.call {callee:= .value (.func 117),args:= #[zt 37,(.const (zs #[111,110,101,111,102]))],argTypes:= #[83,9]}) 4,za 33 (.ite (zv 36) (.const (zb true)) (zv 38))] <| .cond (zv 33) (.reg [za 40 (zv 0),zE 41 (.buildSlice 51 1 #[(0,(.const (zs #[91])))]) 51,zc 42 153 #[zt 40,zt 41] #[83,51] 0,za 43 (zv 0),za 44 (zv 0),zE 45 (.makeFunc (.func 155) #[zt 44] #[]) 129,zc 46 154 #[zt 43,zt 45] #[83,129] 51,za 47 (zv 0),zE 48 (.buildSlice 51 1 #[(0,(.const (zs #[93])))]) 51,zc 49 153 #[zt 47,zt 48] #[83,51] 0]) (zq [za 51 (zv 0),zE 52 (.call {callee:= .value (.func 117),args:= #[zt 51,(.const (zs #[63]))],argTypes:= #[83,9]}) 4,za 50 (zv 52)] <| .cond (zv 50) (.reg [za 53 (zv 0),zc 54 156 #[zt 53] #[83] 0]) (zq [za 2 (zv 0),zc 3 120 #[zt 2] #[83] 9,za 4 (zv 0),zE 5 (.call {callee:= .value (.func 117),args:= #[zt 4,(.const (zs #[91]))],argTypes:= #[83,9]}) 4] <| .cond (zv 5) (.reg [za 6 (zv 0),zc 7 72 #[zt 6] #[83] 0,za 8 (zv 0),zE 9 (.buildSlice 51 1 #[(0,(.const (zs #[93])))]) 51,zc 10 153 #[zt 8,zt 9] #[83,51] 0]) (.skip))))))
def ir72_V:List Nat:=[0,2,3,4,5,6,7,8,9,10,11,12,13,14,15,16,18,19,20,22,23,24,25,26,27,28,29,30,31,32,33,34,35,36,37,38,40,41,42,43,44,45,46,47,48,49,50,51,52,53,54]
theorem ir72_calls:C1 72 55 ir72_V ir72 []:=c1 [] Tryz.func72
noncomputable def ir155:IR:=zq [za 2 (.const (zs #[])),za 3 (zv 0),zc 4 120 #[zt 3] #[83] 9,za 5 (zv 0),zE 6 (.buildSlice 51 1 #[(0,(.const (zs #[58])))]) 51,zc 7 153 #[zt 5,zt 6] #[83,51] 0,za 8 (zv 0),zc 9 72 #[zt 8] #[83] 0,za 2 (.const (zs #[]))] <| .ret
def ir155_V:List Nat:=[0,2,3,4,5,6,7,8,9]
theorem ir155_calls:C1 155 10 ir155_V ir155 [.tmp 2]:=c1 [] Tryz.func155
noncomputable def ir154_k0:IR:= .block 1 (.reg [za 11 (zv 5),za 12 (zv 1),zE 13 (.call {callee:= .value (zt 12),args:= #[],argTypes:= #[]}) 9,zE 14 (.buildSlice 51 1 #[(0,(zt 13))]) 51,zp 15 #[zt 11,zt 14] #[51,51] 51,za 5 (zv 15)])
noncomputable def ir154_l1:IR:=zq [za 9 (zv 0),zE 10 (.call {callee:= .value (.func 117),args:= #[zt 9,(.const (zs #[44]))],argTypes:= #[83,9]}) 4] <| .seq (.cond (zv 10) (.skip) (.exit 0)) (ir154_k0)
noncomputable def ir154_k2:IR:=zq [za 4 (zv 5)] <| .ret
noncomputable def ir154:IR:=zq [za 4 (.const (.slice none 0 0)),za 6 (zv 1),zE 7 (.call {callee:= .value (zt 6),args:= #[],argTypes:= #[]}) 9,zE 8 (.buildSlice 51 1 #[(0,(zt 7))]) 51,za 5 (zv 8)] <| .seq (.block 0 (.loop ir154_l1)) (ir154_k2)
def ir154_V:List Nat:=[0,1,4,5,6,7,8,9,10,11,12,13,14,15]
theorem ir154_calls:C2 154 17 ir154_V ir154 [.tmp 4]:=c2 [] Tryz.func154
noncomputable def ir73_k0:IR:= .reg [za 8 (zI .add (zv 8) (.const (zk 1)))]
noncomputable def ir73_k1:IR:= .seq (.block 1 (.reg [za 11 (zM 3 (zx 3 (zv 6) (zv 8))),zE 5 (.alloc 53) 0,zw 53 (zt 5) (zt 11),za 13 (zo 1 (zv 5)),zc 14 89 #[zt 3,zt 13] #[114,9] 127])) (ir73_k0)
noncomputable def ir73_l2:IR:=zq [za 9 (zI .lss (zv 8) (zv 7))] <| .seq (.cond (zv 9) (.skip) (.exit 0)) (ir73_k1)
noncomputable def ir73_k3:IR:=zq [zc 16 90 #[zt 3] #[114] 9,za 2 (zv 16)] <| .ret
noncomputable def ir73:IR:=zq [za 2 (.const (zs #[])),zE 3 (.alloc 114) 0,za 6 (zv 0),za 7 (zL (zv 6)),za 8 (.const (zk 0))] <| .seq (.block 0 (.loop ir73_l2)) (ir73_k3)
def ir73_V:List Nat:=[0,2,3,5,6,7,8,9,11,13,14,16]
theorem ir73_calls:C1 73 17 ir73_V ir73 [.tmp 2]:=c1 [] Tryz.func73
end Go.L02
namespace Go.L01
open Go Go.Eng Go.Proofs
set_option maxRecDepth 100000
set_option maxHeartbeats 2000000
noncomputable def ir77:IR:=zq [za 2 (.const (zb false)),za 11 (.ite (zI .gtr (zT (zv 0)) (.const (zk 0))) (zI .leq (zT (zv 0)) (.const (zk 12))) (.const (zb false))),zg 11 true 13 (.op2 .ixs (zv 0) (.const (zk 0))),zh 11 true 14 162 #[zt 13] #[188] 4,za 16 (.ite (zv 11) (zv 14) (.const (zb false))),zg 16 true 17 (zv 0),zh 16 true 18 163 #[zt 17,(.func 164)] #[9,190] 3,za 21 (.ite (zv 16) (zI .lss (zv 18) (.const (zk 0))) (.const (zb false))),zg 21 true 22 (zv 0),zh 21 true 23 166 #[zt 22] #[9] 4,za 2 (.ite (zv 21) (zn (zv 23)) (.const (zb false)))] <| .ret
def ir77_V:List Nat:=[0,2,11,13,14,16,17,18,21,22,23]
theorem ir77_calls:C1 77 26 ir77_V ir77 [.tmp 2]:=c1 [] Tryz.func77
noncomputable def ir79:IR:=zq [za 2 (.const (zb false)),za 11 (.ite (zI .gtr (zT (zv 0)) (.const (zk 0))) (zI .leq (zT (zv 0)) (.const (zk 12))) (.const (zb false))),zg 11 true 13 (.op2 .ixs (zv 0) (.const (zk 0))),zh 11 true 14 167 #[zt 13] #[5] 4,za 16 (.ite (zv 11) (zv 14) (.const (zb false))),zg 16 true 17 (zv 0),zh 16 true 18 168 #[zt 17] #[9] 3,za 23 (.ite (zv 16) (zI .eql (zv 18) (zT (zv 0))) (.const (zb false))),zg 23 true 24 (zv 0),zh 23 true 25 169 #[zt 24] #[9] 4,za 2 (.ite (zv 23) (zn (zv 25)) (.const (zb false)))] <| .ret
def ir79_V:List Nat:=[0,2,11,13,14,16,17,18,23,24,25]
theorem ir79_calls:C1 79 28 ir79_V ir79 [.tmp 2]:=c1 [] Tryz.func79
noncomputable def ir166:IR:=zq [za 2 (.const (zb false)),zc 3 233 #[] #[] 144,za 4 (zv 0),zE 5 (.lookup 144 (zt 3) (zt 4) false) 4,za 2 (zv 5)] <| .ret
def ir166_V:List Nat:=[0,2,3,4,5]
theorem ir166_calls:C1 166 6 ir166_V ir166 [.tmp 2]:=c1 [] Tryz.func166
noncomputable def ir169:IR:=zq [za 2 (.const (zb false)),zc 3 236 #[] #[] 51,za 4 (zv 0),zc 5 235 #[zt 3,zt 4] #[51,9] 4,za 2 (zv 5)] <| .ret
def ir169_V:List Nat:=[0,2,3,4,5]
theorem ir169_calls:C1 169 6 ir169_V ir169 [.tmp 2]:=c1 [] Tryz.func169
noncomputable def ir286:IR:=zq [za 0 (.const (.slice none 0 0)),zE 1 (.call {callee:= .value (.func 332),args:= #[(.const (zs #[97,110,100,32,97,114,114,97,121,32,98,101,103,105,110,32,98,111,111,108,32,98,114,101,97,107,32,99,108,117,115,116,101,114,32,100,111,32,100,111,119,110,32,101,108,115,101,32,101,108,115,101,105,102,32,101,110,100,32,101,120,99,101,112,116,32,102,97,108,115,101,32,102,111,114,32,104,97,115,32,105,102,32,105,110,32,105,110,116,32,105,115,32,105,116,101,114,32,109,111,100,32,110,105,108,32,110,111,116,32,110,117,108,108,32,111,110,101,111,102,32,111,114,32,111,116,104,101,114,115,32,112,114,111,99,32,112,117,116,32,114,101,99,111,114,100,32,114,101,112,32,114,101,116,117,114,110,32,114,101,116,117,114,110,115,32,115,105,103,110,97,108,32,115,105,103,110,97,108,115,32,116,97,103,32,116,97,103,99,97,115,101,32,116,104,101,110,32,116,114,117,101,32,117,112,32,118,97,114,32,119,104,101,110,32,119,104,101,114,101,32,119,104,105,108,101,32,121,105,101,108,100,32,121,105,101,108,100,115]))],argTypes:= #[9]}) 51,za 0 (zv 1)] <| .ret
def ir286_V:List Nat:=[0,1]
theorem ir286_calls:C0 286 2 ir286_V ir286 [.tmp 0]:=c0 [] Tryz.func286
noncomputable def ir236:IR:=zq [za 0 (.const (.slice none 0 0)),zE 1 (.buildSlice 51 46 #[(0,(.const (zs #[97,110,100]))),(1,(.const (zs #[97,114,114,97,121]))),(2,(.const (zs #[98,101,103,105,110]))),(3,(.const (zs #[98,111,111,108]))),(4,(.const (zs #[98,114,101,97,107]))),(5,(.const (zs #[99,108,117,115,116,101,114]))),(6,(.const (zs #[100,111]))),(7,(.const (zs #[100,111,119,110]))),(8,(.const (zs #[101,108,115,101]))),(9,(.const (zs #[101,108,115,101,105,102]))),(10,(.const (zs #[101,110,100]))),(11,(.const (zs #[101,120,99,101,112,116]))),(12,(.const (zs #[102,97,108,115,101]))),(13,(.const (zs #[102,111,114]))),(14,(.const (zs #[104,97,115]))),(15,(.const (zs #[105,102]))),(16,(.const (zs #[105,110]))),(17,(.const (zs #[105,110,116]))),(18,(.const (zs #[105,115]))),(19,(.const (zs #[105,116,101,114]))),(20,(.const (zs #[109,111,100]))),(21,(.const (zs #[110,105,108]))),(22,(.const (zs #[110,111,116]))),(23,(.const (zs #[110,117,108,108]))),(24,(.const (zs #[111,110,101,111,102]))),(25,(.const (zs #[111,114]))),(26,(.const (zs #[111,116,104,101,114,115]))),(27,(.const (zs #[112,114,111,99]))),(28,(.const (zs #[112,117,116]))),(29,(.const (zs #[114,101,99,111,114,100]))),(30,(.const (zs #[114,101,112]))),(31,(.const (zs #[114,101,116,117,114,110]))),(32,(.const (zs #[114,101,116,117,114,110,115]))),(33,(.const (zs #[115,105,103,110,97,108]))),(34,(.const (zs #[115,105,103,110,97,108,115]))),(35,(.const (zs #[116,97,103]))),(36,(.const (zs #[116,97,103,99,97,115,101]))),(37,(.const (zs #[116,104,101,110]))),(38,(.const (zs #[116,114,117,101]))),(39,(.const (zs #[117,112]))),(40,(.const (zs #[118,97,114]))),(41,(.const (zs #[119,104,101,110]))),(42,(.const (zs #[119,104,101,114,101]))),(43,(.const (zs #[119,104,105,108,101]))),(44,(.const (zs #[121,105,101,108,100]))),(45,(.const (zs #[121,105,101,108,100,115])))]) 51,za 0 (zv 1)] <| .ret
def ir236_V:List Nat:=[0,1]
theorem ir236_calls:C0 236 2 ir236_V ir236 [.tmp 0]:=c0 [] Tryz.func236
noncomputable def ir310:IR:=zq [za 0 (.const (.slice none 0 0)),zE 2 (.call {callee:= .value (.func 332),args:= #[(.const (zs #[36,32,40,32,41,32,42,32,43,32,44,32,45,32,46,32,47,32,58,32,58,61,32,59,32,60,32,60,61,32,61,32,63,32,91,32,93,32,95,32,123,32,125]))],argTypes:= #[9]}) 51,za 1 (zv 2),za 3 (zv 1),zc 4 195 #[zt 3] #[51] 0,za 0 (zv 1)] <| .ret
def ir310_V:List Nat:=[0,1,2,3,4]
theorem ir310_calls:C0 310 6 ir310_V ir310 [.tmp 0]:=c0 [] Tryz.func310
noncomputable def ir246:IR:=zq [za 0 (.const (.slice none 0 0)),zE 1 (.buildSlice 51 21 #[(0,(.const (zs #[36]))),(1,(.const (zs #[40]))),(2,(.const (zs #[41]))),(3,(.const (zs #[42]))),(4,(.const (zs #[43]))),(5,(.const (zs #[44]))),(6,(.const (zs #[45]))),(7,(.const (zs #[46]))),(8,(.const (zs #[47]))),(9,(.const (zs #[58]))),(10,(.const (zs #[58,61]))),(11,(.const (zs #[59]))),(12,(.const (zs #[60]))),(13,(.const (zs #[60,61]))),(14,(.const (zs #[61]))),(15,(.const (zs #[63]))),(16,(.const (zs #[91]))),(17,(.const (zs #[93]))),(18,(.const (zs #[95]))),(19,(.const (zs #[123]))),(20,(.const (zs #[125])))]) 51,za 0 (zv 1)] <| .ret
def ir246_V:List Nat:=[0,1]
theorem ir246_calls:C0 246 2 ir246_V ir246 [.tmp 0]:=c0 [] Tryz.func246
noncomputable def ir53_body:Code:=((Tryz.f53.body).getD .skip)
noncomputable def ir53_k0:IR:= .ret
noncomputable def ir53:IR:=zq [za 2 (.const (.slice none 0 0)),zE 3 (.alloc 26) 0,za 8 (zv 0),zc 9 115 #[zt 8] #[9] 122,za 7 (zv 9),za 10 (ze 0 (zv 7)),za 11 (ze 1 (zv 7)),za 12 (ze 2 (zv 7)),zE 6 (.alloc 26) 0,za 4 (zv 10),za 5 (zv 11),zw 26 (zt 6) (zt 12)] <| .seq (.raw (rawReg ir53_body 2)) (ir53_k0)
def ir53_V:List Nat:=[0,2,3,4,5,6,7,8,9,10,11,12,13,14]
theorem ir53_calls:C1 53 15 ir53_V ir53 [.tmp 2, .cellN 3 2]:=c1 [2] Tryz.func53
noncomputable def ir53_o2:OT:=zy 13 (zv 4)<|zy 14 (zM 2 (zv 6))<|zy 2 (zv 13)<| .step (zw 26 (zt 3) (zt 14)) false<| .done
theorem ir53_o2_ok:ordOf Tryz.prog 15 ir53_V 3 (rawReg ir53_body 2)=some ir53_o2:=by kernel_rfl
noncomputable def ir33_body:Code:=((Tryz.f33.body).getD .skip)
noncomputable def ir33_k0:IR:= .ret
noncomputable def ir33:IR:=zq [za 2 (.const (.slice none 0 0)),zE 3 (.alloc 26) 0,za 8 (zv 0),zc 9 87 #[zt 8] #[9] 122,za 7 (zv 9),za 10 (ze 0 (zv 7)),za 11 (ze 1 (zv 7)),za 12 (ze 2 (zv 7)),zE 6 (.alloc 26) 0,za 4 (zv 10),za 5 (zv 11),zw 26 (zt 6) (zt 12)] <| .seq (.raw (rawReg ir33_body 2)) (ir33_k0)
def ir33_V:List Nat:=[0,2,3,4,5,6,7,8,9,10,11,12,13,14]
theorem ir33_calls:C1 33 15 ir33_V ir33 [.tmp 2, .cellN 3 2]:=c1 [2] Tryz.func33
noncomputable def ir33_o2:OT:=zy 13 (zv 4)<|zy 14 (zM 2 (zv 6))<|zy 2 (zv 13)<| .step (zw 26 (zt 3) (zt 14)) false<| .done
theorem ir33_o2_ok:ordOf Tryz.prog 15 ir33_V 3 (rawReg ir33_body 2)=some ir33_o2:=by kernel_rfl
noncomputable def ir162:IR:=zq [za 2 (.const (zb false)),za 2 (.ite (zB .geq (zv 0) (.const (zu 97))) (zB .leq (zv 0) (.const (zu 122))) (.const (zb false)))] <| .ret
def ir162_V:List Nat:=[0,2]
theorem ir162_calls:C1 162 9 ir162_V ir162 [.tmp 2]:=c1 [] Tryz.func162
noncomputable def ir163:IR:=zq [za 4 (.const (zk 0)),za 5 (zv 0),za 6 (zv 1),zc 7 231 #[zt 5,zt 6,(.const (zb true))] #[9,190,4] 3,za 4 (zv 7)] <| .ret
def ir163_V:List Nat:=[0,1,4,5,6,7]
theorem ir163_calls:C2 163 8 ir163_V ir163 [.tmp 4]:=c2 [] Tryz.func163
noncomputable def ir164:IR:=zq [za 2 (.const (zb false)),za 5 (.op2 (.ibin .gtr .i32) (zv 0) (.const (.int .i32 126))),zg 5 false 7 (.op1 (.conv .u8) (zv 0)),zh 5 false 8 165 #[zt 7] #[188] 4,za 2 (.ite (zv 5) (.const (zb true)) (zn (zv 8)))] <| .ret
def ir164_V:List Nat:=[0,2,5,7,8]
theorem ir164_calls:C1 164 11 ir164_V ir164 [.tmp 2]:=c1 [] Tryz.func164
noncomputable def ir165:IR:=zq [za 2 (.const (zb false)),za 3 (zv 0),zc 4 162 #[zt 3] #[188] 4,za 5 (zv 4),zg 5 false 6 (zv 0),zh 5 false 7 232 #[zt 6] #[188] 4,za 2 (.ite (zv 5) (.const (zb true)) (zv 7))] <| .ret
def ir165_V:List Nat:=[0,2,3,4,5,6,7]
theorem ir165_calls:C1 165 9 ir165_V ir165 [.tmp 2]:=c1 [] Tryz.func165
noncomputable def ir167:IR:=zq [za 2 (.const (zb false)),za 2 (.ite (zB .geq (zv 0) (.const (zu 97))) (zB .leq (zv 0) (.const (zu 122))) (.const (zb false)))] <| .ret
def ir167_V:List Nat:=[0,2]
theorem ir167_calls:C1 167 9 ir167_V ir167 [.tmp 2]:=c1 [] Tryz.func167
noncomputable def ir168_k0:IR:= .block 1 (.reg [za 3 (zI .add (zv 3) (.const (zk 1)))])
noncomputable def ir168_l1:IR:=zq [za 8 (zI .lss (zv 3) (zT (zv 0))),zg 8 true 11 (.op2 .ixs (zv 0) (zv 3)),zh 8 true 12 167 #[zt 11] #[5] 4,zg 8 true 13 (zv 12),zg 13 false 16 (.op2 .ixs (zv 0) (zv 3)),zh 13 false 17 234 #[zt 16] #[5] 4,za 19 (.ite (zv 8) (.ite (zv 13) (.const (zb true)) (zv 17)) (.const (zb false)))] <| .seq (.cond (zv 19) (.skip) (.exit 0)) (ir168_k0)
noncomputable def ir168_k2:IR:=zq [za 2 (zv 3)] <| .ret
noncomputable def ir168:IR:=zq [za 2 (.const (zk 0)),za 3 (.const (zk 0))] <| .seq (.block 0 (.loop ir168_l1)) (ir168_k2)
def ir168_V:List Nat:=[0,2,3,8,11,12,13,16,17,19]
theorem ir168_calls:C1 168 23 ir168_V ir168 [.tmp 2]:=c1 [] Tryz.func168
noncomputable def ir233_k0:IR:= .reg [za 7 (zI .add (zv 7) (.const (zk 1)))]
noncomputable def ir233_k1:IR:= .seq (.block 1 (.reg [za 3 (zl (zx 1 (zv 5) (zv 7))),za 11 (zv 1),za 12 (zv 3), .eff none none (.mapUpdate 144 (zt 11) (zt 12) (.const (zb true))) 0])) (ir233_k0)
noncomputable def ir233_l2:IR:=zq [za 8 (zI .lss (zv 7) (zv 6))] <| .seq (.cond (zv 8) (.skip) (.exit 0)) (ir233_k1)
noncomputable def ir233_k3:IR:=zq [za 0 (zv 1)] <| .ret
noncomputable def ir233:IR:=zq [za 0 (.const (.map none)),zE 4 (.makeMap 144 none) 144,za 1 (zv 4),zc 5 286 #[] #[] 51,za 6 (zL (zv 5)),za 7 (.const (zk 0))] <| .seq (.block 0 (.loop ir233_l2)) (ir233_k3)
def ir233_V:List Nat:=[0,1,3,4,5,6,7,8,11,12]
theorem ir233_calls:C0 233 15 ir233_V ir233 [.tmp 0]:=c0 [] Tryz.func233
noncomputable def ir235_k0:IR:= .reg [za 5 (zI .add (zv 5) (.const (zk 1)))]
noncomputable def ir235_k1:IR:= .seq (.block 1 (zq [za 17 (zS .eql (zl (zx 1 (zv 0) (zv 5))) (zv 1))] <| .cond (zv 17) (zq [za 4 (.const (zb true))] <| .ret) (.skip))) (ir235_k0)
noncomputable def ir235_l2:IR:=zq [za 9 (zI .lss (zv 5) (zL (zv 0)))] <| .seq (.cond (zv 9) (.skip) (.exit 0)) (ir235_k1)
noncomputable def ir235_k3:IR:=zq [za 4 (.const (zb false))] <| .ret
noncomputable def ir235:IR:=zq [za 4 (.const (zb false)),za 5 (.const (zk 0))] <| .seq (.block 0 (.loop ir235_l2)) (ir235_k3)
def ir235_V:List Nat:=[0,1,4,5,9,17]
theorem ir235_calls:C2 235 18 ir235_V ir235 [.tmp 4]:=c2 [] Tryz.func235
noncomputable def ir115_body:Code:=((Tryz.f115.body).getD .skip)
noncomputable def ir115_c0:Code:=(rfList ir115_body).getD 0 .skip
noncomputable def ir115_k0:IR:= .ret
noncomputable def ir115_k1:IR:= .seq (.raw (rawReg ir115_body 8)) (ir115_k0)
noncomputable def ir115_k2:IR:=zq [zE 11 (.makeFunc (.func 200) #[] #[zt 2,zt 3,zt 4]) 1, .eff none none (.defer {callee:= .value (zt 11),args:= #[],argTypes:= #[]}) 0,za 12 (zv 0),zE 13 (.build 215 #[(0,(zt 12)),(2,(.const (zk 1)))]) 215,zE 14 (.build 217 #[(0,(zt 13))]) 217,zE 15 (.box 217 (zt 14)) 213,za 5 (zv 15),za 16 (zv 5),zE 17 (.makeFunc (.func 201) #[zt 16] #[]) 218] <| .seq (.block 0 (.raw ir115_c0)) (ir115_k1)
noncomputable def ir115:IR:=zq [zE 2 (.alloc 48) 0,zE 3 (.alloc 51) 0,zE 4 (.alloc 26) 0,za 9 (zI .gtr (zT (zv 0)) (.const (zk 20000)))] <| .seq (.cond (zv 9) (zq [zE 10 (.build 26 #[(0,(.const (zk 2)))]) 26,zw 48 (zt 2) (.const (.slice none 0 0)),zw 51 (zt 3) (.const (.slice none 0 0)),zw 26 (zt 4) (zt 10)] <| .ret) (.skip)) (ir115_k2)
def ir115_V:List Nat:=[0,2,3,4,5,6,9,10,11,12,13,14,15,16,17,18,19,20,21,22,23,24,25,26,27,28]
noncomputable def ir115_a0:IR:= .reg [zE 6 (.alloc 53) 0,zw 53 (zt 6) (zt 18)]
noncomputable def ir115_b0:IR:= .block 1 (.reg [za 19 (zl (zv 2)),za 20 (zM 3 (zv 6)),zE 21 (.buildSlice 48 1 #[(0,(zt 20))]) 48,zp 22 #[zt 19,zt 21] #[48,48] 48,zw 48 (zt 2) (zt 22)])
theorem ir115_rf0:∃A B,ir115_c0= .rangeFunc (.tmp 17) #[18] A B∧Part Tryz.prog 29 ir115_V A ir115_a0∧Part Tryz.prog 29 ir115_V B ir115_b0:=
 ⟨rfA ir115_c0,rfB ir115_c0,by kernel_rfl,⟨by kernel_rfl,by kernel_rfl⟩,⟨by kernel_rfl,by kernel_rfl⟩⟩
theorem ir115_ok:(comp Tryz.prog Tryz.f115.ntmps ir115_V [8] (Tryz.f115.body.getD .skip)).map IR.norm=some ir115:=by kernel_rfl
theorem ir115_calls {v0:Value} {w:World} {R:Ending→World→Prop} (h:∀ρ:Env,ρ 0=v0→ρ gS= .tuple #[]→ir115.wp ⟨Tryz.prog,29,ir115_V,dAny⟩ (endK Tryz.prog [.cell1 2, .cell1 3, .cellN 4 2] R .returning) (ksD Tryz.prog [.cell1 2, .cell1 3, .cellN 4 2] R) ρ w):
  Calls Tryz.prog 115 #[v0] w R:=by
 obtain ⟨ir0,h1,h2⟩:=Option.map_eq_some_iff.1 ir115_ok
 exact calls_irD (args:= #[v0]) Tryz.func115 (c:=(Tryz.f115.body.getD .skip)) rfl h1 h2 (by kernel_rfl) (show rvsOf Tryz.prog ir115_V Tryz.f115.results.toList=some [.cell1 2, .cell1 3, .cellN 4 2] by kernel_rfl) (Nat.le_of_ble_eq_true rfl) (h _ rfl rfl)
noncomputable def ir115_o8:OT:=zy 23 (zl (zv 2))<|zy 24 (zv 5)<|zy 25 (zN (zv 24))<|zy 26 (zf 3 (zv 25))<|zy 27 (zl (zv 26))<| .both (.step (zE 28 (.build 26 #[]) 26) true<| .step (zw 48 (zt 2) (zt 23)) true<| .step (zw 51 (zt 3) (zt 27)) true<| .step (zw 26 (zt 4) (zt 28)) false<| .done)<| .step (zw 48 (zt 2) (zt 23)) true<| .both (.step (zE 28 (.build 26 #[]) 26) true<| .step (zw 51 (zt 3) (zt 27)) true<| .step (zw 26 (zt 4) (zt 28)) false<| .done)<| .step (zw 51 (zt 3) (zt 27)) true<| .step (zE 28 (.build 26 #[]) 26) true<| .step (zw 26 (zt 4) (zt 28)) false<| .done
theorem ir115_o8_ok:ordOf Tryz.prog 29 ir115_V 8 (rawReg ir115_body 8)=some ir115_o8:=by kernel_rfl
noncomputable def ir87_k0:IR:= .reg [za 37 (zv 5),za 38 (zv 10),za 44 (.op3 .stLoHi (zv 0) (zv 8) (zI .add (zv 8) (zv 11))),za 45 (zv 7),zE 46 (.build 53 #[(0,(zt 38)),(1,(zt 44)),(2,(zt 45))]) 53,zE 47 (.buildSlice 48 1 #[(0,(zt 46))]) 48,zp 48 #[zt 37,zt 47] #[48,48] 48,za 5 (zv 48),za 8 (zI .add (zv 8) (zv 11))]
noncomputable def ir87_k1:IR:= .cond (zv 58) (.reg [za 8 (zI .add (zv 8) (.const (zk 1)))]) (zq [za 63 (zB .eql (zv 23) (.const (zu 37)))] <| .cond (zv 63) (.reg [za 67 (.op2 .stLo (zv 0) (zv 8)),zc 68 175 #[zt 67] #[9] 3,za 9 (zv 68),za 69 (zv 6),za 75 (.op3 .stLoHi (zv 0) (zv 8) (zI .add (zv 8) (zv 9))),zE 76 (.buildSlice 51 1 #[(0,(zt 75))]) 51,zp 77 #[zt 69,zt 76] #[51,51] 51,za 6 (zv 77),za 8 (zI .add (zv 8) (zv 9))]) (zq [za 27 (.op2 .stLo (zv 0) (zv 8)),zc 28 176 #[zt 27] #[9] 194,za 24 (zv 28),za 29 (ze 0 (zv 24)),za 30 (ze 1 (zv 24)),za 31 (ze 2 (zv 24)),za 10 (zv 29),za 11 (zv 30),za 12 (zv 31),za 33 (zI .neq (zv 12) (.const (zk 0)))] <| .seq (.cond (zv 33) (zq [za 34 (zv 12),za 35 (zv 7),zE 36 (.build 26 #[(0,(zt 34)),(1,(zt 35))]) 26,za 2 (.const (.slice none 0 0)),za 3 (.const (.slice none 0 0)),zw 26 (zt 4) (zt 36)] <| .ret) (.skip)) (ir87_k0)))
noncomputable def ir87_k2:IR:= .block 1 (zq [za 23 (.op2 .ixs (zv 0) (zv 8))] <| .block 2 (zq [za 52 (zB .eql (zv 23) (.const (zu 10)))] <| .cond (zv 52) (.reg [za 7 (zI .add (zv 7) (.const (zk 1))),za 8 (zI .add (zv 8) (.const (zk 1)))]) (zq [za 58 (zB .eql (zv 23) (.const (zu 32)))] <| .seq (.cond (zv 58) (.skip) (.reg [za 58 (zB .eql (zv 23) (.const (zu 9)))])) (ir87_k1))))
noncomputable def ir87_l3:IR:=zq [za 20 (zI .lss (zv 8) (zT (zv 0)))] <| .seq (.cond (zv 20) (.skip) (.exit 0)) (ir87_k2)
noncomputable def ir87_k4:IR:=zq [za 81 (zv 5),za 82 (zv 6),zE 83 (.build 26 #[]) 26,za 2 (zv 81),za 3 (zv 82),zw 26 (zt 4) (zt 83)] <| .ret
noncomputable def ir87_k5:IR:=zq [za 5 (.const (.slice none 0 0)),za 6 (.const (.slice none 0 0)),za 7 (.const (zk 1)),za 8 (.const (zk 0))] <| .seq (.block 0 (.loop ir87_l3)) (ir87_k4)
noncomputable def ir87:IR:=zq [za 2 (.const (.slice none 0 0)),za 3 (.const (.slice none 0 0)),zE 4 (.alloc 26) 0,za 15 (zI .gtr (zT (zv 0)) (.const (zk 20000)))] <| .seq (.cond (zv 15) (zq [zE 16 (.build 26 #[(0,(.const (zk 2)))]) 26,za 2 (.const (.slice none 0 0)),za 3 (.const (.slice none 0 0)),zw 26 (zt 4) (zt 16)] <| .ret) (.skip)) (ir87_k5)
def ir87_V:List Nat:=[0,2,3,4,5,6,7,8,9,10,11,12,15,16,20,23,24,27,28,29,30,31,33,34,35,36,37,38,44,45,46,47,48,52,58,63,67,68,69,75,76,77,81,82,83]
theorem ir87_calls:C1 87 84 ir87_V ir87 [.tmp 2, .tmp 3, .cellN 4 2]:=c1 [] Tryz.func87
noncomputable def ir231_k0:IR:= .block 1 (zq [za 13 (ze 1 (zv 11)),za 14 (ze 2 (zv 11)),za 7 (zv 13),za 8 (zv 14),za 15 (zv 1),za 16 (zv 8),zE 17 (.call {callee:= .value (zt 15),args:= #[zt 16],argTypes:= #[21]}) 4,za 19 (.op2 (.bbin .eql) (zv 17) (zv 2))] <| .cond (zv 19) (zq [za 6 (zv 7)] <| .ret) (.skip))
noncomputable def ir231_l1:IR:=zq [zE 11 (.next (zt 10) true) 0,za 12 (ze 0 (zv 11))] <| .seq (.cond (zv 12) (.skip) (.exit 0)) (ir231_k0)
noncomputable def ir231_k2:IR:=zq [za 6 (.const (.int .i64 (-1)))] <| .ret
noncomputable def ir231:IR:=zq [za 6 (.const (zk 0)),za 9 (zv 0),zE 10 (.range 9 (zt 9)) 0] <| .seq (.block 0 (.loop ir231_l1)) (ir231_k2)
def ir231_V:List Nat:=[0,1,2,6,7,8,9,10,11,12,13,14,15,16,17,19]
theorem ir231_calls:C3 231 21 ir231_V ir231 [.tmp 6]:=c3 [] Tryz.func231
noncomputable def ir232:IR:=zq [za 2 (.const (zb false)),za 2 (.ite (zB .geq (zv 0) (.const (zu 48))) (zB .leq (zv 0) (.const (zu 57))) (.const (zb false)))] <| .ret
def ir232_V:List Nat:=[0,2]
theorem ir232_calls:C1 232 9 ir232_V ir232 [.tmp 2]:=c1 [] Tryz.func232
noncomputable def ir234:IR:=zq [za 2 (.const (zb false)),za 2 (.ite (zB .geq (zv 0) (.const (zu 48))) (zB .leq (zv 0) (.const (zu 57))) (.const (zb false)))] <| .ret
def ir234_V:List Nat:=[0,2]
theorem ir234_calls:C1 234 9 ir234_V ir234 [.tmp 2]:=c1 [] Tryz.func234
noncomputable def ir201_k0:IR:= .reg [za 18 (zv 0),zc 19 266 #[zt 18] #[213] 0]
noncomputable def ir201_k1:IR:= .seq (.block 1 (zq [za 20 (zv 1),za 21 (zv 0),zc 22 267 #[zt 21] #[213] 53,zE 23 (.call {callee:= .value (zt 20),args:= #[zt 22],argTypes:= #[53]}) 4,za 24 (zn (zv 23))] <| .cond (zv 24) (.ret) (.skip))) (ir201_k0)
noncomputable def ir201_k2:IR:= .seq (.cond (zv 17) (.skip) (.exit 0)) (ir201_k1)
noncomputable def ir201_l3:IR:= .seq (.drw [za 17 (zI .lss (zo 1 (zf 0 (zN (zv 0)))) (zT (zo 0 (zf 0 (zN (zv 0))))))]) (ir201_k2)
noncomputable def ir201:IR:=zq [za 4 (zv 0),zc 5 266 #[zt 4] #[213] 0] <| .block 0 (.loop ir201_l3)
def ir201_V:List Nat:=[0,1,4,5,17,18,19,20,21,22,23,24]
theorem ir201_calls:C2 201 25 ir201_V ir201 []:=c2 [] Tryz.func201
noncomputable def ir175_k0:IR:= .block 1 (.reg [za 3 (zI .add (zv 3) (.const (zk 1)))])
noncomputable def ir175_l1:IR:=zq [za 13 (.ite (zI .lss (zv 3) (zT (zv 0))) (zB .neq (.op2 .ixs (zv 0) (zv 3)) (.const (zu 10))) (.const (zb false)))] <| .seq (.cond (zv 13) (.skip) (.exit 0)) (ir175_k0)
noncomputable def ir175_k2:IR:=zq [za 2 (zv 3)] <| .ret
noncomputable def ir175:IR:=zq [za 2 (.const (zk 0)),za 3 (.const (zk 0))] <| .seq (.block 0 (.loop ir175_l1)) (ir175_k2)
def ir175_V:List Nat:=[0,2,3,13]
theorem ir175_calls:C1 175 17 ir175_V ir175 [.tmp 2]:=c1 [] Tryz.func175
noncomputable def ir176_body:Code:=((Tryz.f176.body).getD .skip)
noncomputable def ir176_k0:IR:=zq [za 21 (zv 6),za 2 (.const (zu 1)),za 3 (zv 21),za 4 (.const (zk 0))] <| .ret
noncomputable def ir176_k1:IR:=zq [za 20 (zI .gtr (zv 6) (.const (zk 12)))] <| .seq (.cond (zv 20) (zq [za 2 (.const (zu 0)),za 3 (.const (zk 0)),za 4 (.const (zk 12))] <| .ret) (.skip)) (ir176_k0)
noncomputable def ir176_k2:IR:=zq [za 31 (zv 7),za 2 (.const (zu 3)),za 3 (zv 31),za 4 (.const (zk 0))] <| .ret
noncomputable def ir176_k3:IR:=zq [za 2 (.const (zu 0)),za 3 (.const (zk 0)),za 4 (.const (zk 10))] <| .ret
noncomputable def ir176_k4:IR:= .seq (.cond (zv 44) (zq [za 2 (.const (zu 4)),za 3 (.const (zk 1)),za 4 (.const (zk 0))] <| .ret) (.skip)) (ir176_k3)
noncomputable def ir176_k5:IR:= .seq (.raw (rawReg ir176_body 16)) (ir176_k4)
noncomputable def ir176_k6:IR:= .seq (.cond (zv 40) (zq [za 2 (.const (zu 4)),za 3 (.const (zk 2)),za 4 (.const (zk 0))] <| .ret) (.skip)) (ir176_k5)
noncomputable def ir176_k7:IR:= .seq (.raw (rawReg ir176_body 14)) (ir176_k6)
noncomputable def ir176_k8:IR:=zq [za 22 (zv 5),zc 23 234 #[zt 22] #[5] 4] <| .seq (.cond (zv 23) (zq [za 24 (zv 0),zc 25 244 #[zt 24] #[9] 3,za 7 (zv 25),za 28 (.op3 .stLoHi (zv 0) (.const (zk 0)) (zv 7)),zc 29 245 #[zt 28] #[9] 4,za 30 (zn (zv 29))] <| .seq (.cond (zv 30) (zq [za 2 (.const (zu 0)),za 3 (.const (zk 0)),za 4 (.const (zk 11))] <| .ret) (.skip)) (ir176_k2)) (.skip)) (ir176_k7)
noncomputable def ir176:IR:=zq [za 2 (.const (zu 0)),za 3 (.const (zk 0)),za 4 (.const (zk 0)),za 5 (.op2 .ixs (zv 0) (.const (zk 0))),za 10 (zv 5),zc 11 167 #[zt 10] #[5] 4] <| .seq (.cond (zv 11) (zq [za 12 (zv 0),zc 13 168 #[zt 12] #[9] 3,za 6 (zv 13),za 16 (.op3 .stLoHi (zv 0) (.const (zk 0)) (zv 6)),zc 17 169 #[zt 16] #[9] 4] <| .seq (.cond (zv 17) (zq [za 18 (zv 6),za 2 (.const (zu 2)),za 3 (zv 18),za 4 (.const (zk 0))] <| .ret) (.skip)) (ir176_k1)) (.skip)) (ir176_k8)
def ir176_V:List Nat:=[0,2,3,4,5,6,7,10,11,12,13,16,17,18,20,21,22,23,24,25,28,29,30,31,32,33,34,35,36,37,38,39,40,41,42,43,44]
theorem ir176_calls:C1 176 45 ir176_V ir176 [.tmp 2, .tmp 3, .tmp 4]:=c1 [16,14] Tryz.func176
noncomputable def ir176_o14:OT:=zy 32 (zv 0)<|zy 33 (zT (zv 32))<|zy 34 (zI .gtr (zv 33) (.const (zk 1)))<|zy 35 (zv 34)<| .take (some (35,true)) 37 (zv 0)<| .take (some (35,true)) 38 (.op3 .stLoHi (zv 37) (.const (zk 0)) (.const (zk 2)))<| .step (zh 35 true 36 246 #[] #[] 51) true<| .step (zh 35 true 39 235 #[zt 36,zt 38] #[51,9] 4) false<| .step (za 40 (.ite (zv 35) (zv 39) (.const (zb false)))) false<| .done
theorem ir176_o14_ok:ordOf Tryz.prog 45 ir176_V 7 (rawReg ir176_body 14)=some ir176_o14:=by kernel_rfl
noncomputable def ir176_o16:OT:=zy 42 (zv 0)<|zy 43 (.op3 .stLoHi (zv 42) (.const (zk 0)) (.const (zk 1)))<| .step (zc 41 246 #[] #[] 51) true<| .step (zc 44 235 #[zt 41,zt 43] #[51,9] 4) false<| .done
theorem ir176_o16_ok:ordOf Tryz.prog 45 ir176_V 3 (rawReg ir176_body 16)=some ir176_o16:=by kernel_rfl
noncomputable def ir309:IR:=zq [za 2 (.const (zb false)),za 6 (zv 0),zc 7 273 #[zt 6] #[9] 127,za 5 (zv 7),za 8 (ze 0 (zv 5)),za 9 (ze 1 (zv 5)),za 3 (zv 8),za 4 (zv 9),za 10 (zv 4),zE 11 (.binOp .eql 126 (zt 10) (.const .nilIface) 126) 4,za 20 (.ite (.ite (zv 11) (zI .geq (zv 3) (.const (zk 0))) (.const (zb false))) (zI .leq (zv 3) (.const (zk 1000000000))) (.const (zb false))),zg 20 true 21 (zv 3),zh 20 true 22 171 #[zt 21] #[3] 9,za 2 (.ite (zv 20) (zS .eql (zv 22) (zv 0)) (.const (zb false)))] <| .ret
def ir309_V:List Nat:=[0,2,3,4,5,6,7,8,9,10,11,20,21,22]
theorem ir309_calls:C1 309 26 ir309_V ir309 [.tmp 2]:=c1 [] Tryz.func309
noncomputable def ir160:IR:=zq [za 4 (.const (zb false)),za 5 (zv 0),za 6 (zv 1),zc 7 229 #[zt 5,zt 6] #[51,9] 3,za 4 (zI .geq (zv 7) (.const (zk 0)))] <| .ret
def ir160_V:List Nat:=[0,1,4,5,6,7]
theorem ir160_calls:C2 160 9 ir160_V ir160 [.tmp 4]:=c2 [] Tryz.func160
noncomputable def ir245_k0:IR:=zq [za 2 (.ite (zI .lss (zT (zv 0)) (.const (zk 10))) (.const (zb true)) (zS .eql (zv 0) (.const (zs #[49,48,48,48,48,48,48,48,48,48]))))] <| .ret
noncomputable def ir245:IR:=zq [za 2 (.const (zb false)),za 11 (.ite (zI .eql (zT (zv 0)) (.const (zk 0))) (.const (zb true)) (zI .gtr (zT (zv 0)) (.const (zk 10)))),zg 11 false 12 (zv 0),zh 11 false 13 244 #[zt 12] #[9] 3,za 27 (.ite (.ite (zv 11) (.const (zb true)) (zI .neq (zv 13) (zT (zv 0)))) (.const (zb true)) (.ite (zI .gtr (zT (zv 0)) (.const (zk 1))) (zB .eql (.op2 .ixs (zv 0) (.const (zk 0))) (.const (zu 48))) (.const (zb false))))] <| .seq (.cond (zv 27) (zq [za 2 (.const (zb false))] <| .ret) (.skip)) (ir245_k0)
def ir245_V:List Nat:=[0,2,11,12,13,27]
theorem ir245_calls:C1 245 35 ir245_V ir245 [.tmp 2]:=c1 [] Tryz.func245
noncomputable def ir266_body:Code:=(scopeBody ((Tryz.f266.body).getD .skip))
noncomputable def ir266_k0:IR:= .raw (rawReg ir266_body 8)
noncomputable def ir266_k1:IR:= .cond (zv 36) (zq [za 51 (zf 0 (zN (zv 0))),zc 52 306 #[zt 51] #[215] 9,zc 53 305 #[zt 52,(.const (zu 10))] #[9,5] 3,za 3 (zv 53),za 55 (zI .lss (zv 3) (.const (zk 0)))] <| .seq (.cond (zv 55) (.reg [za 58 (zf 0 (zN (zv 0))),zc 59 306 #[zt 58] #[215] 9,za 3 (zT (zv 59))]) (.skip)) (ir266_k0)) (.exit 0)
noncomputable def ir266_k2:IR:= .cond (zv 18) (.reg [za 34 (zf 0 (zN (zv 0))),zc 35 304 #[zt 34,(.const (zk 1))] #[215,3] 9]) (.seq (.drw [za 36 (zB .eql (.op2 .ixs (zo 0 (zf 0 (zN (zv 0)))) (zo 1 (zf 0 (zN (zv 0))))) (.const (zu 37)))]) (ir266_k1))
noncomputable def ir266_k3:IR:= .block 1 (.block 2 (.seq (.raw (rawReg ir266_body 2)) (ir266_k2)))
noncomputable def ir266_k4:IR:= .seq (.cond (zv 17) (.skip) (.exit 0)) (ir266_k3)
noncomputable def ir266_l5:IR:= .seq (.drw [za 17 (zI .lss (zo 1 (zf 0 (zN (zv 0)))) (zT (zo 0 (zf 0 (zN (zv 0))))))]) (ir266_k4)
noncomputable def ir266_k6:IR:= .block 0 (.loop ir266_l5)
noncomputable def ir266:IR:=zq [zc 4 303 #[] #[] 289,zE 5 (.index 289 (zt 4) (.const (zk 2))) 288,za 2 (zv 5)] <| .seq (.raw (.label 0)) (ir266_k6)
def ir266_V:List Nat:=[0,2,3,4,5,17,18,19,20,21,22,23,24,25,26,27,28,29,30,31,34,35,36,51,52,53,55,58,59,61,62,63,64,65,66,67,68,69,70,71,72,73,74]
theorem ir266_ok:(comp Tryz.prog Tryz.f266.ntmps ir266_V [8,2] (scopeBody (Tryz.f266.body.getD .skip))).map IR.norm=some ir266:=by kernel_rfl
theorem ir266_calls {v0:Value} {w:World} {R:Ending→World→Prop} (h:∀ρ:Env,ρ 0=v0→ir266.wp ⟨Tryz.prog,75,ir266_V,[]⟩ (retK [] R) (ksOf [] R) ρ w):
  Calls Tryz.prog 266 #[v0] w R:=by
 obtain ⟨ir0,h1,h2⟩:=Option.map_eq_some_iff.1 ir266_ok
 exact calls_irS (args:= #[v0]) Tryz.func266 (c:=(scopeBody (Tryz.f266.body.getD .skip))) rfl h1 h2 (by kernel_rfl) (show rvsOf Tryz.prog ir266_V Tryz.f266.results.toList=some [] by kernel_rfl) (Nat.le_of_ble_eq_true rfl) (h _ rfl)
noncomputable def ir266_o2:OT:=zy 19 (zv 2)<|zy 20 (zv 0)<|zy 21 (zN (zv 20))<|zy 22 (zf 0 (zv 21))<|zy 23 (zf 0 (zv 22))<|zy 24 (zl (zv 23))<|zy 25 (zv 0)<|zy 26 (zN (zv 25))<|zy 27 (zf 0 (zv 26))<|zy 28 (zf 1 (zv 27))<|zy 29 (zl (zv 28))<|zy 30 (.op2 .ixs (zv 24) (zv 29))<| .step (zE 31 (.call {callee:= .value (zt 19),args:= #[zt 30],argTypes:= #[188]}) 4) false<| .step (za 18 (zv 31)) false<| .done
theorem ir266_o2_ok:ordOf Tryz.prog 75 ir266_V 12 (rawReg ir266_body 2)=some ir266_o2:=by kernel_rfl
noncomputable def ir266_o8:OT:=zy 61 (zv 0)<|zy 62 (zv 0)<|zy 63 (zN (zv 62))<|zy 64 (zf 3 (zv 63))<|zy 65 (zl (zv 64))<|zy 66 (zv 0)<|zy 67 (zN (zv 66))<|zy 68 (zf 0 (zv 67))<|zy 69 (zv 3)<| .step (zc 70 304 #[zt 68,zt 69] #[215,3] 9) true<| .step (zE 71 (.buildSlice 51 1 #[(0,(zt 70))]) 51) true<| .step (zp 72 #[zt 65,zt 71] #[51,51] 51) true<| .step (za 73 (zN (zv 61))) false<| .step (za 74 (zf 3 (zv 73))) false<| .step (zw 51 (zt 74) (zt 72)) false<| .done
theorem ir266_o8_ok:ordOf Tryz.prog 75 ir266_V 12 (rawReg ir266_body 8)=some ir266_o8:=by kernel_rfl
noncomputable def ir267_body:Code:=((Tryz.f267.body).getD .skip)
noncomputable def ir267_k0:IR:= .reg [za 83 (zf 0 (zN (zv 0))),za 84 (zv 6),zc 85 304 #[zt 83,zt 84] #[215,3] 9,za 86 (zf 1 (zv 3)),zw 9 (zt 86) (zt 85)]
noncomputable def ir267_k1:IR:=zq [za 69 (zf 0 (zN (zv 0))),zc 70 306 #[zt 69] #[215] 9,za 7 (.op3 .stLoHi (zv 70) (.const (zk 0)) (zv 6)),za 73 (zf 0 (zv 3)),zw 5 (zt 73) (.const (zu 1)),za 74 (zv 7),zc 75 166 #[zt 74] #[9] 4] <| .seq (.cond (zv 75) (.reg [za 76 (zf 0 (zv 3)),zw 5 (zt 76) (.const (zu 2))]) (zq [za 78 (zI .gtr (zv 6) (.const (zk 12)))] <| .cond (zv 78) (.reg [za 79 (zv 0),zc 80 308 #[zt 79,(.const (zk 12))] #[213,24] 0]) (.skip))) (ir267_k0)
noncomputable def ir267_k2:IR:= .reg [za 106 (zf 0 (zv 3)),zw 5 (zt 106) (.const (zu 3)),za 109 (zf 0 (zN (zv 0))),za 110 (zv 8),zc 111 304 #[zt 109,zt 110] #[215,3] 9,za 112 (zf 1 (zv 3)),zw 9 (zt 112) (zt 111)]
noncomputable def ir267_k3:IR:=zq [za 98 (zf 0 (zN (zv 0))),zc 99 306 #[zt 98] #[215] 9,za 101 (.op3 .stLoHi (zv 99) (.const (zk 0)) (zv 8)),zc 102 309 #[zt 101] #[9] 4,za 103 (zn (zv 102))] <| .seq (.cond (zv 103) (.reg [za 104 (zv 0),zc 105 308 #[zt 104,(.const (zk 11))] #[213,24] 0]) (.skip)) (ir267_k2)
noncomputable def ir267_k4:IR:= .reg [za 32 (zI .add (zv 32) (.const (zk 1)))]
noncomputable def ir267_k5:IR:= .seq (.block 2 (zq [za 11 (zl (zx 1 (zv 30) (zv 32))),za 38 (zf 0 (zN (zv 0))),zc 39 306 #[zt 38] #[215] 9,za 40 (zv 11),zc 41 311 #[zt 39,zt 40] #[9,9] 4] <| .cond (zv 41) (.reg [za 42 (zv 9),za 44 (zT (zv 11)),zE 45 (.call {callee:= .builtin .max,args:= #[zt 42,zt 44],argTypes:= #[3,3]}) 3,za 9 (zv 45)]) (.skip))) (ir267_k4)
noncomputable def ir267_l6:IR:=zq [za 33 (zI .lss (zv 32) (zv 31))] <| .seq (.cond (zv 33) (.skip) (.exit 1)) (ir267_k5)
noncomputable def ir267_k7:IR:= .reg [za 51 (zf 0 (zv 3)),zw 5 (zt 51) (.const (zu 4)),za 54 (zf 0 (zN (zv 0))),za 55 (zv 9),zc 56 304 #[zt 54,zt 55] #[215,3] 9,za 57 (zf 1 (zv 3)),zw 9 (zt 57) (zt 56)]
noncomputable def ir267_k8:IR:=zq [za 48 (zI .eql (zv 9) (.const (zk 0)))] <| .seq (.cond (zv 48) (.reg [za 49 (zv 0),zc 50 308 #[zt 49,(.const (zk 10))] #[213,24] 0]) (.skip)) (ir267_k7)
noncomputable def ir267_k9:IR:=zq [za 113 (zM 3 (zv 3)),zw 53 (zt 2) (zt 113)] <| .ret
noncomputable def ir267_k10:IR:= .seq (.block 0 (zq [za 59 (zv 5),zc 60 162 #[zt 59] #[188] 4,za 58 (zv 60)] <| .cond (zv 58) (.seq (.raw (rawReg ir267_body 16)) (ir267_k1)) (zq [za 88 (zv 5),zc 89 232 #[zt 88] #[188] 4,za 87 (zv 89)] <| .cond (zv 87) (.seq (.raw (rawReg ir267_body 25)) (ir267_k3)) (zq [za 9 (.const (zk 0)),zc 30 310 #[] #[] 51,za 31 (zL (zv 30)),za 32 (.const (zk 0))] <| .seq (.block 1 (.loop ir267_l6)) (ir267_k8))))) (ir267_k9)
noncomputable def ir267:IR:=zq [zE 2 (.alloc 53) 0,za 16 (zo 2 (zf 0 (zN (zv 0)))),zE 17 (.build 53 #[(2,(zt 16))]) 53,zE 3 (.alloc 53) 0,zw 53 (zt 3) (zt 17),zc 18 303 #[] #[] 289,zE 4 (.alloc 289) 0,zw 289 (zt 4) (zt 18)] <| .seq (.drw [za 5 (.op2 .ixs (zo 0 (zf 0 (zN (zv 0)))) (zo 1 (zf 0 (zN (zv 0)))))]) (ir267_k10)
def ir267_V:List Nat:=[0,2,3,4,5,6,7,8,9,11,16,17,18,30,31,32,33,38,39,40,41,42,44,45,48,49,50,51,54,55,56,57,58,59,60,61,62,63,64,65,66,69,70,73,74,75,76,78,79,80,83,84,85,86,87,88,89,90,91,92,93,94,95,98,99,101,102,103,104,105,106,109,110,111,112,113]
theorem ir267_calls:C1 267 114 ir267_V ir267 [.cellN 2 3]:=c1 [25,16] Tryz.func267
noncomputable def ir267_o16:OT:=zy 61 (zv 0)<|zy 62 (zN (zv 61))<|zy 63 (zf 0 (zv 62))<| .step (zE 64 (.indexAddr 289 (zt 4) (.const (zk 0))) 0) true<|zy 65 (zl (zv 64))<| .step (zc 66 307 #[zt 63,zt 65] #[215,288] 3) false<| .step (za 6 (zv 66)) false<| .done
theorem ir267_o16_ok:ordOf Tryz.prog 114 ir267_V 5 (rawReg ir267_body 16)=some ir267_o16:=by kernel_rfl
noncomputable def ir267_o25:OT:=zy 90 (zv 0)<|zy 91 (zN (zv 90))<|zy 92 (zf 0 (zv 91))<| .step (zE 93 (.indexAddr 289 (zt 4) (.const (zk 1))) 0) true<|zy 94 (zl (zv 93))<| .step (zc 95 307 #[zt 92,zt 94] #[215,288] 3) false<| .step (za 8 (zv 95)) false<| .done
theorem ir267_o25_ok:ordOf Tryz.prog 114 ir267_V 5 (rawReg ir267_body 25)=some ir267_o25:=by kernel_rfl
noncomputable def ir244_k0:IR:= .block 1 (.reg [za 3 (zI .add (zv 3) (.const (zk 1)))])
noncomputable def ir244_l1:IR:=zq [za 8 (zI .lss (zv 3) (zT (zv 0))),zg 8 true 11 (.op2 .ixs (zv 0) (zv 3)),zh 8 true 12 234 #[zt 11] #[5] 4,za 13 (.ite (zv 8) (zv 12) (.const (zb false)))] <| .seq (.cond (zv 13) (.skip) (.exit 0)) (ir244_k0)
noncomputable def ir244_k2:IR:=zq [za 2 (zv 3)] <| .ret
noncomputable def ir244:IR:=zq [za 2 (.const (zk 0)),za 3 (.const (zk 0))] <| .seq (.block 0 (.loop ir244_l1)) (ir244_k2)
def ir244_V:List Nat:=[0,2,3,8,11,12,13]
theorem ir244_calls:C1 244 17 ir244_V ir244 [.tmp 2]:=c1 [] Tryz.func244
noncomputable def ir229_k0:IR:= .reg [za 8 (zI .add (zv 8) (.const (zk 1)))]
noncomputable def ir229_k1:IR:= .seq (.block 1 (zq [za 5 (zv 8),za 16 (zS .eql (zv 1) (zl (zx 1 (zv 0) (zv 5))))] <| .cond (zv 16) (zq [za 4 (zv 5)] <| .ret) (.skip))) (ir229_k0)
noncomputable def ir229_l2:IR:=zq [za 9 (zI .lss (zv 8) (zv 7))] <| .seq (.cond (zv 9) (.skip) (.exit 0)) (ir229_k1)
noncomputable def ir229_k3:IR:=zq [za 4 (.const (.int .i64 (-1)))] <| .ret
noncomputable def ir229:IR:=zq [za 4 (.const (zk 0)),za 7 (zL (zv 0)),za 8 (.const (zk 0))] <| .seq (.block 0 (.loop ir229_l2)) (ir229_k3)
def ir229_V:List Nat:=[0,1,4,5,7,8,9,16]
theorem ir229_calls:C2 229 19 ir229_V ir229 [.tmp 4]:=c2 [] Tryz.func229
noncomputable def ir303:IR:=zq [zE 0 (.alloc 289) 0,zE 1 (.build 289 #[(0,(.func 165)),(1,(.func 232)),(2,(.func 346))]) 289,zw 289 (zt 0) (zt 1)] <| .ret
def ir303_V:List Nat:=[0,1]
theorem ir303_calls:C0 303 2 ir303_V ir303 [.cellN 0 3]:=c0 [] Tryz.func303
noncomputable def ir304_body:Code:=((Tryz.f304.body).getD .skip)
noncomputable def ir304_k0:IR:=zq [za 30 (zv 0),za 35 (zI .add (zo 1 (zN (zv 30))) (zv 1)),za 37 (zf 1 (zN (zv 30))),zw 3 (zt 37) (zt 35),za 4 (zv 5)] <| .ret
noncomputable def ir304_k1:IR:= .seq (.raw (rawReg ir304_body 2)) (ir304_k0)
noncomputable def ir304:IR:=zq [za 4 (.const (zs #[]))] <| .seq (.drw [za 5 (.op3 .stLoHi (zo 0 (zN (zv 0))) (zo 1 (zN (zv 0))) (zI .add (zo 1 (zN (zv 0))) (zv 1)))]) (ir304_k1)
def ir304_V:List Nat:=[0,1,4,5,21,22,23,24,25,26,27,28,29,30,35,37]
theorem ir304_calls:C2 304 39 ir304_V ir304 [.tmp 4]:=c2 [2] Tryz.func304
noncomputable def ir304_o2:OT:=zy 21 (zv 0)<|zy 22 (zN (zv 21))<|zy 23 (zf 2 (zv 22))<|zy 24 (zl (zv 23))<|zy 25 (zv 5)<| .step (zE 26 (.call {callee:= .value (.func 198),args:= #[zt 25,(.const (zs #[10]))],argTypes:= #[9,9]}) 3) true<| .step (za 27 (zI .add (zv 24) (zv 26))) false<| .step (za 28 (zN (zv 21))) false<| .step (za 29 (zf 2 (zv 28))) false<| .step (zw 3 (zt 29) (zt 27)) false<| .done
theorem ir304_o2_ok:ordOf Tryz.prog 39 ir304_V 6 (rawReg ir304_body 2)=some ir304_o2:=by kernel_rfl
noncomputable def ir306_k0:IR:= .ret
noncomputable def ir306:IR:=zq [za 2 (.const (zs #[]))] <| .seq (.drw [za 2 (.op2 .stLo (zo 0 (zN (zv 0))) (zo 1 (zN (zv 0))))]) (ir306_k0)
def ir306_V:List Nat:=[0,2]
theorem ir306_calls:C1 306 12 ir306_V ir306 [.tmp 2]:=c1 [] Tryz.func306
noncomputable def ir307_k0:IR:= .reg [za 11 (zI .add (zv 11) (.const (zk 1)))]
noncomputable def ir307_k1:IR:= .seq (.block 1 (zq [za 6 (zv 11),za 14 (zv 1),za 17 (.op2 .ixs (zv 5) (zv 6)),zE 18 (.call {callee:= .value (zt 14),args:= #[zt 17],argTypes:= #[188]}) 4,za 19 (zn (zv 18))] <| .cond (zv 19) (zq [za 4 (zv 6)] <| .ret) (.skip))) (ir307_k0)
noncomputable def ir307_l2:IR:=zq [za 12 (zI .lss (zv 11) (zv 10))] <| .seq (.cond (zv 12) (.skip) (.exit 0)) (ir307_k1)
noncomputable def ir307_k3:IR:=zq [za 4 (zT (zv 5))] <| .ret
noncomputable def ir307:IR:=zq [za 4 (.const (zk 0)),za 7 (zv 0),zc 8 306 #[zt 7] #[318] 9,za 5 (zv 8),za 10 (zT (zv 5)),za 11 (.const (zk 0))] <| .seq (.block 0 (.loop ir307_l2)) (ir307_k3)
def ir307_V:List Nat:=[0,1,4,5,6,7,8,10,11,12,14,17,18,19]
theorem ir307_calls:C2 307 24 ir307_V ir307 [.tmp 4]:=c2 [] Tryz.func307
noncomputable def ir308:IR:= .reg [za 4 (zv 1),za 9 (zo 2 (zf 0 (zN (zv 0)))),zE 10 (.build 26 #[(0,(zt 4)),(1,(zt 9))]) 26,zE 11 (.build 212 #[(0,(zt 10))]) 212,za 12 (.op1 (.mkif 212) (zv 11)), .eff none none (.panic (zt 12)) 0]
def ir308_V:List Nat:=[0,1,4,9,10,11,12]
theorem ir308_calls:C2 308 13 ir308_V ir308 []:=c2 [] Tryz.func308
noncomputable def ir346:IR:=zq [za 2 (.const (zb false)),za 2 (.ite (.ite (zB .eql (zv 0) (.const (zu 32))) (.const (zb true)) (zB .eql (zv 0) (.const (zu 9)))) (.const (zb true)) (zB .eql (zv 0) (.const (zu 10))))] <| .ret
def ir346_V:List Nat:=[0,2]
theorem ir346_calls:C1 346 13 ir346_V ir346 [.tmp 2]:=c1 [] Tryz.func346
noncomputable def ir89:IR:=zq [za 4 (.const (zk 0)),za 5 (.const .nilIface),za 6 (zv 0),zc 7 177 #[zt 6] #[111] 0,za 8 (zv 0),za 12 (zo 1 (zN (zv 0))),za 13 (zv 1),zp 14 #[zt 12,zt 13] #[112,9] 112,za 16 (zf 1 (zN (zv 8))),zw 112 (zt 16) (zt 14),za 4 (zT (zv 1)),za 5 (.const .nilIface)] <| .ret
def ir89_V:List Nat:=[0,1,4,5,6,7,8,12,13,14,16]
theorem ir89_calls:C2 89 19 ir89_V ir89 [.tmp 4, .tmp 5]:=c2 [] Tryz.func89
end Go.L01
