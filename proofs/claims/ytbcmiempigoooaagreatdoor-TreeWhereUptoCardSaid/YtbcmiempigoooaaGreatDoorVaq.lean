/- Lemmas for a claim about layer 2 (tree). No conditions but those they state. -/
import Derived.Test.YtbcmiempigoooaaGreatDoorVap
import Derived.Test.YtbcmiempigoooaaGreatDoorProg
import Derived.KernelRfl
set_option linter.all false
noncomputable section
namespace Go.L02
open Go Go.Eng Go.RowKit
open Go.Proofs hiding encI
open Go.L01 (Bd Bs Own.same SlK Tok jM jQ jR jW jZ jp qH qW qY qi vA vw)
set_option maxRecDepth 100000
set_option maxHeartbeats 4000000
section
variable {P:Program} {Q:Ks} {d:Option Nat} {ty:TypeId} {K:qa->AA->Prop} {ρ:qa} {w:AA}
theorem qIf {x:Operand} {t b:TypeId} (c:P.underlying t=some (.interface (P.methodsAt t))) (h:qd ρ x=.nilIface) (e:K (qp ρ d (.bool false)) w):qB P Q d (.binOp .neq t x (.const .nilIface) b) ty K ρ w:=by
 refine jN (v:=.bool false) (w':=w) ?_ e;have:=run_equal_nil_nil (P:=P) (w:=w) t c;simp [execOp,qR,h,eqGuard_nil_constR,binOp,this]
theorem qIe {x:Operand} {t b u:TypeId} {v:AB} (c:P.underlying t=some (.interface (P.methodsAt t))) (h:qd ρ x=.iface u v) (e:K (qp ρ d (.bool true)) w):qB P Q d (.binOp .neq t x (.const .nilIface) b) ty K ρ w:=by
 refine jN (v:=.bool true) (w':=w) ?_ e;have:=run_equal_held_nil (P:=P) (w:=w) t u v c;simp [execOp,qR,h,eqGuard,binOp,this]
end
noncomputable def qfq (v:AB):IR:=zq [za 7 (.const v),zm 4 7,zm 8 4,zE 9 (.binOp .neq 20 (zt 8) (.const .nilIface) 20) 4] <| .cond (zv 9) (zq [zm 11 4,zE 12 (.typeAssert (zt 11) 20 153 true) 154,zm 10 12,za 13 (ze 0 (zv 10)),za 14 (ze 1 (zv 10)),zA 5 153,zw 153 (zt 5) (zt 13),zm 6 14,za 16 (zn (zv 6))] <| .seq (.cond (zv 16) (.reg [zm 17 4,.eff none none (.panic (zt 17)) 0]) .skip) (qu0)) .skip
theorem qDd (v:AB):(jk Tryz.prog Tryz.f116.ntmps qfZ [5] (qa8 v (Tryz.f116.body.getD .skip))).map IR.norm=some (qfq v):=by kernel_rfl
def qpD {v0 e b v3:AB} {u:FrameMode} {w:AA} {R:Ending->FrameMode->AA->Prop} (h:∀ρ:qa,ρ 0=v0->ρ 1=e->ρ 2=b->ρ 3=v3->(qfq (xd u)).wp ⟨Tryz.prog,31,qfZ,[]⟩ (qaz [] (xp u) R) (qb4 [] (xp u) R) ρ w):
  CallsDIn Fence.wide 0 Tryz.prog 116 #[v0,e,b,v3] u w R:=by
 obtain ⟨o,s,n⟩:=uc.1 (qDd (xd u));exact qv9 (args:=#[v0,e,b,v3]) Tryz.func116 (c:=Tryz.f116.body.getD .skip) rfl (by kernel_rfl) s n (by kernel_rfl) (show zi Tryz.prog qfZ Tryz.f116.results.toList=some [] by kernel_rfl) (uI rfl) (h _ rfl rfl rfl rfl)
def qxG:∃ds,Tryz.prog.underlying 153=some ds/\∀m,ds≠ .interface m:=by
 have h:vw (Tryz.prog.underlying 153)=true:=by kernel_rfl
 unfold vw at h;split at h
 ·rename_i fs b;exact ⟨_,b,fun m c=>by cases c⟩
 ·cases h
theorem qw6:jU Tryz.prog 153=some #[]:=by kernel_rfl
theorem qyF:jh Tryz.prog 153 0=true:=by kernel_rfl
theorem z4:jU Tryz.prog 4=some #[.bool false]:=by kernel_rfl
theorem z3:jU Tryz.prog 3=some #[.int .i64 0]:=by kernel_rfl
theorem z9:jU Tryz.prog 9=some #[.string ⟨#[]⟩]:=by kernel_rfl
theorem sz4:jh Tryz.prog 4 1=true:=by kernel_rfl
@[simp] theorem qMI:qk Tryz.prog 54=true:=by kernel_rfl
@[simp] theorem qcB:qk Tryz.prog 116=true:=by kernel_rfl
@[simp] theorem qM7:qk Tryz.prog 275=true:=by kernel_rfl
def qkN {v0 h b v3:AB} {w:AA}:CallsDIn Fence.wide 0 Tryz.prog 116 #[v0,h,b,v3] .returning w fun e c w'=>(∃v,e=.returned v)/\c=.returning/\w'=w:=by
 refine qpD fun ρ n u s o=>?_;simp [qfq,xd,xp];refine qIf vA (by simp) ?_;simp
def qkM {w:AA} {A P N O B:Nat} {tv nv:AB} {a i f n:Nat} (hA:Blk w A #[.int .i64 (a:Int)] 3) (hP:Blk w P #[.pointer (some ⟨B,0,none⟩)] 83) (hN:Blk w N #[.int .i64 (n:Int)] 3) (hO:Blk w O #[.bool true] 4\/Blk w O #[.bool false] 4)
  (I:Blk w B #[tv,.int .i64 (i:Int),.int .i64 (f:Int),nv] 85) (s:qA nv=true) (hn:n<=qm nv):
  CallsDIn Fence.wide 0 Tryz.prog 116 #[.pointer (some ⟨A,0,none⟩),.pointer (some ⟨P,0,none⟩),.pointer (some ⟨N,0,none⟩),.pointer (some ⟨O,0,none⟩)] (.panicking yr) w fun e u' w'=>(∃v,e=.returned v)/\settle u'=.returning/\
   ∃W W2,qc w W/\Only B W W2/\Blk W2 B #[tv,.int .i64 (a:Int),.int .i64 (f:Int),q8 nv 6 0 n (qI nv)] 85/\Only O W2 w'/\Blk w' O #[.bool false] 4:=by
 obtain ⟨ds,hu,hd⟩:=qxG;refine qpD fun ρ r0 r1 r2 r3=>?_;simp [qfq,xd,xp,yr];refine qIe (u:=153) (v:=.agg #[]) vA (by simp) ?_;simp;refine qvJ (a:=153) (v:=.agg #[]) hu hd (by simp) ?_;simp;refine qQ qw6 fun X W hX hE hb _=>?_;simp;refine jg (B:=X) (by simp) hb (by simp [Value.cells]) (by simp [Value.cells]) (by simpa [Value.cells] using qyF) fun W1 ad hb1=>?_;have Z:qc w W1:=ad.ext hE hX;have nX:∀{k:Nat} {cs:Array AB} {T:TypeId},Blk w k cs T->k≠X:=fun h=>by have:=h.lt;omega
 simp [qu0];refine js qHv (fun W=>(Blk W A #[.int .i64 (a:Int)] 3/\Blk W P #[.pointer (some ⟨B,0,none⟩)] 83)/\Blk W N #[.int .i64 (n:Int)] 3/\W.cell? ⟨B,3,none⟩=some nv) fun W2 ab _=>?_;have b:=Z.trans' ab;have H:=I.ext b;have c3:W2.cell? ⟨B,3,none⟩=some nv:=by rw [H.cell];rfl
 have R:(Blk W2 A #[.int .i64 (a:Int)] 3/\Blk W2 P #[.pointer (some ⟨B,0,none⟩)] 83)/\Blk W2 N #[.int .i64 (n:Int)] 3/\W2.cell? ⟨B,3,none⟩=some nv:=⟨⟨hA.ext b,hP.ext b⟩,hN.ext b,c3⟩;refine ⟨R, ?_⟩;have cA:∀W,((Blk W A #[.int .i64 (a:Int)] 3/\Blk W P #[.pointer (some ⟨B,0,none⟩)] 83)/\Blk W N #[.int .i64 (n:Int)] 3/\W.cell? ⟨B,3,none⟩=some nv)->W.cell? ⟨A,0,none⟩=some (.int .i64 (a:Int))/\W.cell? ⟨P,0,none⟩=some (.pointer (some ⟨B,0,none⟩))/\W.cell? ⟨N,0,none⟩=some (.int .i64 (n:Int))/\W.cell? ⟨B,3,none⟩=some nv:=fun W h=>⟨by rw [h.1.1.cell];rfl,by rw [h.1.2.cell];rfl,by rw [h.2.1.cell];rfl,h.2.2⟩;simp+contextual -implicitDefEqProofs [quZ,cA,R,r0,r1,r2,r3];have hcap:=qdL s;have E:n<=qI nv:=by omega
 simp [s,E];have V:B≠A:=fun e=>by subst e;have:=hA.heap;rw [I.heap] at this;cases this
 have ac:B≠P:=fun e=>by subst e;have:=hP.heap;rw [I.heap] at this;cases this
 have ae:B≠N:=fun e=>by subst e;have:=hN.heap;rw [I.heap] at this;cases this
 have o:O≠B:=fun e=>by subst e;rcases hO with h|h<;>(have:=h.heap;rw [I.heap] at this;cases this)
 refine qD (B:=B) (i:=1) (by simp) H (by simp) (by simp [Value.cells]) (by simp) vp fun W3 c z=>?_;simp at z;refine ⟨⟨⟨c.blk R.1.1 V.symm,c.blk R.1.2 ac.symm⟩,c.blk R.2.1 ae.symm,by rw [z.cell];rfl⟩, ?_⟩;simp;have aa:(q8 nv 6 0 n (qI nv)).cells=#[q8 nv 6 0 n (qI nv)]:=qn (qbq s 6 0 n (qI nv) (uf _) E (kh _));have U:(q8 nv 6 0 n (qI nv)).oneCell=true:=jf (qbq s 6 0 n (qI nv) (uf _) E (kh _));refine qD (B:=B) (i:=3) (by simp) z (by simp) (by simpa using aa) (by simpa using U) qbV fun W4 F J=>?_;simp at J;simp;have y:Blk W4 O #[.bool true] 4\/Blk W4 O #[.bool false] 4:=by
  rcases hO with h|h
  ·exact .inl (F.blk (c.blk (h.ext b) o) o)
  ·exact .inr (F.blk (c.blk (h.ext b) o) o)
 rcases y with h|h
 all_goals
  refine qD (B:=O) (i:=0) (by simp [r3]) h (by simp) (by simp [Value.cells]) (by simp) sz4 fun W5 y S=>?_;simp at S;exact ⟨rfl,W2,b,W4,c.trans F,J,y,S⟩
def Own.take {b e sz n:Nat} {w:AA} {v:AB} {ys zs:List AB} (h:Own b e sz w v (ys++zs)) (o:ys.length=n*sz) (R:0<sz):Own b e sz w (q8 v sz 0 n (qI v)) ys:=by
 rcases h with ⟨rfl,y⟩|⟨g,off,m,cap,cur,rfl,s,F,z,U,S,I,u⟩
 ·have s:ys=[]:=(List.append_eq_nil_iff.1 y).1;subst s;have J:n=0:=by
   have:=Nat.mul_eq_zero.1 o.symm;omega
  subst J;exact .inl ⟨by simp [q8,qI],rfl⟩
 ·have c:n*sz<=m*sz:=by rw [<-o,<-z,ky];omega
  have H:n<=m:=Vg c R;refine .inr ⟨g,off,n,cap,cur, ?_,s,F,o,by omega,S,I, ?_⟩
  ·simp [q8,qI,Addr.add]
  ·have E:((cur.toList.drop off).take (m*sz)).take (n*sz)=ys:=by rw [u,List.take_left' o]
   rw [<-E,List.take_take,Nat.min_eq_left c]
theorem qCg {v:AB} {sz l h m:Nat}:(q8 v sz l h m).ownBlock=v.ownBlock:=by
 unfold q8;split
 ·rename_i a n c;split
  ·cases a<;>rfl
  ·cases a with
   |none=>rfl
   |some a=>simp only [Option.map_some,Value.ownBlock,Addr.add];split<;>rfl
 ·rfl
structure TnO (base B O:Nat) (nv nv':AB) (w w':AA):Prop where
 below:Below base w w'
 block:∀k,k<w.heap.size->k≠B->nv.ownBlock≠some k->k≠O->w'.heap[k]? =w.heap[k]?
 row:∀k,nv'.ownBlock=some k->nv.ownBlock=some k\/w.heap.size<=k
structure TnW (base B:Nat) (nv nv':AB) (w w':AA):Prop where
 below:Below base w w'
 block:∀k,k<w.heap.size->k≠B->nv.ownBlock≠some k->w'.heap[k]? =w.heap[k]?
 row:∀k,nv'.ownBlock=some k->nv.ownBlock=some k\/w.heap.size<=k
section
variable {base B O X:Nat} {w w1 w2:AA} {tv nv nv1 nv2:AB} {L:List Tok} {i f j g:Nat} {xs ys zs:List NV} {x:NV}
theorem Tn.toO (h:Tn base B nv nv1 w w1):TnO base B O nv nv1 w w1:=⟨h.below,fun k e c b _=>h.block k e c b,h.row⟩
theorem TnW.toO (h:TnW base B nv nv1 w w1):TnO base B O nv nv1 w w1:=⟨h.below,fun k e c b _=>h.block k e c b,h.row⟩
theorem Tn.toW (h:Tn base B nv nv1 w w1):TnW base B nv nv1 w w1:=⟨h.below,h.block,h.row⟩
theorem TnW.trans (h:TnW base B nv nv1 w w1) (k:TnW base B nv1 nv2 w1 w2):TnW base B nv nv2 w w2:=by
 have s:=h.below.size;refine ⟨h.below.trans k.below,fun j c o n=>?_,fun j c=>?_⟩
 ·refine (k.block j (by omega) o fun e=>?_).trans (h.block j c o n);rcases h.row j e with b|b
  ·exact n b
  ·omega
 ·rcases k.row j c with b|b
  ·exact h.row j b
  ·exact .inr (by omega)
theorem TnW.full (h:TnW base B nv nv1 w w1) (b:nv1=nv\/qm nv<qm nv1):Tn base B nv nv1 w w1:=⟨h.below,h.block,h.row,b⟩
theorem TnO.only (h:TnO base B O nv nv1 w w1) (b:Only X w1 w2) (n:X=O\/w.heap.size<=X) (c:base<=X):TnO base B O nv nv1 w w2:=by
 refine ⟨h.below.trans (kq b c),fun k u s o y=>?_,h.row⟩;rw [b.block k (by rintro rfl;rcases n with e|e<;>omega)];exact h.block k u s o y
theorem TnO.tn (h:TnO base B O nv nv1 w w1) (n:Tn base B nv1 nv2 w1 w2):TnO base B O nv nv2 w w2:=by
 have y:=h.below.size;refine ⟨h.below.trans n.below,fun j c s o u=>?_,fun j c=>?_⟩
 ·refine (n.block j (by omega) s fun e=>?_).trans (h.block j c s o u);rcases h.row j e with b|b
  ·exact o b
  ·omega
 ·rcases n.row j c with b|b
  ·exact h.row j b
  ·exact .inr (by omega)
theorem PSt.cut (h:PSt base B w tv nv L j g (xs++ys)) (o:Only B w w1) (y:Blk w1 B #[tv,.int .i64 (i:Int),.int .i64 (g:Int),q8 nv 6 0 xs.length (qI nv)] 85) (F:i<=L.length):
  PSt base B w1 tv (q8 nv 6 0 xs.length (qI nv)) L i g xs/\TnW base B nv (q8 nv 6 0 xs.length (qI nv)) w w1:=by
 have keep:∀{b e sz:Nat} {v:AB} {ys:List AB},e≠85->Own b e sz w v ys->Own b e sz w1 v ys:=fun E n=>Own.same n fun k c=>by
  obtain ⟨cur,z⟩:=Own.row n c;exact o.block k (h.blkNe z E)
 have n:Own base 44 6 w (q8 nv 6 0 xs.length (qI nv)) (jY xs):=Own.take (zs:=jY ys) (by rw [<-qe8];exact h.own) (wo xs) (by decide);refine ⟨⟨y,keep (by decide) h.tok,keep (by decide) n,fun x u=>keep (by decide) (h.kid x (J7 _ u)),h.bB,by rw [o.size];exact h.bW,h.tl,F,h.fl⟩, ?_,fun k c s _=>o.block k s,fun k c=> .inl (by rw [qCg] at c;exact c)⟩;exact kq o h.bB
end
def qlc (base B O:Nat) (w:AA) (tv nv:AB) (L:List Tok) (i:Nat) (xs:List NV):Rs Bs->Ending->AA->Prop
 | .ok s j g,e,w'=>e=.returned (.bool true)/\∃nv',PSt base B w' tv nv' L j g xs/\TnO base B O nv nv' w w'/\Blk w' O #[.string (qb s)] 9/\(nv'=nv\/qm nv<qm nv')
 | .no g,e,w'=>e=.returned (.bool false)/\∃nv',PSt base B w' tv nv' L i g xs/\TnO base B O nv nv' w w'
 | .oof,_,_=>False
def qB0 {L:List Tok} (S:jJ L) (n:Nat) {base B P O:Nat} {w:AA} {tv nv v0:AB} {i f:Nat} {xs:List NV} (H:PSt base B w tv nv L i f xs) (V:xs.length<=2*i+2) (J:Blk w P #[.pointer (some ⟨B,0,none⟩)] 83) (U:Blk w O #[v0] 9) (h:ve L n i f≠ .oof):
  Calls Tryz.prog 275 #[.pointer (some ⟨P,0,none⟩),.pointer (some ⟨O,0,none⟩)] w fun e w2=>match ve L n i f with
   | .ok s j g=>e=.returned (.tuple #[])/\∃nv2 w1,PSt base B w1 tv nv2 L j g xs/\Tn base B nv nv2 w w1/\Only O w1 w2/\Blk w2 O #[.string (qb s)] 9
   | .no g=>e=.panicked yr/\∃j nv2 ys,PSt base B w2 tv nv2 L j g (xs++ys)/\Tn base B nv nv2 w w2
   | .oof=>False:=by
 refine qEW fun ρ r0 r1=>?_;have I:w.cell? ⟨P,0,none⟩=some (.pointer (some ⟨B,0,none⟩)):=by rw [J.cell];rfl
 simp [qrO,r0,I];have R:=qos S n base B w tv nv i f xs H V h;refine R.mono ?_;intro e w1 u;cases E:ve L n i f with
 |oof=>exact absurd E h
 |no g=>
  rw [E] at u;obtain ⟨j,nv2,ys,rfl,c,b⟩:=u;simp;exact ⟨j,nv2,⟨ys,c⟩,b⟩
 |ok s j g=>
  rw [E] at u;obtain ⟨v,nv2,ys,rfl,c,z,_,b,F⟩:=u;change v=_ at F;subst F;obtain rfl:ys=[]:=by simpa [aS] using z
  simp only [ua] at c;simp;refine qD (B:=O) (i:=0) (by simp [r1]) (H.var b U (by decide) (by decide)) (by simp) (by simp [Value.cells]) (by simp) kL fun W2 y o=>?_;simp at o;simp;exact ⟨nv2,w1,c,b,y,o⟩
def qgY {R:Ending->AA->Prop} {l:List Nat} (o:∀d∈l,d≠gS/\d≠4):∀d∈l,∀ρ v c w,(zJ Tryz.prog [.cell1 4] R).pn (qx ρ d v) c w->(zJ Tryz.prog [.cell1 4] R).pn ρ c w:=by
 intro d b ρ v c w h;obtain ⟨n,e⟩:=o d b;refine qvB n (fun w=>?_) h;simp [vX,RV.val,ub e]
def qBa {L:List Tok} (hL:jJ L) (n:Nat) {base B P O:Nat} {w:AA} {tv nv v0:AB} {i f:Nat} {xs:List NV} (hS:PSt base B w tv nv L i f xs) (hn:xs.length<=2*i+2) (hP:Blk w P #[.pointer (some ⟨B,0,none⟩)] 83) (hO:Blk w O #[v0] 9) (hbO:base<=O) (af:ve L n i f≠ .oof):
  Calls Tryz.prog 54 #[.pointer (some ⟨B,0,none⟩),.func (.func 275) #[] #[.pointer (some ⟨P,0,none⟩),.pointer (some ⟨O,0,none⟩)]] w (qlc base B O w tv nv L i xs (ve L n i f)):=by
 have hb0:=hS.bW;have hil:=hS.il;have htl:=hS.tl;refine qiU fun ρ r0 r1 rg=>?_;simp [qdQ,r0];refine vC fun A W1 hA aa hbA _=>?_;simp [Value.cells,r0] at hbA;simp;refine qQ z4 fun Y W2 hY hE2 hbY _=>?_;simp;have hS2:=hS.ext (aa.trans' hE2);have hA2:=hbA.ext hE2;refine js (hpn:=qgY (by decide)) qiT (fun W=>Blk W A #[.pointer (some ⟨B,0,none⟩)] 83/\Blk W B #[tv,.int .i64 (i:Int),.int .i64 (f:Int),nv] 85) fun W3 ab _=>?_;have z:=hS2.ext ab;have y:=hA2.ext ab;have hJ:Blk W3 A #[.pointer (some ⟨B,0,none⟩)] 83/\Blk W3 B #[tv,.int .i64 (i:Int),.int .i64 (f:Int),nv] 85:=⟨y,z.blk⟩;refine ⟨hJ, ?_⟩;have cA:∀W,(Blk W A #[.pointer (some ⟨B,0,none⟩)] 83/\Blk W B #[tv,.int .i64 (i:Int),.int .i64 (f:Int),nv] 85)->W.cell? ⟨A,0,none⟩=some (.pointer (some ⟨B,0,none⟩))/\W.cell? ⟨B,1,none⟩=some (.int .i64 (i:Int))/\W.cell? ⟨B,3,none⟩=some nv:=fun W h=>⟨by rw [h.1.cell];rfl,by rw [h.2.cell];rfl,by rw [h.2.cell];rfl⟩;have hisl:=hS.own.isl;simp+contextual -implicitDefEqProofs [qfx,cA,hJ,hisl];have rest:∀(H:qa) (W4:AA) (X5 X6:Nat),qc W3 W4->Blk W4 X5 #[.int .i64 (i:Int)] 3->Blk W4 X6 #[.int .i64 (xs.length:Int)] 3->H 1=ρ 1->H 2=.pointer (some ⟨A,0,none⟩)->H 4=.pointer (some ⟨Y,0,none⟩)->H 5=.pointer (some ⟨X5,0,none⟩)->H 6=.pointer (some ⟨X6,0,none⟩)->H gS=.tuple #[]->qbs.wp ⟨Tryz.prog,19,qbt,yL⟩ (vl Tryz.prog [.cell1 4] (qlc base B O w tv nv L i xs (ve L n i f)) .returning) (zJ Tryz.prog [.cell1 4] (qlc base B O w tv nv L i xs (ve L n i f))) H W4:=by
  intro H W4 X5 X6 b Z E e1 e2 e4 e5 e6 eg;have R:=z.ext b;have hA4:=y.ext b;have hY4:=(hbY.ext ab).ext b;have S:qc w W4:=((aa.trans' hE2).trans' ab).trans' b;have hP4:=hP.ext S;have hO4:=hO.ext S;have hT4:Tn base B nv nv w W4:=Tn.ext S hb0;have hYO:Y≠O:=by have:=hO.lt;have:=aa.size;omega
  have hYw:w.heap.size<=Y:=by have:=aa.size;omega
  have hYB:Y≠B:=by have:=hS.blk.lt;omega
  simp [qbs];refine qgc (f:=116) (caps:=#[.pointer (some ⟨X5,0,none⟩),.pointer (some ⟨A,0,none⟩),.pointer (some ⟨X6,0,none⟩),.pointer (some ⟨Y,0,none⟩)]) (by simp [e2,e4,e5,e6]) trivial ?_;have eg':H 1000000000=.tuple #[]:=eg;simp [gS,e1,r1,eg'];refine xh (f:=275) (by simp) (fs:=#[]) (caps:=#[.pointer (some ⟨P,0,none⟩),.pointer (some ⟨O,0,none⟩)]) (by simp) ?_;simp;refine (qB0 hL n R hn hP4 hO4 af).mono ?_;intro e w5 hp;generalize hr:ve L n i f=r at hp af;cases r with
  |oof=>exact absurd rfl af
  |ok s j g=>
   obtain ⟨rfl,nv2,w4,u,F,ad,hbO5⟩:=hp;have U:=ad.blk (R.var F hY4 (by decide) (by decide)) hYO;simp;refine qD (B:=Y) (i:=0) (by simp [e4]) U (by simp) (by simp [Value.cells]) (by simp) sz4 fun W6 o E=>?_;simp at E;simp [zJ,vl,gS,e4];refine jZ (by simp) qcB (qkN.mono ?_);rintro e u' w' ⟨⟨v,rfl⟩,rfl,rfl⟩;refine qaJ ?_;have cY:w'.cell? ⟨Y,0,none⟩=some (.bool true):=by rw [E.cell];rfl
   simp [qz,vX,RV.val,e4,cY,wQ];have hO5:=R.var F hO4 (by decide) (by decide);have hS6:=(u.only (cs:=#[v0]) (T:=9) ad (fun _=>hO5.heap) (by decide) (by decide) (by decide) (by decide)).only (cs:=#[.bool false]) (T:=4) o (fun _=>U.heap) (by decide) (by decide) (by decide) (by decide);refine ⟨rfl,nv2,hS6,((hT4.trans F).toO.only ad (.inl rfl) hbO).only o (.inr hYw) (by omega),o.blk hbO5 (ub hYO),F.gr⟩
  |no g=>
   obtain ⟨rfl,j,nv2,ys,u,F⟩:=hp;have U:=R.var F hY4 (by decide) (by decide);have h55:=R.var F Z (by decide) (by decide);have h56:=R.var F E (by decide) (by decide);have hA5:=R.var F hA4 (by decide) (by decide);have hl5:=(L01.jw u.own).len;rw [wo,ky] at hl5;simp [zJ,vl,gS,e4];refine jZ (by simp) qcB ((qkM h55 hA5 h56 (.inr U) u.blk u.own.isl (by omega)).mono ?_);rintro e u' w' ⟨⟨v,rfl⟩,hu,W6,W7,hE6,I,J,hO8,hb8⟩;show vo _ _ _ _ [] (settle u') w';rw [hu];refine qaJ ?_;have cY:w'.cell? ⟨Y,0,none⟩=some (.bool false):=by rw [hb8.cell];rfl
   simp [qz,vX,RV.val,e4,cY,wQ];obtain ⟨hS7,hT7⟩:=(u.ext hE6).cut I J hil;have hY7:=I.blk (U.ext hE6) hYB;have hS8:=hS7.only (cs:=#[.bool false]) (T:=4) hO8 (fun _=>hY7.heap) (by decide) (by decide) (by decide) (by decide);exact ⟨rfl,_,hS8,(((hT4.trans F).extR hE6 hb0).toW.trans hT7).toO.only hO8 (.inr hYw) (by omega)⟩
 have nvl:qm nv=xs.length:=by
  have:=(L01.jw hS.own).len;rw [wo] at this;omega
 refine ⟨?_, ?_⟩
 ·refine qQ z3 fun X5 W4 ac b ae hs4=>⟨⟨y.ext b,(z.ext b).blk⟩, ?_⟩;refine qQ z3 fun X6 W5 hX6 c Z hs5=>⟨⟨(y.ext b).ext c,((z.ext b).ext c).blk⟩, ?_⟩;have u:=(z.ext b).ext c;have l5:W3.heap.size<=X5:=ac;have V:X5≠X6:=by omega
  refine qD (B:=X5) (i:=0) (by simp) (ae.ext c) (by simp) (by simp [Value.cells]) (by simp) vp fun W6 o E=>?_;simp at E;have hA6:=o.blk ((y.ext b).ext c) (by have:=y.lt;omega);have hB6:=o.blk u.blk (by have:=z.blk.lt;omega);refine ⟨⟨hA6,hB6⟩, ?_⟩;refine qD (B:=X6) (i:=0) (by simp) (o.blk Z (ub V)) (by simp) (by simp [Value.cells]) (by simp) vp fun W7 I J=>?_;simp [nvl] at J;exact rest _ W7 X5 X6 (I.ext (o.ext (b.trans' c) l5) (by have:=b.size;omega)) (I.blk E V) J (by simp) (by simp) (by simp) (by simp) (by simp) (by simp [gS] at rg⊢;exact rg)
 ·refine qQ z3 fun X6 W4 hX6 b ae hs4=>⟨⟨y.ext b,(z.ext b).blk⟩, ?_⟩;refine qQ z3 fun X5 W5 ac c Z hs5=>⟨⟨(y.ext b).ext c,((z.ext b).ext c).blk⟩, ?_⟩;have u:=(z.ext b).ext c;have l5:W3.heap.size<=X5:=Nat.le_trans b.size ac;have V:X6≠X5:=by omega
  refine qD (B:=X5) (i:=0) (by simp) Z (by simp) (by simp [Value.cells]) (by simp) vp fun W6 o E=>?_;simp at E;have hA6:=o.blk ((y.ext b).ext c) (by have:=y.lt;omega);have hB6:=o.blk u.blk (by have:=z.blk.lt;omega);refine ⟨⟨hA6,hB6⟩, ?_⟩;refine qD (B:=X6) (i:=0) (by simp) (o.blk (ae.ext c) V) (by simp) (by simp [Value.cells]) (by simp) vp fun W7 I J=>?_;simp [nvl] at J;exact rest _ W7 X5 X6 (I.ext (o.ext (b.trans' c) l5) hX6) (I.blk E (ub V)) J (by simp) (by simp) (by simp) (by simp) (by simp) (by simp [gS] at rg⊢;exact rg)
noncomputable def qpt:Code:=((Tryz.f217.body).getD .skip)
def qiz:IR:=zq [za 64 (zl (zv 1)),za 68 (zI .add (zo 1 (zN (zv 64))) (zK 1)),za 70 (zf 1 (zN (zv 64))),zw 3 (zt 70) (zt 68),za 71 (zl (zv 1)),zE 72 (.buildSlice 51 1 #[(0,(zY #[40]))]) 51,zc 73 153 #[zt 71,zt 72] #[83,51] 0,za 74 (zl (zv 1)),zc 75 62 #[zt 74] #[83] 3,zE 76 (.buildSlice 40 1 #[(0,(zt 75))]) 40,za 77 (zf 5 (zv 8)),zw 40 (zt 77) (zt 76),za 78 (zl (zv 1)),zE 79 (.buildSlice 51 1 #[(0,(zY #[41]))]) 51,zc 80 153 #[zt 78,zt 79] #[83,51] 0,za 81 (zl (zv 1)),za 82 (zM 6 (zv 8)),zc 83 140 #[zt 81,zt 82] #[83,44] 3,zm 2 83,za 3 (zQ false)] <| .ret
def qps:IR:=zq [za 121 (zl (zv 1)),za 125 (zI .add (zo 1 (zN (zv 121))) (zK 1)),za 127 (zf 1 (zN (zv 121))),zw 3 (zt 127) (zt 125),za 128 (zl (zv 1)),za 130 (zo 1 (zv 4)),zE 131 (.build 44 #[(0,(.const (zu 4))),(1,(zt 130))]) 44,zc 132 140 #[zt 128,zt 131] #[83,44] 3,zm 2 132,za 3 (zQ false)] <| .ret
def qpr:IR:=.ret
def qfm:IR:=.seq (.raw (qv qpt 37)) (qpr)
def qpu:IR:=zq [zE 1 (.box 83 (zt 0)) 0,za 2 (zK 0),za 3 (zQ false),za 11 (zl (zv 1)),zc 12 142 #[zt 11,zO 0] #[83,3] 53,zA 4 53,zw 53 (zt 4) (zt 12),za 13 (zl (zv 1)),zc 14 142 #[zt 13,zO 1] #[83,3] 53,za 5 (.op1 (.fld 1) (zv 14))] <| .seq (.block 0 (zq [za 16 (zB .eql (zo 0 (zv 4)) (.const (zu 3)))] <| .cond (zv 16) (zq [za 20 (zl (zv 1)),za 24 (zI .add (zo 1 (zN (zv 20))) (zK 1)),za 26 (zf 1 (zN (zv 20))),zw 3 (zt 26) (zt 24),za 29 (zo 1 (zv 4)),zc 30 273 #[zt 29] #[9] 127,zm 27 30,za 31 (ze 0 (zv 27)),za 32 (ze 1 (zv 27)),zm 6 31,zm 7 32,za 33 (zl (zv 1)),zm 34 6,zE 35 (.build 44 #[(0,(.const (zu 1))),(4,(zt 34))]) 44,zc 36 140 #[zt 33,zt 35] #[83,44] 3,zm 2 36,za 3 (zQ false)] <| .ret) (zq [za 38 (zl (zv 1)),zc 39 117 #[zt 38,zY #[116,114,117,101]] #[83,9] 4,zm 37 39] <| .cond (zv 37) (zq [za 40 (zl (zv 1)),zE 41 (.build 44 #[(0,(.const (zu 2))),(4,(zO 1))]) 44,zc 42 140 #[zt 40,zt 41] #[83,44] 3,zm 2 42,za 3 (zQ false)] <| .ret) (zq [za 44 (zl (zv 1)),zc 45 117 #[zt 44,zY #[102,97,108,115,101]] #[83,9] 4,zm 43 45] <| .cond (zv 43) (zq [za 46 (zl (zv 1)),zE 47 (.build 44 #[(0,(.const (zu 2)))]) 44,zc 48 140 #[zt 46,zt 47] #[83,44] 3,zm 2 48,za 3 (zQ false)] <| .ret) (zq [za 50 (zl (zv 1)),zc 51 117 #[zt 50,zY #[110,105,108]] #[83,9] 4,zm 49 51] <| .cond (zv 49) (zq [za 52 (zl (zv 1)),zE 53 (.build 44 #[(0,(.const (zu 3)))]) 44,zc 54 140 #[zt 52,zt 53] #[83,44] 3,zm 2 54,za 3 (zQ false)] <| .ret) (zq [za 56 (zl (zv 1)),zE 57 (.buildSlice 51 2 #[(0,(zY #[117,112])),(1,(zY #[100,111,119,110]))]) 51,zc 58 141 #[zt 56,zt 57] #[83,51] 4,zm 55 58] <| .cond (zv 55) (zq [zE 59 (.build 44 #[(0,(.const (zu 9)))]) 44,zA 8 44,zw 44 (zt 8) (zt 59),za 60 (zl (zv 1)),zE 61 (.buildSlice 51 1 #[(0,(zY #[100,111,119,110]))]) 51,zc 62 141 #[zt 60,zt 61] #[83,51] 4] <| .seq (.cond (zv 62) (.reg [za 63 (zf 0 (zv 8)),zw 5 (zt 63) (.const (zu 10))]) .skip) (qiz)) (zq [za 85 (zl (zv 1)),zc 86 117 #[zt 85,zY #[40]] #[83,9] 4,zm 84 86] <| .cond (zv 84) (zq [za 87 (zl (zv 1)),zc 88 62 #[zt 87] #[83] 3,zm 9 88,za 89 (zl (zv 1)),zE 90 (.buildSlice 51 1 #[(0,(zY #[41]))]) 51,zc 91 153 #[zt 89,zt 90] #[83,51] 0,zm 2 9,za 3 (zQ false)] <| .ret) (zq [za 93 (.ite (zB .eql (zo 0 (zv 4)) (.const (zu 1))) (.ite (zS .eql (zv 5) (.const (zs #[40]))) (zQ true) (zS .eql (zv 5) (.const (zs #[123])))) (zQ false))] <| .cond (zv 93) (zq [za 105 (zl (zv 1)),zc 106 274 #[zt 105] #[83] 3,zm 2 106,za 3 (zQ true)] <| .ret) (zq [za 107 (.ite (zB .eql (zo 0 (zv 4)) (.const (zu 1))) (zS .eql (zv 5) (.const (zs #[91]))) (zQ false))] <| .cond (zv 107) (zq [zA 10 9,zw 9 (zt 10) (zY #[]),za 115 (zl (zv 1)),zE 116 (.makeFunc (.func 275) #[] #[zt 1,zt 10]) 1,zc 117 54 #[zt 115,zt 116] #[83,1] 4] <| .seq (.cond (zv 117) (zq [za 118 (zl (zv 1)),za 119 (zl (zv 10)),zc 120 277 #[zt 118,zt 119] #[83,9] 3,zm 2 120,za 3 (zQ true)] <| .ret) .skip) (qps)) (zq [za 133 (.ite (zB .eql (zo 0 (zv 4)) (.const (zu 1))) (zS .neq (zv 5) (.const (zs #[36]))) (zQ false))] <| .cond (zv 133) (zq [za 141 (zl (zv 1)),za 145 (zI .add (zo 1 (zN (zv 141))) (zK 1)),za 147 (zf 1 (zN (zv 141))),zw 3 (zt 147) (zt 145),za 148 (zl (zv 1)),za 150 (zo 1 (zv 4)),zE 151 (.build 44 #[(0,(.const (zu 4))),(1,(zt 150))]) 44,zc 152 140 #[zt 148,zt 151] #[83,44] 3,zm 2 152,za 3 (zQ false)] <| .ret) .skip)))))))))) (qfm)
def qdK:List Nat:=zV 157 [15,17,18,19,21,22,23,25,28,65,66,67,69,92,94,95,96,97,98,99,100,101,102,103,104,108,109,110,111,112,113,114,122,123,124,126,129,134,135,136,137,138,139,140,142,143,144,146,149]
def qC8:C1 217 157 qdK qpu [.tmp 2,.tmp 3]:=c1 [37] Tryz.func217
def qpq:OT:=zy 153 (zl (zv 1))<|zy 154 (zl (zv 1))<| .step (zc 155 276 #[zt 154] #[83] 9) true<| .step (zc 156 277 #[zt 153,zt 155] #[83,9] 3) false<| .step (zm 2 156) false<| .step (za 3 (zQ true)) false<| .done
theorem qC7:jx Tryz.prog 157 qdK 3 (qv qpt 37)=some qpq:=by kernel_rfl
def wO (L:List Tok):Prop:=∀t∈L,t.kind=3->Lib.atoiAll t.text=.ok (qdD t.text)
@[simp] theorem qIT:qk Tryz.prog 273=true:=by kernel_rfl
@[simp] theorem qNp:qk Tryz.prog 217=true:=by kernel_rfl
@[simp] theorem qNS:qk Tryz.prog 139=true:=by kernel_rfl
def qoJ {w:AA} {s:Bs} {n:Int} (o:s.length<=20) (h:Lib.atoiAll s=.ok n):Calls Tryz.prog 273 #[.string (qb s)] w fun e w'=>qc w w'/\e=.returned (.tuple #[.int .i64 n,.nilIface]):=by
 refine (Tryz.atoi_ok (qb s) (by show s.length<=_;omega) n h w).mono ?_;rintro _ w' ⟨rfl,b⟩;refine ⟨?_,rfl⟩;rcases b with rfl|⟨t,rfl⟩
 ·exact jd _
 ·exact ⟨rfl,rfl,rfl,by rw [Lib.bytesWorld_size];omega,fun k c=>Lib.bytesWorld_at_old _ _ _ _ c⟩
section
variable {L:List Tok} {base B X:Nat} {w w1:AA} {tv nv nv1:AB} {i f:Nat} {xs ys:List NV} {K:qa->AA->Prop} {Q:Ks} {ρ:qa} {d:Option Nat}
theorem qeb {t ty:TypeId} {p v:Operand} (b:Cu base B w tv nv L xs w1 nv1 i f ys) (F:i<L.length) (u:qd ρ p=.pointer (some ⟨B,1,none⟩)) (e:qd ρ v=.int .i64 (IntKind.i64.wrap ((i:Int)+1))) (E:jh Tryz.prog t 1=true)
  (h:∀W,Cu base B w tv nv L xs W nv1 (i+1) f ys->Tn base B nv1 nv1 w1 W->K (qp ρ d undef) W):qB Tryz.prog Q d (.store t p v) ty K ρ w1:=by
 have H:=b.st.tl;have y:IntKind.i64.wrap ((i:Int)+1)=((i+1:Nat):Int):=by rw [q7 (by omega)];push_cast;rfl
 rw [y] at e;refine qD (B:=B) (i:=1) u b.st.blk (by simp) (by rw [e];simp [Value.cells]) (by rw [e];simp) E fun W z n=>?_;rw [e] at n;simp at n;have o:Blk W B #[tv,.int .i64 ((i+1:Nat):Int),.int .i64 (f:Int),nv1] 85:=by simpa using n
 obtain ⟨s,c⟩:=b.st.move z o F b.st.fl;exact h W ⟨s,b.tn.trans c,b.fr,b.b0⟩ c
theorem isB {v:AB} {ss:List Bs} (c:Cu base B w tv nv L xs w1 nv1 i f ys) (e:qW w1 v ss) (h:∀w2,qc w1 w2->Cu base B w tv nv L xs w2 nv1 i f ys->K (qp ρ d (.bool (qo L i ss))) w2):
  Calls Tryz.prog 141 #[.pointer (some ⟨B,0,none⟩),v] w1 (vL Q d K ρ):=by
 refine (qb8 c.st e).mono ?_;rintro _ w2 ⟨rfl,b⟩;rw [qcC];exact h w2 b (c.ext b)
theorem qcr {r:Rs (T×Bool)} {t:T} {b:Bool} {v:AB} (e:Cu base B w tv nv L xs w1 nv1 i f ys) (c:ys.map (·.nd)=t.flat xs.length) (h:v=.int .i64 ((xs.length:Int)+t.size - 1)) (n:ret (t,b) i f=r):PR x8 base B tv nv L xs w r (.returned (.tuple #[v,.bool b])) w1:=by
 rw [<-n];exact ⟨_,nv1,ys,rfl,e.st,c,e.fr,e.tn,by rw [h];rfl⟩
theorem qcd {r:Rs (T×Bool)} {x:NV} {d:D} {b:Bool} (h:Cu base B w tv nv L xs w1 nv1 i f [x]) (e:x.nd=⟨d,[]⟩) (c:ret (T.mk d [],b) i f=r):PR x8 base B tv nv L xs w r (.returned (.tuple #[.int .i64 (xs.length:Int),.bool b])) w1:=
 qcr h (by simpa using Q9 (ys:=[]) (ks:=[]) (b:=xs.length) rfl e) (by have:=qdh (ys:=[]) (xs:=xs) (d:=d) (ks:=[]) rfl;simpa using this) c
end
def Cu.turnO {base B O:Nat} {w w1 w2:AA} {tv nv nv1 nv2:AB} {L:List Tok} {i f j g:Nat} {xs ys:List NV} (h:Cu base B w tv nv L xs w1 nv1 i f ys) (y:PSt base B w2 tv nv2 L j g (xs++ys)) (c:TnO base B O nv1 nv2 w1 w2) (z:w.heap.size<=O) (u:nv2=nv\/qm nv<qm nv2):Cu base B w tv nv L xs w2 nv2 j g ys:=by
 have E:=h.tn.size;refine ⟨y,⟨(h.tn.below).trans c.below,fun k n s o=>?_,fun k n=>?_,u⟩,h.fr,h.b0⟩
 ·refine (c.block k (by omega) s (fun e=>?_) (by omega)).trans (h.tn.block k n s o);rcases h.tn.row k e with b|b
  ·exact o b
  ·omega
 ·rcases c.row k n with b|b
  ·exact h.tn.row k b
  ·exact .inr (by omega)
def Cu.backO {base B O:Nat} {w w1 w2 s:AA} {tv nv nv1 nv2 nv3:AB} {L:List Tok} {i f j g:Nat} {xs ys zs:List NV} (h:Cu base B w tv nv L xs w1 nv1 i f ys) (c:TnO base B O nv1 nv2 w1 w2) (I:w.heap.size<=O) (o:Cu base B w2 tv nv2 L xs s nv3 j g zs) (F:qm nv<qm nv3):Cu base B w tv nv L xs s nv3 j g zs:=by
 have J:=h.tn.size;have E:=c.below.size;refine ⟨o.st,TnW.full (TnW.trans (nv1:=nv2) (w1:=w2) ⟨(h.tn.below).trans c.below,fun k n z u=>?_,fun k n=>?_⟩ o.tn.toW) (.inr F),fun y H=>(o.fr y H).mono (by omega),h.b0⟩
 ·refine (c.block k (by omega) z (fun e=>?_) (by omega)).trans (h.tn.block k n z u);rcases h.tn.row k e with b|b
  ·exact u b
  ·omega
 ·rcases c.row k n with b|b
  ·exact h.tn.row k b
  ·exact .inr (by omega)
def PSt.nvLen {base B:Nat} {w:AA} {tv nv:AB} {L:List Tok} {i f:Nat} {xs:List NV} (h:PSt base B w tv nv L i f xs):qm nv=xs.length:=by
 have:=(L01.jw h.own).len;rw [wo] at this;omega
def TnO.var {base B O X:Nat} {w1 w2:AA} {tv nv1 nv2:AB} {L:List Tok} {i f:Nat} {xs:List NV} (n:TnO base B O nv1 nv2 w1 w2) (h:PSt base B w1 tv nv1 L i f xs) {cs:Array AB} {T:TypeId} (b:Blk w1 X cs T) (o:T≠44) (e:T≠85) (c:X≠O):Blk w2 X cs T:=
 ⟨(n.block X b.lt (h.blkNe b.heap e) (h.rowNe b.heap o) c).trans b.heap⟩
theorem qJw (n:Int):Tryz.prog.built 44 [(0,.int .u8 1),(4,.int .i64 n)]=some (qe (qf 1 [] [] [] n (.slice none 0 0) [])).toArray:=by kernel_rfl
theorem qJv:Tryz.prog.built 44 [(0,.int .u8 2),(4,.int .i64 1)]=some (qe (qf 2 [] [] [] 1 (.slice none 0 0) [])).toArray:=by kernel_rfl
theorem qJu:Tryz.prog.built 44 [(0,.int .u8 2)]=some (qe (qf 2 [] [] [] 0 (.slice none 0 0) [])).toArray:=by kernel_rfl
theorem qJt:Tryz.prog.built 44 [(0,.int .u8 3)]=some (qe (qf 3 [] [] [] 0 (.slice none 0 0) [])).toArray:=by kernel_rfl
theorem qJs:Tryz.prog.built 44 [(0,.int .u8 9)]=some (qe (qf 9 [] [] [] 0 (.slice none 0 0) [])).toArray:=by kernel_rfl
theorem qwh (s:Bs):Tryz.prog.built 44 [(0,.int .u8 4),(1,.string (qb s))]=some (qe (qf 4 s [] [] 0 (.slice none 0 0) [])).toArray:=by kernel_rfl
def y8 (b e sz:Nat) (w:AA):Own b e sz w (.slice none 0 0) []:=Own.nil _ _ _ _
def qBd {L:List Tok} (hL:jJ L) (hNum:wO L) {e:M T} (he:Mt aT L 62 me e) (hu:Up e) (hz:Sz T.size 0 e) (n:Nat):Mt x8 L 217 me (ki L n e):=by
 intro base B w tv nv i f xs hS hn af;have hil:=hS.il;have htl:=hS.tl;generalize y:ki L n e i f=r at af;refine qC8 fun ρ r0=>?_;simp [qpu,r0];refine vC fun P W1 hPw hE1 hbP _=>?_;simp [Value.cells,r0] at hbP;have cP1:W1.cell? ⟨P,0,none⟩=some (.pointer (some ⟨B,0,none⟩)):=by rw [hbP.cell];rfl
 simp [cP1];refine (wZ (hS.ext hE1) 0 (by decide)).mono ?_;rintro _ w2 ⟨rfl,hE2⟩;simp;refine vR z53 (by simp) (by simp [Value.cells,vF]) (by simp [Value.cells,vF]) (by simpa [Value.cells] using QG) fun X W3 hX hE3 hbX _=>?_;simp [Value.cells,vF] at hbX;have hP3:=(hbP.ext hE2).ext hE3;have cP3:W3.cell? ⟨P,0,none⟩=some (.pointer (some ⟨B,0,none⟩)):=by rw [hP3.cell];rfl
 simp [cP3];refine (wZ (((hS.ext hE1).ext hE2).ext hE3) 1 (by decide)).mono ?_;rintro _ w4 ⟨rfl,hE4⟩;have hC:=(((((Cu.start hS).ext hE1).ext hE2).ext hE3).ext hE4);have hP:=hP3.ext hE4;have hX4:=hbX.ext hE4;obtain ⟨c0,c1,c2⟩:=xN hX4;have cP:w4.cell? ⟨P,0,none⟩=some (.pointer (some ⟨B,0,none⟩)):=by rw [hP.cell];rfl
 simp [vF,c0,c1,cP];unfold ki at y;by_cases h3:(tk L i).kind=3
 ·rw [j0 h3] at y;have hlt:=QV h3 (by decide);have h3':((tk L i).kind:Int)=3:=by omega
  simp [h3',hC.st.blk.cell];refine qeb hC hlt (by simp) (by simp) vp fun w5 hC5 hT5=>?_;have hX5:=hC.st.var hT5 hX4 (by decide) (by decide);have cX5:=(xN hX5).2.1;have hP5:=hC.st.var hT5 hP (by decide) (by decide);have cP5:w5.cell? ⟨P,0,none⟩=some (.pointer (some ⟨B,0,none⟩)):=by rw [hP5.cell];rfl
  simp [cX5];refine (qoJ (ql8 hL i) (hNum _ (by rw [qes hlt];exact uo hlt) h3)).mono ?_;rintro _ w6 ⟨hE6,rfl⟩;have hC6:=hC5.ext hE6;have cP6:=hE6.cell cP5;simp [cP6];rw [qJw];dsimp only [qT];refine vd hC6 (qf 1 [] [] [] (qdD (tk L i).text) (.slice none 0 0) []) (y8 _ _ _ _) (by simp;omega) fun nv7 w7 R hT7=>?_;simp;exact qcd R rfl y
 ·rw [q3 h3] at y;have h3':¬((tk L i).kind:Int)=3:=by omega
  simp [h3',cP];have hC4:=hC;have hP4:=hP;refine jV (s:=[116,114,117,101]) hC4 y (fun w5 hc5 hC5 hT5 y=>?_) (fun w5 hc5 hC5 hT5 y=>?_)
  ·have hP5:=hC4.st.var hT5 hP4 (by decide) (by decide);have cP5:w5.cell? ⟨P,0,none⟩=some (.pointer (some ⟨B,0,none⟩)):=by rw [hP5.cell];rfl
   simp [cP5];rw [qJv];dsimp only [qT];refine vd hC5 (qf 2 [] [] [] 1 (.slice none 0 0) []) (y8 _ _ _ _) (by simp;omega) fun nv7 w7 R hT7=>?_;simp;exact qcd R rfl y
  have hP5:=hC4.st.var hT5 hP4 (by decide) (by decide);have hX5:=hC4.st.var hT5 hX4 (by decide) (by decide);have cP5:w5.cell? ⟨P,0,none⟩=some (.pointer (some ⟨B,0,none⟩)):=by rw [hP5.cell];rfl
  obtain ⟨cx5,cy5,_⟩:=xN hX5;simp [cP5,cx5,cy5];refine jV (s:=[102,97,108,115,101]) hC5 y (fun w6 hc6 hC6 hT6 y=>?_) (fun w6 hc6 hC6 hT6 y=>?_)
  ·have hP6:=hC5.st.var hT6 hP5 (by decide) (by decide);have cP6:w6.cell? ⟨P,0,none⟩=some (.pointer (some ⟨B,0,none⟩)):=by rw [hP6.cell];rfl
   simp [cP6];rw [qJu];dsimp only [qT];refine vd hC6 (qf 2 [] [] [] 0 (.slice none 0 0) []) (y8 _ _ _ _) (by simp;omega) fun nv7 w7 R hT7=>?_;simp;exact qcd R rfl y
  have hP6:=hC5.st.var hT6 hP5 (by decide) (by decide);have hX6:=hC5.st.var hT6 hX5 (by decide) (by decide);have cP6:w6.cell? ⟨P,0,none⟩=some (.pointer (some ⟨B,0,none⟩)):=by rw [hP6.cell];rfl
  obtain ⟨cx6,cy6,_⟩:=xN hX6;simp [cP6,cx6,cy6];refine jV (s:=[110,105,108]) hC6 y (fun w7 hc7 R hT7 y=>?_) (fun w7 hc7 R hT7 y=>?_)
  ·have hP7:=hC6.st.var hT7 hP6 (by decide) (by decide);have cP7:w7.cell? ⟨P,0,none⟩=some (.pointer (some ⟨B,0,none⟩)):=by rw [hP7.cell];rfl
   simp [cP7];rw [qJt];dsimp only [qT];refine vd R (qf 3 [] [] [] 0 (.slice none 0 0) []) (y8 _ _ _ _) (by simp;omega) fun nv7 w7 R hT7=>?_;simp;exact qcd R rfl y
  have hP7:=hC6.st.var hT7 hP6 (by decide) (by decide);have hX7:=hC6.st.var hT7 hX6 (by decide) (by decide);have cP7:w7.cell? ⟨P,0,none⟩=some (.pointer (some ⟨B,0,none⟩)):=by rw [hP7.cell];rfl
  obtain ⟨cx7,cy7,_⟩:=xN hX7;simp [cP7,cx7,cy7];refine jC kj (by decide) (by decide) (by simp [Value.cells]) fun Z W8 hZ hE8 hb8 _=>?_;simp [Value.cells] at hb8;have hC8':=R.ext hE8;simp;refine isB (ss:=[[117,112],[100,111,119,110]]) hC8' (qas (l:=[[117,112],[100,111,119,110]]) (by simpa [qi,qb] using hb8) (by decide)) fun w8 hE8' hC8=>?_;have hP8:=(hP7.ext hE8).ext hE8';have hX8:=(hX7.ext hE8).ext hE8';have cP8:w8.cell? ⟨P,0,none⟩=some (.pointer (some ⟨B,0,none⟩)):=by rw [hP8.cell];rfl
  obtain ⟨cx8,cy8,_⟩:=xN hX8;by_cases h8:qo L i [[117,112],[100,111,119,110]]=true
  ·simp only [h8,wh] at y;have hlt:=xR h8;simp [h8];rw [qJs];dsimp only [qT];refine vR kf (by simp) (by simp [Value.cells,qe]) (by simp [Value.cells,qe,qf]) (by kernel_rfl) fun Y w9 hY hE9 hb9 _=>?_;simp [Value.cells] at hb9;have hN9:=hC8.newN hY hE9 hb9;have I:=hC8.ext hE9;have S:=hP8.ext hE9;have hYw:w.heap.size<=Y:=Nat.le_trans hC8.size hY;have cP9:w9.cell? ⟨P,0,none⟩=some (.pointer (some ⟨B,0,none⟩)):=by rw [S.cell];rfl
   simp [cP9];have hr':bnd (needs L [[40]]) (fun _=>bnd e fun t=>bnd (needs L [[41]]) fun _=>ret (T.mk {kind:=if qo L i [[100,111,119,110]] then 10 else 9} [t],false)) (i+1) f=r:=by
    rw [<-y];show _=bnd (bnd _ _) _ (i+1) f;simp only [sq,kU,yh]
   have rest:∀(ρ2:qa) (k:Nat) J,Cu base B w tv nv L xs J nv i f []->NVr B Y nv J (qf k [] [] [] 0 (.slice none 0 0) [])->Blk J P #[.pointer (some ⟨B,0,none⟩)] 83->ρ2 1=.pointer (some ⟨P,0,none⟩)->ρ2 8=.pointer (some ⟨Y,0,none⟩)->
     bnd (needs L [[40]]) (fun _=>bnd e fun t=>bnd (needs L [[41]]) fun _=>ret (T.mk {kind:=k} [t],false)) (i+1) f=r->
     qiz.wp ⟨Tryz.prog,157,qdK,[]⟩ (qfm.wp ⟨Tryz.prog,157,qdK,[]⟩ (qz [.tmp 2,.tmp 3] (PR x8 base B tv nv L xs w r)) (qM [.tmp 2,.tmp 3] (PR x8 base B tv nv L xs w r))) ((qM [.tmp 2,.tmp 3] (PR x8 base B tv nv L xs w r)).blk 0 (qfm.wp ⟨Tryz.prog,157,qdK,[]⟩ (qz [.tmp 2,.tmp 3] (PR x8 base B tv nv L xs w r)) (qM [.tmp 2,.tmp 3] (PR x8 base B tv nv L xs w r)))) ρ2 J:=by
    intro ρ2 k J b hN10 z r1 r8 y;have cP10:J.cell? ⟨P,0,none⟩=some (.pointer (some ⟨B,0,none⟩)):=by rw [z.cell];rfl
    simp [qiz,r1,r8,cP10,b.st.blk.cell];refine qeb b hlt (by simp) (by simp) vp fun ae u E=>?_;have F:=b.st.var E z (by decide) (by decide);have hN11:=hN10.turn E;have cP11:ae.cell? ⟨P,0,none⟩=some (.pointer (some ⟨B,0,none⟩)):=by rw [F.cell];rfl
    simp [r1,r8,cP11];refine jq u [40] fun v12 w12 hE12 o V=>?_;simp;refine jz (A':=x8) o V (by simp) y af (fun c w' hp=>by simpa using hp) ?_;intro j13 g13 nv13 w13 hne13 ad hT13 hr13;have hj13:=(jP _ _ _ _ _ hne13).1;have hP13:=o.st.var hT13 (F.ext hE12) (by decide) (by decide);have hN13:=(hN11.ext hE12).turn hT13;have cP13:w13.cell? ⟨P,0,none⟩=some (.pointer (some ⟨B,0,none⟩)):=by rw [hP13.cell];rfl
    simp [r1,r8,cP13];refine vq (A:=aT) (A':=x8) he ad (by simp;omega) hr13 af (fun c w' hp=>by simpa using hp) ?_;intro t j14 g14 v14 nv14 zs w14 ht hC14 hnd14 hT14 hv14 hr14;simp only [List.nil_append,ua] at hC14 hnd14 hv14;change v14=_ at hv14;subst hv14;change zs.map (·.nd)=t.flat xs.length at hnd14;have hz14:=hz _ _ _ _ _ ht;have hzl:zs.length=t.size:=by rw [<-T.flat_len t xs.length,<-hnd14,uq]
    have hjl14:=hC14.st.il;simp;refine jC qbb (by decide) (by simp) (by simp [Value.cells]) fun Z w15 hZ hE15 hb15 _=>?_;simp [Value.cells] at hb15;have hC15:=hC14.ext hE15;have hk15:Own w.heap.size 3 1 w15 (.slice (some ⟨Z,0,none⟩) 1 1) ((qg xs.length [t]).map encI):=Own.lit (sz:=1) (cs:=(qg xs.length [t]).map encI) (by simpa [qg,encI] using hb15) (by simp [qg]) (Nat.le_trans hC14.size hZ) (by decide);simp [r1,r8];refine kP (c:=5) (x':=qf k [] [] [] 0 (.slice (some ⟨Z,0,none⟩) 1 1) (qg xs.length [t])) hC15 ((hN13.turn hT14).ext hE15) hYw (by simp [r8]) (by simp [qe]) (by simp [Value.cells]) (by simp) xm (by simp [qe,qf]) fun w16 hO16 hC16 hN16=>?_;have hk16:=kQ ((hN13.turn hT14).ext hE15) hO16 hk15 (by decide);have hP16:Blk w16 P #[.pointer (some ⟨B,0,none⟩)] 83:=hO16.blk ((ad.st.var hT14 hP13 (by decide) (by decide)).ext hE15) (by have:=hP8.lt;omega);have cP16:w16.cell? ⟨P,0,none⟩=some (.pointer (some ⟨B,0,none⟩)):=by rw [hP16.cell];rfl
    simp [r1,r8,cP16];refine jq hC16 [41] fun v17 w17 hE17 hC17 hv17=>?_;simp;refine jz (A':=x8) hC17 hv17 (by simp) hr14 af (fun c w' hp=>by simpa using hp) ?_;intro j18 g18 nv18 w18 hne18 hC18 hT18 hr18;have hk18:=hC17.keep hT18 (hk16.ext hE17) (by decide) (by decide);have hN18:=(hN16.ext hE17).turn hT18;have hP18:=hC17.st.var hT18 (hP16.ext hE17) (by decide) (by decide);have cP18:w18.cell? ⟨P,0,none⟩=some (.pointer (some ⟨B,0,none⟩)):=by rw [hP18.cell];rfl
    simp [r1,r8,cP18,hN18.row];refine vd hC18 (qf k [] [] [] 0 (.slice (some ⟨Z,0,none⟩) 1 1) (qg xs.length [t])) hk18 (by simp;omega) fun nv19 w19 hC19 hT19=>?_;simp;have hfl:zs.map (·.nd)=flats xs.length [t]:=by rw [hnd14];simp [flats]
    exact qcr hC19 (Q9 hfl rfl) (qdh hfl) hr18
   refine jq (L:=L) I [100,111,119,110] fun v10 J H b aa=>?_;simp;refine isB (ss:=[[100,111,119,110]]) b (Own.sl aa (by simp)) fun ae hE11 u=>?_;have hN11:=(hN9.ext H).ext hE11;have F:=(S.ext H).ext hE11;cases hd:qo L i [[100,111,119,110]] with
   |true=>
    rw [hd] at hr';simp;refine kP (c:=0) (x':=qf 10 [] [] [] 0 (.slice none 0 0) []) u hN11 hYw (by simp) (by simp [qe]) (by simp [Value.cells]) (by simp) (by kernel_rfl) (by simp [qe,qf]) fun w12 hO12 o hN12=>?_;exact rest _ 10 w12 o hN12 (hO12.blk F (by have:=hP8.lt;omega)) (by simp) (by simp) hr'
   |false=>
    rw [hd] at hr';simp;exact rest _ 9 ae u hN11 F (by simp) (by simp) hr'
  ·simp only [h8,uk,ud] at y;have h8':qo L i [[117,112],[100,111,119,110]]=false:=by simpa using h8
   simp [h8',cP8];refine jV (s:=[40]) hC8 y (fun w9 hc9 I hT9 y=>?_) (fun w9 hc9 I hT9 y=>?_)
   ·have S:=hC8.st.var hT9 hP8 (by decide) (by decide);have cP9:w9.cell? ⟨P,0,none⟩=some (.pointer (some ⟨B,0,none⟩)):=by rw [S.cell];rfl
    simp [cP9];have hr':bnd e (fun t=>bnd (needs L [[41]]) fun _=>ret (t,false)) (i+1) f=r:=by
     rw [<-y];show _=bnd (bnd _ _) _ (i+1) f;simp only [sq,kU,yh]
    refine vq (A:=aT) (A':=x8) he I (by simp;omega) hr' af (fun c w' hp=>by simpa using hp) ?_;intro t j10 g10 v10 nv10 zs J ht b ab hT10 aa hr10;simp only [List.nil_append,ua] at b ab aa;have z:=I.st.var hT10 S (by decide) (by decide);have cP10:J.cell? ⟨P,0,none⟩=some (.pointer (some ⟨B,0,none⟩)):=by rw [z.cell];rfl
    simp [cP10];refine jq b [41] fun v11 ae hE11 u hv11=>?_;simp;refine jz (A':=x8) u hv11 (by simp) hr10 af (fun c w' hp=>by simpa using hp) ?_;intro j12 g12 nv12 w12 hne12 o U hr12;simp;exact qcr o ab aa hr12
   have S:=hC8.st.var hT9 hP8 (by decide) (by decide);have hX9:=hC8.st.var hT9 hX8 (by decide) (by decide);have cP9:w9.cell? ⟨P,0,none⟩=some (.pointer (some ⟨B,0,none⟩)):=by rw [S.cell];rfl
   obtain ⟨cx9,cy9,_⟩:=xN hX9;simp [cP9,cx9,cy9];have e40:(⟨#[40]⟩:ByteArray)=qb [40]:=rfl;have e123:(⟨#[123]⟩:ByteArray)=qb [123]:=rfl;have e91:(⟨#[91]⟩:ByteArray)=qb [91]:=rfl;have e36:(⟨#[36]⟩:ByteArray)=qb [36]:=rfl;have hk:(((tk L i).kind:Int)=1)↔(tk L i).kind=1:=by omega
   simp only [e40,e123,vv,hk];unfold yb at y;by_cases h1:(tk L i).kind=1/\((tk L (i+1)).text=[40]\/(tk L (i+1)).text=[123])
   ·rw [j0 h1] at y;rw [j0 h1];refine vq (A:=aT) (A':=x8) (k:=fun x=>ret (x,true)) (qov hL he hu hz n) I (by simpa using hn) y af (fun c w' hp=>by simpa using hp) ?_;intro t j10 g10 v10 nv10 zs J ht b ab hT10 aa hr10;simp only [List.nil_append,ua] at b ab aa;simp;exact qcr b ab aa hr10
   rw [q3 h1] at y;rw [q3 h1];simp [cP9,cx9,cy9,e91,vv,hk];by_cases h2:(tk L i).kind=1/\(tk L (i+1)).text=[91]
   ·rw [j0 h2] at y;rw [j0 h2];have hlt:=QV h2.1 (by decide);refine vR z9 (by simp) (by simp [Value.cells]) (by simp [Value.cells]) (by kernel_rfl) fun O J hO H hb10 _=>?_;simp [Value.cells] at hb10;have b:=I.ext H;have z:=S.ext H;have hX10:=hX9.ext H;have hOw:w.heap.size<=O:=Nat.le_trans I.size hO;have hPO:P≠O:=by have:=S.lt;omega
    have hXO:X≠O:=by have:=hX9.lt;omega
    have cP10:J.cell? ⟨P,0,none⟩=some (.pointer (some ⟨B,0,none⟩)):=by rw [z.cell];rfl
    simp [cP10];have how:ve L n i f≠ .oof:=fun e2=>by rw [e2] at y;exact af y.symm
    refine (qBa hL n (xs:=xs) (by simpa using b.st) hn z hb10 (Nat.le_trans I.b0 hOw) how).mono ?_;intro e2 ae hp;cases hm:ve L n i f with
    |oof=>exact absurd hm how
    |ok s j g=>
     rw [hm] at hp y;obtain ⟨rfl,nv11,hS11,E,hO11,hg11⟩:=hp;have u:=b.turnO (by simpa using hS11) E hOw (by
      rcases hg11 with e|e
      ·rw [e];exact b.tn.gr
      ·rcases b.tn.gr with e2|e2
       ·rw [e2] at e;exact .inr e
       ·exact .inr (by omega))
     have hj:=((qaj n).ok hm).1;have F:=E.var b.st z (by decide) (by decide) hPO;have cP11:ae.cell? ⟨P,0,none⟩=some (.pointer (some ⟨B,0,none⟩)):=by rw [F.cell];rfl
     have cO11:ae.cell? ⟨O,0,none⟩=some (.string (qb s)):=by rw [hO11.cell];rfl
     simp [cP11,cO11];refine qar (A:=aT) (A':=x8) (k:=fun x=>ret (x,true)) (fun ho=>qot hL he hu hz n s base B ae tv nv11 j g (xs++[]) u.st (by simp;omega) ho) u y af (fun c w' hp=>by simpa using hp) ?_;intro t j12 g12 v12 nv12 zs w12 ht o ac U V hr12;simp only [List.nil_append,ua] at o ac V;simp;exact qcr o ac V hr12
    |no g=>
     rw [hm] at hp y;obtain ⟨rfl,nv11,hS11,E⟩:=hp;have u:=Cu.start hS11;have F:=E.var b.st z (by decide) (by decide) hPO;have hX11:=E.var b.st hX10 (by decide) (by decide) hXO;have cP11:ae.cell? ⟨P,0,none⟩=some (.pointer (some ⟨B,0,none⟩)):=by rw [F.cell];rfl
     simp [qps,cP11,u.st.blk.cell];refine qeb u hlt (by simp) (by simp) vp fun w12 o U=>?_;have hP12:=u.st.var U F (by decide) (by decide);have hX12:=u.st.var U hX11 (by decide) (by decide);have cP12:w12.cell? ⟨P,0,none⟩=some (.pointer (some ⟨B,0,none⟩)):=by rw [hP12.cell];rfl
     simp [cP12,(xN hX12).2.1];rw [qwh];dsimp only [qT];refine vd o (qf 4 (tk L i).text [] [] 0 (.slice none 0 0) []) (y8 _ _ _ _) (by simp;omega) fun nv13 w13 ad hT13=>?_;simp;exact qcd (b.backO E hOw ad (by have h1:=hS.nvLen;have h2:=ad.st.nvLen;simp at h2;omega)) rfl y
   rw [q3 h2] at y;rw [q3 h2];simp [cP9,cx9,cy9,e36,vv,hk];by_cases h4:(tk L i).kind=1/\(tk L (i+1)).text≠[36]
   ·rw [j0 h4] at y;have hlt:=QV h4.1 (by decide);simp [h4.1,h4.2,cP9,I.st.blk.cell];refine qeb I hlt (by simp) (by simp) vp fun w12 o U=>?_;have hP12:=I.st.var U S (by decide) (by decide);have hX12:=I.st.var U hX9 (by decide) (by decide);have cP12:w12.cell? ⟨P,0,none⟩=some (.pointer (some ⟨B,0,none⟩)):=by rw [hP12.cell];rfl
    simp [cP12,(xN hX12).2.1];rw [qwh];dsimp only [qT];refine vd o (qf 4 (tk L i).text [] [] 0 (.slice none 0 0) []) (y8 _ _ _ _) (by simp;omega) fun nv13 w13 ad hT13=>?_;simp;exact qcd ad rfl y
   ·rw [q3 h4] at y;have h4':¬((tk L i).kind=1/\¬(tk L (i+1)).text=[36]):=h4;rw [q3 h4'];have hr':bnd (ve L n) (fun s=>bnd (zX L n e s) fun x=>ret (x,true)) i f=r:=by
     rw [<-y];show _=bnd (bnd _ _) _ i f;rw [kU]
    simp [qfm];refine js qC7 (fun W=>Blk W P #[.pointer (some ⟨B,0,none⟩)] 83) fun W10 H _=>?_;have z:=S.ext H;have b:=I.ext H;refine ⟨z, ?_⟩;have cPP:∀W,Blk W P #[.pointer (some ⟨B,0,none⟩)] 83->W.cell? ⟨P,0,none⟩=some (.pointer (some ⟨B,0,none⟩)):=fun W h=>by rw [h.cell];rfl
    simp+contextual -implicitDefEqProofs [qpq,cPP,z];refine qor (A':=x8) (k:=fun x=>ret (x,true)) hL he hu hz n b (by simpa using hn) hr' af (fun ρ c w' hp=>by simpa using hp) fun s ae nv11 j11 g11 u E hgo=>?_;refine ⟨b.st.var E z (by decide) (by decide), ?_⟩;simp;refine hgo fun t j12 g12 v12 nv12 zs w12 o ac V hr12=>?_;simp only [List.nil_append,ua] at o ac V;simp [qpr];exact qcr o ac V hr12
def rv (b:Nat) (t:T):Int:=(b:Int)+t.size - 1
theorem xO (b:Nat) (t:T):qg b [t]=[rv b t]:=rfl
theorem qhS (b:Nat) (t u:T):qg b [t,u]=[rv b t,rv (b+t.size) u]:=rfl
theorem qz9 (b:Nat) (t u v:T):qg b [t,u,v]=[rv b t,rv (b+t.size) u,rv (b+t.size+u.size) v]:=rfl
def xS (b:Nat) (t:T):flats b [t]=t.flat b:=by simp [flats]
def qvn (b:Nat) (t u:T):flats b [t,u]=t.flat b++u.flat (b+t.size):=by simp [flats]
section
variable {L:List Tok} {base B X:Nat} {w w1:AA} {tv nv nv1:AB} {i f:Nat} {xs ys:List NV} {K:qa->AA->Prop} {Q:Ks} {ρ:qa} {d:Option Nat}
theorem zZ {ty:TypeId} {ops:Array (Nat×Operand)} {n:Nat} (l:List Int) (o:Cu base B w tv nv L xs w1 nv1 i f ys) (y:n<=1000) (s:l.length=n) (z:ops.toList.map (·.1)=List.range n) (u:∀p∈ops.toList,(qd ρ p.2).cells.size=1)
  (b:(ops.toList.flatMap fun p=>(qd ρ p.2).cells.toList)=l.map encI) (h:∀Z w2,qc w1 w2->Cu base B w tv nv L xs w2 nv1 i f ys->Own w.heap.size 3 1 w2 (.slice (some ⟨Z,0,none⟩) n n) (l.map encI)->K (qp ρ d (.slice (some ⟨Z,0,none⟩) n n)) w2):
  qB Tryz.prog Q d (.buildSlice 40 n ops) ty K ρ w1:=by
 refine jC qbb (by simpa using y) z u fun Z W E e c _=>?_;rw [b] at c;exact h Z W e (o.ext e) (Own.lit (sz:=1) c (by simp [s]) (Nat.le_trans o.size E) (by unfold maxLen;omega))
theorem vk {b:Nat} {t:T} (h:ys.map (·.nd)=t.flat b):ys.length=t.size:=by rw [<-T.flat_len t b,<-h,uq]
theorem kw {b:Nat} {c:List T} (h:ys.map (·.nd)=flats b c):ys.length=sizes c:=by rw [<-flats_len c b,<-h,uq]
theorem qH1 {r:Rs (T×Nat)} {t:T} {b:Nat} (e:Cu base B w tv nv L xs w1 nv1 i f ys) (c:ys.map (·.nd)=t.flat xs.length) (h:ret (t,b) i f=r):PR kH base B tv nv L xs w r (.returned (.tuple #[.int .i64 (rv xs.length t),.int .i64 (b:Int)])) w1:=by
 rw [<-h];exact ⟨_,nv1,ys,rfl,e.st,c,e.fr,e.tn,rfl⟩
end
theorem qJr (Z:Nat):Tryz.prog.built 44 [(0,.int .u8 7),(5,.slice (some ⟨Z,0,none⟩) 2 2)]=some (qe (qf 7 [] [] [] 0 (.slice (some ⟨Z,0,none⟩) 2 2) [])).toArray:=by kernel_rfl
theorem qJq (s:Bs) (Z:Nat):Tryz.prog.built 44 [(0,.int .u8 8),(1,.string (qb s)),(5,.slice (some ⟨Z,0,none⟩) 1 1)]=some (qe (qf 8 s [] [] 0 (.slice (some ⟨Z,0,none⟩) 1 1) [])).toArray:=by kernel_rfl
theorem kR (k:Nat) (a b c:Bs) (n:Int) (kv:AB) (l:List Int):qe (qf k a b c n kv [])=qe (qf k a b c n kv l):=rfl
theorem qop {L:List Tok} (hL:jJ L) (hNum:wO L) {e:M T} (he:Mt aT L 62 me e) (hu:Up e) (hz:Sz T.size 0 e) (n:Nat):Mt kH L 139 me (yC L n e):=by
 intro base B w tv nv i f xs hS hn z;have hil:=hS.il;have htl:=hS.tl;generalize hr:yC L n e i f=r at z;refine qG5 fun ρ r0=>?_;simp [qux,r0];refine vq (A:=x8) (A':=kH) (qBd hL hNum he hu hz n) (Cu.start hS) (by simpa using hn) hr z (fun c w' hp=>by simpa using hp) ?_;rintro ⟨t,b⟩ j g v nv1 zs w1 ht hC1 o hT1 ag hr1;simp only [List.nil_append,ua] at hC1 o ag;change v=.tuple #[.int .i64 (rv xs.length t),.bool b] at ag;subst ag;change zs.map (·.nd)=t.flat xs.length at o;have hz1:=qmk hz n _ _ _ _ _ ht;have hzl:=vk o;have hz1':t.size+2*i<=2*j:=by simp only [xz] at hz1;omega
 simp;have go:∀I:qa,I 0=.pointer (some ⟨B,0,none⟩)->I 4=.int .i64 (rv xs.length t)->I 6=.int .i64 ((if b then 1 else 0:Nat):Int)->qj3.wp ⟨Tryz.prog,40,quw,[]⟩ (qz [.tmp 2,.tmp 3] (PR kH base B tv nv L xs w r)) (qM [.tmp 2,.tmp 3] (PR kH base B tv nv L xs w r)) I w1:=by
  intro I r0 r4 r6;simp [qj3];refine kr (fun V w'=>∃i' f' nv' ys t fm n',V 0=.pointer (some ⟨B,0,none⟩)/\V 4=.int .i64 (rv xs.length t)/\V 6=.int .i64 ((fm:Nat):Int)/\Cu base B w tv nv L xs w' nv' i' f' ys/\ys.map (·.nd)=t.flat xs.length/\(xs++ys).length<=2*i'+2/\wf L e n' t fm i' f'=r) (fun _ w'=>L.length - atOf B w')
   ⟨j,g,nv1,zs,t,_,n,r0,r4,r6,hC1,o,by simp;omega,hr1⟩ ?_
  clear ht hC1 o hT1 hr1 hz1 hzl hz1' r0 r4 r6;rintro V w' ⟨i',f',nv',ys,t,fm,n',r0,r4,r6,hC,aa,hcnt,hsp⟩;have hat:=hC.st.atOf;cases n' with
  |zero=>exact absurd hsp.symm z
  |succ n'=>
  have hyl:=vk aa;have ac:(xs++ys).length=xs.length+t.size:=by rw [ky,hyl]
  have hjl:=hC.st.il;rw [ky] at hcnt;simp [quv,r0];refine jV (s:=[91]) hC hsp (fun w2 hc2 hC2 hT2 af=>?_) (fun w2 hc2 hC2 hT2 af=>?_)
  ·have hlt:=xR hc2;simp [r0];refine vq (A:=aT) (A':=kH) he hC2 (by simp;omega) af z (fun c w' hp=>by simpa using hp) ?_;intro k j3 g3 v3 nv3 zs w3 hk E u hT3 S J;change v3=_ at S;rw [ac] at S;change v3=.int .i64 (rv (xs.length+t.size) k) at S;subst S;change zs.map (·.nd)=k.flat (xs++ys).length at u;rw [ac] at u;have hz3:=hz _ _ _ _ _ hk;have hzl:=vk u;have hjl3:=E.st.il;simp [r0];refine jq E [93] fun v4 w4 hE4 U ab=>?_;simp;refine jz (A':=kH) U ab (by simp) J z (fun c w' hp=>by simpa using hp) ?_;intro j5 g5 nv5 w5 hne5 hC5 hT5 hr5;have hj5:=(jP _ _ _ _ _ hne5).1;simp [r0,r4];refine zZ (qg xs.length [t,k]) hC5 (by decide) rfl (by decide) (by simp [r4,Value.cells]) (by simp [r4,Value.cells,qhS,encI]) fun Z w6 hE6 ah ad=>?_;simp;rw [qJr];dsimp only [qT];rw [kR (l:=qg xs.length [t,k])];refine vd ah (qf 7 [] [] [] 0 (.slice (some ⟨Z,0,none⟩) 2 2) (qg xs.length [t,k])) ad (by simp;omega) fun ae w7 H hT7=>?_;have R:(ys++zs).map (·.nd)=flats xs.length [t,k]:=by rw [uy,aa,u,qvn]
   have y:=qdh (xs:=xs) (ys:=ys++zs) (d:={kind:=7}) (ks:=[t,k]) R;simp [r0];refine ⟨⟨j5,g5,ae,_,T.mk {kind:=7} [t,k], ?_,2,rfl,H,Q9 R rfl,by simp;omega,n',hr5⟩, ?_⟩
   ·simp only [ky] at y;push_cast at y;rw [<-Int.add_assoc] at y;simpa [rv,Int.add_assoc] using y
   ·rw [H.st.atOf,hat];omega
  ·simp [r0];refine jV (s:=[46]) hC2 af (fun w3 hc3 E hT3 J=>?_) (fun w3 hc3 E hT3 J=>?_)
   ·have hlt:=xR hc3;simp [r0];refine vz (A:=aS) (A':=kH) (fun _ _=>rfl) (F:=120) (fun _ _ _ _ _ _ _ _ h _ _=>x4 h) E (by simp;omega) J z (fun c w' hp=>by simpa using hp) ?_;intro s j4 g4 v4 nv4 w4 hna U hT4 ab hr4;change v4=_ at ab;subst ab;have hj4:=kF _ _ _ _ _ hna;have hjl4:=U.st.il;simp;refine zZ (qg xs.length [t]) U (by decide) rfl (by decide) (by simp [r4,Value.cells]) (by simp [r4,Value.cells,xO,encI]) fun Z w6 hE6 ah ad=>?_;simp;rw [qJq];dsimp only [qT];rw [kR (l:=qg xs.length [t])];refine vd ah (qf 8 s [] [] 0 (.slice (some ⟨Z,0,none⟩) 1 1) (qg xs.length [t])) ad (by simp;omega) fun ae w7 H hT7=>?_;have R:ys.map (·.nd)=flats xs.length [t]:=by rw [aa,xS]
    have y:=qdh (xs:=xs) (ys:=ys) (d:={kind:=8,name:=s}) (ks:=[t]) R;simp [r0];refine ⟨⟨j4,g4,ae,_,T.mk {kind:=8,name:=s} [t], ?_,3,rfl,H,Q9 R rfl,by simp;omega,n',hr4⟩, ?_⟩
    ·simpa [rv] using y
    ·rw [H.st.atOf,hat];omega
   ·simp [r4,r6];exact qH1 E aa J
 cases b with
 |true=>
  simp;exact go _ (by simp [r0]) (by simp) (by simp)
 |false=>
  simp;exact go _ (by simp [r0]) (by simp) (by simp)
theorem qJp (Z:Nat):Tryz.prog.built 44 [(0,.int .u8 6),(1,.string (qb [110,111,116])),(5,.slice (some ⟨Z,0,none⟩) 1 1)]=some (qe (qf 6 [110,111,116] [] [] 0 (.slice (some ⟨Z,0,none⟩) 1 1) [])).toArray:=by kernel_rfl
theorem qJo (s:Bs) (Z:Nat):Tryz.prog.built 44 [(0,.int .u8 6),(1,.string (qb s)),(5,.slice (some ⟨Z,0,none⟩) 2 2)]=some (qe (qf 6 s [] [] 0 (.slice (some ⟨Z,0,none⟩) 2 2) [])).toArray:=by kernel_rfl
def qBD {L:List Tok} {p:M (T×Nat)} (F:Mt kH L 139 me p) (hz:Sz xn 0 p):Mt aT L 62 me (Jc L p):=by
 intro base B w tv nv i f xs hS hn H;have hil:=hS.il;have htl:=hS.tl;generalize hr:Jc L p i f=r at H;refine qDK fun ρ r0=>?_;simp [qqd,r0];refine jV (s:=[110,111,116]) (Cu.start hS) hr (fun w1 hc1 U hT1 J=>?_) (fun w1 hc1 U hT1 J=>?_)
 ·simp [r0];refine vq (A:=kH) (A':=aT) F U (by simp;omega) J H (fun c w' F=>by simpa using F) ?_;rintro ⟨t,fm⟩ j g v nv2 zs w2 ht h b hT2 e o;simp only [List.nil_append,ua] at h b e;change v=.tuple #[.int .i64 (rv xs.length t),.int .i64 (fm:Int)] at e;subst e;change zs.map (·.nd)=t.flat xs.length at b;have R:=hz _ _ _ _ _ ht;simp only [xn] at R;have ae:=vk b;have hjl:=h.st.il;simp [r0];refine zZ (qg xs.length [t]) h (by decide) rfl (by decide) (by simp [Value.cells]) (by simp [Value.cells,xO,encI]) fun Z w3 ad S hk3=>?_;simp;have e1:(⟨#[110,111,116]⟩:ByteArray)=qb [110,111,116]:=rfl;rw [e1,qJp];dsimp only [qT];rw [kR (l:=qg xs.length [t])];refine vd S (qf 6 [110,111,116] [] [] 0 (.slice (some ⟨Z,0,none⟩) 1 1) (qg xs.length [t])) hk3 (by simp;omega) fun nv4 w4 z hT4=>?_;have V:zs.map (·.nd)=flats xs.length [t]:=by rw [b,xS]
  simp;exact xg z V rfl o
 ·simp [qqb,r0];refine vq (A:=kH) (A':=aT) F U (by simp;omega) J H (fun c w' F=>by simpa using F) ?_;rintro ⟨t,fm⟩ j g v nv2 zs w2 ht h b hT2 e o;simp only [List.nil_append,ua] at h b e;change v=.tuple #[.int .i64 (rv xs.length t),.int .i64 (fm:Int)] at e;subst e;change zs.map (·.nd)=t.flat xs.length at b;have R:=hz _ _ _ _ _ ht;simp only [xn] at R;have ae:=vk b;have hjl:=h.st.il;simp [r0];refine jC kj (by decide) (by decide) (by simp [Value.cells]) fun Z W3 hZ ad ab _=>?_;simp [Value.cells] at ab;have S:=h.ext ad;simp;refine isB (ss:=QT) S (qas (l:=QT) (by simpa [QT,qi,qb] using ab) (by decide)) fun w4 hE4 z=>?_;by_cases y:qo L j QT=true
  ·simp only [y,wh] at o;have hlt:=xR y;simp [y,qqc,r0];refine (wZ z.st 0 (by decide)).mono ?_;rintro _ w5 ⟨rfl,hE5⟩;have ac:=z.ext hE5;simp [vF,r0,ac.st.blk.cell];refine qeb ac hlt (by simp) (by simp) vp fun w6 hC6 hT6=>?_;simp [r0];refine vq (A:=kH) (A':=aT) F hC6 (by simp;omega) o H (fun c w' F=>by simpa using F) ?_;rintro ⟨u,fm2⟩ j7 g7 v7 nv7 us w7 hu7 aa n hT7 af hr7;have I:(xs++zs).length=xs.length+t.size:=by rw [ky,ae]
   change v7=.tuple #[.int .i64 (rv (xs++zs).length u),.int .i64 (fm2:Int)] at af;subst af;change us.map (·.nd)=u.flat (xs++zs).length at n;rw [I] at n;have hz7:=hz _ _ _ _ _ hu7;simp only [xn] at hz7;have hul:=vk n;have hjl7:=aa.st.il;rw [I];simp [r0];refine zZ (qg xs.length [t,u]) aa (by decide) rfl (by decide) (by simp [Value.cells]) (by simp [Value.cells,qhS,encI]) fun Y w8 hE8 hC8 hk8=>?_;simp;rw [qJo];dsimp only [qT];rw [kR (l:=qg xs.length [t,u])];refine vd hC8 (qf 6 (tk L j).text [] [] 0 (.slice (some ⟨Y,0,none⟩) 2 2) (qg xs.length [t,u])) hk8 (by simp;omega) fun nv9 w9 hC9 hT9=>?_;have V:(zs++us).map (·.nd)=flats xs.length [t,u]:=by rw [uy,b,n,qvn]
   have E:=xg hC9 V rfl hr7;rw [ky] at E
   push_cast at E
   simp;exact E
  ·simp only [y,uk,ud] at o;have ag:qo L j QT=false:=by simpa using y
   simp [ag];exact qaO z b rfl o
def qik {L:List Tok} (c:jJ L) (b:wO L):∀n,Mt aT L 62 me (Qm L n)
 |0=>fun _ _ _ _ _ _ _ _ _ _ h=>absurd rfl h
 |n+1=>qBD (qop c b (qik c b n) (yn n) (qao n) n) (qev (qao n) n)
@[simp] theorem qMU:qk Tryz.prog 312=true:=by kernel_rfl
@[simp] theorem qNa:qk Tryz.prog 269=true:=by kernel_rfl
@[simp] theorem qMT:qk Tryz.prog 313=true:=by kernel_rfl
@[simp] theorem qNr:qk Tryz.prog 209=true:=by kernel_rfl
@[simp] theorem qM9:qk Tryz.prog 270=true:=by kernel_rfl
@[simp] theorem qMS:qk Tryz.prog 314=true:=by kernel_rfl
@[simp] theorem qMQ:qk Tryz.prog 316=true:=by kernel_rfl
@[simp] theorem qMP:qk Tryz.prog 317=true:=by kernel_rfl
@[simp] theorem qMO:qk Tryz.prog 318=true:=by kernel_rfl
def qk2:List Bs:=[[116,114,117,101],[102,97,108,115,101],[110,105,108],[117,112],[100,111,119,110],[40],[110,111,116],[105,110,116],[98,111,111,108],[110,117,108,108],[97,114,114,97,121],[114,101,99,111,114,100],[111,110,101,111,102],[63]]
theorem qJS (L:List Tok) (i:Nat):kV L i=(decide ((tk L i).kind=1)||decide ((tk L i).kind=3)||qo L i qk2):=rfl
def qc8:List Bs:=[[118,97,114],[112,117,116],[105,102],[119,104,105,108,101],[102,111,114],[114,101,116,117,114,110],[121,105,101,108,100],[115,105,103,110,97,108],[98,114,101,97,107],[98,101,103,105,110],[116,97,103,99,97,115,101]]
theorem qyU (L:List Tok) (i:Nat):yu L i=(qo L i qc8||(kV L i&& !qo L i [[110,111,116]])):=rfl
section
variable {L:List Tok} {base B X:Nat} {w w1:AA} {tv nv nv1:AB} {i f:Nat} {xs ys:List NV} {K:qa->AA->Prop} {Q:Ks} {ρ:qa} {d:Option Nat}
theorem qoI (h:PSt base B w tv nv L i f xs):Calls Tryz.prog 312 #[.pointer (some ⟨B,0,none⟩)] w fun e w'=>e=.returned (.bool (kV L i))/\qc w w':=by
 refine qEu fun ρ r0=>?_;simp [qrs,r0];refine (wZ h 0 (by decide)).mono ?_;rintro _ w1 ⟨rfl,b⟩;rw [qJS];by_cases E:(tk L i).kind=1
 ·simp [vF,E];exact b
 by_cases y:(tk L i).kind=3
 ·simp [vF,y];exact b
 ·have n:((tk L i).kind:Int)≠1:=by omega
  have c:((tk L i).kind:Int)≠3:=by omega
  simp [vF,n,c,r0];refine jC kj (by decide) (by decide) (by simp [Value.cells]) fun Z W2 H s o _=>?_;simp [Value.cells] at o;simp [n,c];have z:=b.trans' s;refine (qb8 (h.ext z) (qas (l:=qk2) (by simpa [qk2,qi,qb] using o) (by decide))).mono ?_;rintro _ F ⟨rfl,u⟩;simp [E,y,n,c];exact z.trans' u
theorem qBc (h:PSt base B w tv nv L i f xs):Calls Tryz.prog 269 #[.pointer (some ⟨B,0,none⟩)] w fun e w'=>e=.returned (.bool (yu L i))/\qc w w':=by
 refine qE4 fun ρ r0=>?_;simp [qrZ,r0];refine jC kj (by decide) (by decide) (by simp [Value.cells]) fun Z W2 J c o _=>?_;simp [Value.cells] at o;simp;refine (qb8 (h.ext c) (qas (l:=qc8) (by simpa [qc8,qi,qb] using o) (by decide))).mono ?_;rintro _ R ⟨rfl,H⟩;have y:=c.trans' H;rw [qyU];simp;by_cases I:qo L i qc8=true
 ·simp [I];exact y
 ·have z:qo L i qc8=false:=by simpa using I
  simp [z,qrY,r0];refine (qoI (h.ext y)).mono ?_;rintro _ U ⟨rfl,F⟩;have s:=y.trans' F;simp;cases S:kV L i with
  |false=>
   simp;exact s
  |true=>
   simp;refine jC kj (by decide) (by decide) (by simp [Value.cells]) fun Z W6 J u n _=>?_;simp [Value.cells] at n;have b:=s.trans' u;simp [r0];refine (qb8 (h.ext b) (qas (l:=[[110,111,116]]) (by simpa [qi,qb] using n) (by decide))).mono ?_;rintro _ V ⟨rfl,E⟩;simp;exact b.trans' E
end
def aD (k:Nat):Ans (Bs×Bs):=⟨fun _ _=>[],fun _ _ _ x v=>v=.agg (qe (qf k x.1 [] x.2 0 (.slice none 0 0) [])).toArray⟩
def mK (k:Nat) (v:AB):Array AB:=#[v,.int .u8 (k:Int)]
theorem qoA {L:List Tok} (hL:jJ L) (n k:Nat) (bu:∀s,Tryz.prog.built 44 [(0,.int .u8 (k:Int)),(1,.string (qb s))]=some (qe (qf k s [] [] 0 (.slice none 0 0) [])).toArray):Mt (aD k) L 313 (mK k) (x7 L n):=by
 intro base B w tv nv i f xs hS hn e;generalize hr:x7 L n i f=r at e;have hil:=hS.il;have htl:=hS.tl;refine qEs fun ρ r0 r1=>?_;simp [qrr];refine qQ kf fun Y W1 hY J hbY _=>?_;simp [r0,r1];have hC1:=(Cu.start hS).ext J;have hNY:=(Cu.start hS).newN (x:=qf 0 [] [] [] 0 (.slice none 0 0) []) hY J hbY;refine vz (A:=aS) (A':=aD k) (fun _ _=>rfl) (F:=120) (fun _ _ _ _ _ _ _ _ h _ _=>x4 h) hC1 (by simpa using hn) hr e (fun c w' hp=>by simpa using hp) ?_;intro s j g v nv2 w2 hna z hT2 hv hr2;change v=_ at hv;subst hv;have hj:=(kF _ _ _ _ _ hna).1;have o:=hNY.turn hT2;simp;rw [bu];dsimp only [qT];refine vR kf (by simp) (by simp [Value.cells,qe]) (by simp [Value.cells,qe,qf]) (by kernel_rfl) fun X w3 hX y R _=>?_;simp [Value.cells] at R;have hN3:=z.newN hX y R;have hC3:=z.ext y;have hXw:w.heap.size<=X:=Nat.le_trans z.size hX;have hXY:Y≠X:=by have:=o.blk.lt;omega
 simp [r0];refine jq hC3 [58] fun v4 w4 V hC4 hv4=>?_;simp;refine jz (A':=aD k) hC4 hv4 (by simp) hr2 e (fun c w' hp=>by simpa using hp) ?_;intro j5 g5 nv5 w5 I hC5 hT5 hr5;have hj5:=(jP _ _ _ _ _ I).1;have hN5:=(hN3.ext V).turn hT5;have S:=((o.ext y).ext V).turn hT5;simp [r0];refine vz (A:=aS) (A':=aD k) (fun _ _=>rfl) (QQ hL n) hC5 (by simp;omega) hr5 e (fun c w' hp=>by simpa using hp) ?_;intro ty j6 g6 v6 U w6 hty hC6 H aa hr6;change v6=_ at aa;subst aa;have hN6:=hN5.turn H;have b:=S.turn H;simp;refine kP (c:=3) (x':=qf k s [] ty 0 (.slice none 0 0) []) hC6 hN6 hXw (by simp) (by simp [qe]) (by simp [Value.cells]) (by simp) kL (by simp [qe,qf]) fun w7 hO7 hC7 hN7=>?_;have u:NVr B Y U w7 _:=⟨hO7.blk b.blk hXY,b.neB,b.neR⟩;simp [hN7.row];refine jg (B:=Y) (by simp) u.blk (by simp [Value.cells,qe]) (by simp [Value.cells,qe,qf]) (by kernel_rfl) fun w8 hO8 Z=>?_;simp [Value.cells] at Z;have E:=hC7.put u hY hO8;simp;refine qY (by simp) Z (by simp [qe]) ?_;rw [<-hr6];exact ⟨_,U,[],rfl,E.st,rfl,E.fr,E.tn,rfl⟩
structure NK (w:AA) (B X:Nat) (nv:AB) (W:AA) (x:NV) (all:List NV):Prop where
 var:NVr B X nv W x
 own:Own w.heap.size 3 1 W x.kv (x.nd.kids.map encI)
 sep:jF x.kv all
section
variable {L:List Tok} {base B X:Nat} {w w1 w2:AA} {tv nv nv1 nv2:AB} {i f:Nat} {xs ys zs:List NV} {x:NV} {K:qa->AA->Prop} {Q:Ks} {ρ:qa} {d:Option Nat}
theorem NK.ext {all:List NV} (h:NK w B X nv1 w1 x all) (b:qc w1 w2):NK w B X nv1 w2 x all:=⟨h.var.ext b,h.own.ext b,h.sep⟩
theorem NK.turn (h:NK w B X nv1 w1 x (xs++ys)) (e:Cu base B w tv nv L xs w1 nv1 i f ys) (b:Tn base B nv1 nv2 w1 w2) (c:∀z∈zs,xW w1 z.kv):NK w B X nv2 w2 x (xs++(ys++zs)):=
 ⟨h.var.turn b,e.keep b h.own (by decide) (by decide),by rw [<-un];exact h.sep.app (jF.new c fun k n=>(h.own.blk k n).2)⟩
theorem NK.turn0 (h:NK w B X nv1 w1 x (xs++ys)) (c:Cu base B w tv nv L xs w1 nv1 i f ys) (b:Tn base B nv1 nv2 w1 w2):NK w B X nv2 w2 x (xs++ys):=by
 simpa using h.turn (zs:=[]) c b (by simp)
theorem Qu {ty:TypeId} {s v:Operand} {n:Int} {Z:Nat} (u:Cu base B w tv nv L xs w1 nv1 i f ys) (c:NK w B X nv1 w1 x (xs++ys)) (V:qd ρ s=x.kv) (I:qd ρ v=.slice (some ⟨Z,0,none⟩) 1 1) {b:Nat} (o:Own b 3 1 w1 (.slice (some ⟨Z,0,none⟩) 1 1) [encI n]) (F:x.nd.kids.length<=1000000)
  (h:∀kv' W,Cu base B w tv nv L xs W nv1 i f ys->NVr B X nv1 W x->Own w.heap.size 3 1 W kv' ((x.nd.kids++[n]).map encI)->jF kv' (xs++ys)->w1.heap.size<=W.heap.size->K (qp ρ d kv') W):
  qB Tryz.prog Q d (.call {callee:=.builtin .append,args:=#[s,v],argTypes:=#[40,40]}) ty K ρ w1:=by
 refine yf qeK (base:=w.heap.size) (sv:=x.kv) (xv:=.slice (some ⟨Z,0,none⟩) 1 1) (xs:=x.nd.kids.map encI) (news:=[encI n]) u.size V I c.own (L01.jw o) (by simp [encI,Value.oneCell']) (by simp;omega) (by simp;omega) fun kv' W S z H=>?_;have U:=u.st.grown c.own z c.sep (by decide) (by decide) (by decide);have hT:=u.tn.grown z (fun k o=>(c.own.blk k o).1) u.b0;have E:x.kv.ownBlock≠some X:=fun e=>by
  obtain ⟨cur,R⟩:=Own.row c.own e;have:=c.var.blk.heap;rw [R] at this;cases this
 refine h kv' W ⟨U,hT,u.fr,u.b0⟩ ⟨⟨(z.block X c.var.blk.lt fun e=>E e.symm).trans c.var.blk.heap⟩,c.var.neB,c.var.neR⟩ (by simpa using S) ?_ z.size;rcases H with e|e
 ·intro y J k o;rw [e];exact c.sep y J k o
 ·refine jF.old (w:=w1) u.st.old ?_;intro k o;rw [e] at o;cases o;exact kh _
end
section
variable {α β:Type} {A:Ans α} {A':Ans β} {L:List Tok} {m:M α} {k:α->M β} {r:Rs β} {base B X:Nat} {w w1:AA} {tv nv nv1:AB} {i f:Nat} {xs ys:List NV} {K:qa->AA->Prop} {Q:Ks} {ρ:qa} {d:Option Nat}
theorem yY {F:FuncId} (U:Mt A L F me m) (o:Cu base B w tv nv L xs w1 nv1 i f ys) (S:(xs++ys).length<=2*i+2) (y:bnd m k i f=r) (I:r≠ .oof)
  (hpn:∀c w',PR A' base B tv nv L xs w r (.panicked c) w'->Q.pn ρ c w')
  (h:∀a j g v nv2 zs w2,m i f=.ok a j g->Cu base B w tv nv L xs w2 nv2 j g (ys++zs)->zs.map (·.nd)=A.nodes (xs++ys).length a->(∀z∈zs,xW w1 z.kv)->Tn base B nv1 nv2 w1 w2->A.val w1 w2 (xs++ys).length a v->k a j g=r->K (qp ρ d v) w2):
  Calls Tryz.prog F #[.pointer (some ⟨B,0,none⟩)] w1 (vL Q d K ρ):=
 QI (xs:=xs) (ys:=ys) (r:=r) (A':=A') (fun e=>U base B w1 tv nv1 i f (xs++ys) o.st S e) o.tn y I hpn fun a j g v nv2 zs w2 n J s u b H E R=>
  h a j g v nv2 zs w2 n (o.more J b u) s u b E R
end
def y5 (t:T):∀(c:List T) (b:Nat),qg b (c++[t])=qg b c++[rv (b+sizes c) t]
 |[],b=>by simp [qg,sizes,rv]
 |u::c,b=>by simp only [List.cons_append,qg,y5 t c,sizes,uB]
def ye (t:T):∀(c:List T) (b:Nat),flats b (c++[t])=flats b c++t.flat (b+sizes c)
 |[],b=>by simp [flats,sizes]
 |u::c,b=>by simp only [List.cons_append,flats,ye t c,sizes,uB,un]
def wX:∀(c:List T) (b:Nat),(qg b c).length=c.length
 |[],_=>rfl
 |t::c,b=>by simp [qg,wX c]
def qfh:∀b:List T,b.length<=sizes b
 |[]=>kh _
 | .mk d ks::b=>by have:=qfh b;simp only [List.length_cons,sizes,jv];omega
theorem qJn:Tryz.prog.built 44 [(0,.int .u8 20)]=some (qe (qf 20 [] [] [] 0 (.slice none 0 0) [])).toArray:=by kernel_rfl
section
variable {L:List Tok} {base B X:Nat} {w w1 w2:AA} {tv nv nv1 nv2:AB} {i f:Nat} {xs ys:List NV} {x:NV} {K:qa->AA->Prop} {Q:Ks} {ρ:qa} {d:Option Nat}
theorem Cu.newK (h:Cu base B w tv nv L xs w1 nv1 i f ys) (e:w1.heap.size<=X) (n:qc w1 w2) (c:Blk w2 X (qe x).toArray 44) (b:Own w.heap.size 3 1 w2 x.kv (x.nd.kids.map encI)) (o:jF x.kv (xs++ys)):NK w B X nv1 w2 x (xs++ys):=⟨h.newN e n c,b,o⟩
theorem qzf (l:List NV):jF (.slice none 0 0) l:=fun x _ k _ e=>by cases e
theorem NVr.cell5 (h:NVr B X nv w x):w.cell? ⟨X,5,none⟩=some x.kv:=by rw [h.blk.cell];rfl
theorem yO {W:AA} (h:Blk W X (qe x).toArray 44):W.cell? ⟨X,5,none⟩=some x.kv:=by rw [h.cell];rfl
theorem yB {t ty:TypeId} {p v:Operand} {kv:AB} {k:Nat} {a b c:Bs} {n:Int} {l l':List Int} {kv':AB} (J:Cu base B w tv nv L xs w1 nv1 i f ys) (E:NVr B X nv1 w1 (qf k a b c n kv l)) (F:w.heap.size<=X) (H:qd ρ p=.pointer (some ⟨X,5,none⟩)) (e:qd ρ v=kv')
  (s:Own w.heap.size 3 1 w1 kv' (l'.map encI)) (u:jF kv' (xs++ys)) (I:jh Tryz.prog t 1=true) (h:∀W,Only X w1 W->Cu base B w tv nv L xs W nv1 i f ys->NK w B X nv1 W (qf k a b c n kv' l') (xs++ys)->K (qp ρ d undef) W):qB Tryz.prog Q d (.store t p v) ty K ρ w1:=by
 refine kP (c:=5) (x':=qf k a b c n kv' l') J E F H (by simp [qe]) (by rw [e];exact qn s.isl) (by rw [e];exact jf s.isl) I (by rw [e];simp [qe,qf]) fun W z o y=>?_;exact h W z o ⟨y,kQ E z s (by decide),u⟩
end
theorem qoG {L:List Tok} {s:M T} (hs:Mt aT L 270 me s) (hz:Sz T.size 0 s) (n:Nat):Mt aT L 209 me (wv L n s):=by
 intro base B w tv nv i f xs hS hn ai;have hil:=hS.il;have htl:=hS.tl;generalize hr:wv L n s i f=r at ai;refine qFZ fun ρ r0=>?_;simp [qs0];rw [qJn];dsimp only [qT];refine vR kf (by simp) (by simp [Value.cells,qe]) (by simp [Value.cells,qe,qf]) (by kernel_rfl) fun X w1 hX hE1 hb1 _=>?_;simp [Value.cells] at hb1;have hC1:=(Cu.start hS).ext hE1;have hK1:=(Cu.start hS).newK hX hE1 hb1 (y8 _ _ _ _) (qzf _);simp [r0];refine (qBc hC1.st).mono ?_;rintro _ w2 ⟨rfl,hE2⟩;have H:=hC1.ext hE2;have F:=hK1.ext hE2;simp;have fin:∀(ag:qa) w3 nv3 j g ys e kv,ag 0=.pointer (some ⟨B,0,none⟩)->ag 3=.pointer (some ⟨X,0,none⟩)->Cu base B w tv nv L xs w3 nv3 j g ys->ys.map (·.nd)=flats xs.length e->NK w B X nv3 w3 (qf 20 [] [] [] 0 kv (qg xs.length e)) (xs++ys)->(xs++ys).length<=1000000-> .ok (T.mk {kind:=20} e) j g=r->
   qjy.wp ⟨Tryz.prog,26,qfJ,[]⟩ (qz [.tmp 2] (PR aT base B tv nv L xs w r)) (qM [.tmp 2] (PR aT base B tv nv L xs w r)) ag w3:=by
  intro ag w3 nv3 j g ys e kv r0 r3 hC U hK hcn hr;simp [qjy,r0,r3,hK.var.row];refine vd hC (qf 20 [] [] [] 0 kv (qg xs.length e)) hK.own hcn fun ac w4 o R=>?_;simp;exact xg o U rfl hr
 unfold wv at hr;by_cases ad:yu L i=true
 ·simp only [ad,wh] at hr;simp [ad];refine js qFY (fun W=>Blk W X (qe (qf 20 [] [] [] 0 (.slice none 0 0) [])).toArray 44) fun W3 S _=>?_;have V:=H.ext S;have u:=F.ext S;refine ⟨u.var.blk, ?_⟩;have cX:∀W,Blk W X (qe (qf 20 [] [] [] 0 (.slice none 0 0) [])).toArray 44->W.cell? ⟨X,5,none⟩=some (.slice none 0 0):=fun W h=>yO h;have hbX:=u.var.blk;simp+contextual -implicitDefEqProofs [qsW,cX,hbX,r0];refine yY (A:=aT) (A':=aT) hs V (by simpa using hn) hr ai (fun c w' hp=>by simpa using hp) ?_;intro t j4 g4 v4 ac zs w4 ht o b hf4 R y hr4;have z:=u.turn V R hf4;simp only [List.nil_append,ua] at o b y z;change v4=.int .i64 (rv xs.length t) at y;subst y;change zs.map (·.nd)=t.flat xs.length at b;have hz4:=hz _ _ _ _ _ ht;have hzl:=vk b;refine ⟨z.var.blk, ?_⟩;simp;refine zZ [rv xs.length t] o (by decide) rfl (by decide) (by simp [Value.cells]) (by simp [Value.cells,encI]) fun Z w5 hE5 aa aj=>?_;have I:=z.ext hE5;refine ⟨I.var.blk, ?_⟩;refine Qu (n:=rv xs.length t) (Z:=Z) aa I (by simp [qf]) (by simp) (by simpa using aj) (by simp [qf]) fun kv' w6 ae ah ab E hs6=>?_;simp;refine yB (l':=qg xs.length [t]) (kv':=kv') ae ah hX (by simp) (by simp) (by simpa [qf,xO] using ab) E xm fun w7 hO7 J hK7=>?_;have hjl4:=o.st.il;simp [qsY];refine kr (fun ρ' w'=>∃i' f' af ys e kv n',ρ' 0=.pointer (some ⟨B,0,none⟩)/\ρ' 3=.pointer (some ⟨X,0,none⟩)/\Cu base B w tv nv L xs w' af i' f' ys/\ys.map (·.nd)=flats xs.length e/\NK w B X af w' (qf 20 [] [] [] 0 kv (qg xs.length e)) (xs++ys)/\(xs++ys).length<=2*i'+2/\
    (xL L s n' i' f').andThen (fun us j g=> .ok (T.mk {kind:=20} (e++us)) j g)=r) (fun _ w'=>L.length - atOf B w')
   ⟨j4,g4,ac,zs,[t],kv',n,by simp [r0],by simp,J,by rw [b,xS],hK7,by simp;omega, ?_⟩ ?_
  ·rw [<-hr4];simp only [bnd];cases xL L s n j4 g4<;>simp [Rs.andThen,ret]
  clear hr4 b hf4 R z o hz4 hzl aj I aa ae ah ab E hO7 J hK7 ht;rintro ρ' w' ⟨i',f',af,ys,e,kv,n',r0,r3,hC,U,hK,hcnt,hsp⟩;have hat:=hC.st.atOf;have hyl:=kw U;have hlen:(xs++ys).length=xs.length+sizes e:=by rw [ky,hyl]
  have htsl:=qfh e;have hjl:=hC.st.il;have hcnt':=hcnt;rw [ky] at hcnt';simp [qsX,r0];cases n' with
  |zero=>exact absurd hsp.symm ai
  |succ n'=>
  have hsp':qt L [59] (bnd s fun x=>fun i f=>(xL L s n' i f).andThen (fun us j g=> .ok (T.mk {kind:=20} ((e++[x])++us)) j g)) (fun j g=> .ok (T.mk {kind:=20} e) j g) i' f'=r:=by
   rw [<-hsp];show _=(qt L [59] (bnd s fun x=>bnd (xL L s n') fun xs=>ret (x::xs)) (ret []) i' f').andThen _;unfold qt;cases qo L i' [[59]] with
   |false=>simp [ret,Rs.andThen]
   |true=>
    simp only [wh,bnd];cases s (i'+1) f' with
    |oof=>rfl
    |no g=>rfl
    |ok a j g=>
     have e2:(bnd (xL L s n') fun xs=>ret (a::xs)) j g=(xL L s n' j g).andThen fun bs j g=> .ok (a::bs) j g:=rfl;simp only [Rs.andThen];rw [e2];cases xL L s n' j g<;>simp [Rs.andThen]
  refine jV (s:=[59]) hC hsp' (fun w2 hc2 H hT2 hr2=>?_) (fun w2 hc2 H hT2 hr2=>?_)
  ·have hlt:=xR hc2;have F:=hK.turn0 hC hT2;simp [qsZ];refine js qFX (fun W=>Blk W X (qe (qf 20 [] [] [] 0 kv (qg xs.length e))).toArray 44) fun W3 S _=>?_;have V:=H.ext S;have u:=F.ext S;refine ⟨u.var.blk, ?_⟩;have cX:∀W,Blk W X (qe (qf 20 [] [] [] 0 kv (qg xs.length e))).toArray 44->W.cell? ⟨X,5,none⟩=some kv:=fun W h=>yO h;have hbX:=u.var.blk;simp+contextual -implicitDefEqProofs [qsV,cX,hbX,r0,r3];refine yY (A:=aT) (A':=aT) hs V (by simp;omega) hr2 ai (fun c w' hp=>by simpa using hp) ?_;intro t j4 g4 v4 ac zs w4 ht o b hf4 R y hr4;have z:=u.turn V R hf4;change v4=.int .i64 (rv (xs++ys).length t) at y;rw [hlen] at y;subst y;change zs.map (·.nd)=t.flat (xs++ys).length at b;rw [hlen] at b;have hz4:=hz _ _ _ _ _ ht;have hzl:=vk b;refine ⟨z.var.blk, ?_⟩;simp;refine zZ [rv (xs.length+sizes e) t] o (by decide) rfl (by decide) (by simp [Value.cells]) (by simp [Value.cells,encI]) fun Z w5 hE5 aa aj=>?_;have I:=z.ext hE5;refine ⟨I.var.blk, ?_⟩;refine Qu (n:=rv (xs.length+sizes e) t) (Z:=Z) aa I (by simp [qf]) (by simp) (by simpa using aj) (by simp [qf,wX];omega) fun kv' w6 ae ah ab E hs6=>?_;simp [r3];refine yB (l':=qg xs.length (e++[t])) (kv':=kv') ae ah hX (by simp [r3]) (by simp) (by simpa [qf,y5] using ab) E xm fun w7 hO7 J hK7=>?_;refine ⟨⟨by simp [r0],by simp [r3],j4,g4,ac,ys++zs,J,e++[t], ?_,⟨kv',hK7⟩,by simp;omega,n',hr4⟩, ?_⟩
   ·rw [uy,U,b,ye]
   ·rw [J.st.atOf,hat];omega
  ·simp;have F:=hK.turn0 hC hT2;refine fin _ w2 af i' f' ys e kv ?_ ?_ H U F (by omega) hr2<;>simp [r0,r3]
 ·simp only [ad,uk,ud] at hr;have hst':yu L i=false:=by simpa using ad
  simp [hst'];exact fin _ w2 nv i f [] [] _ (by simp [r0]) (by simp) H rfl F (by simp;omega) hr
section
variable {L:List Tok} {base B X:Nat} {w w1:AA} {tv nv nv1:AB} {i f:Nat} {xs ys:List NV} {K:qa->AA->Prop} {Q:Ks} {ρ:qa} {d:Option Nat}
theorem QW {ty:TypeId} {ops:Array (Nat×Operand)} {n:Nat} (l:List Int) (e:Cu base B w tv nv L xs w1 nv1 i f ys) (E:n<=1000) (u:l.length=n) (F:ops.toList.map (·.1)=List.range n) (y:∀p∈ops.toList,(qd ρ p.2).cells.size=1)
  (b:(ops.toList.flatMap fun p=>(qd ρ p.2).cells.toList)=l.map encI) (h:∀Z w2,qc w1 w2->Cu base B w tv nv L xs w2 nv1 i f ys->Own w.heap.size 3 1 w2 (.slice (some ⟨Z,0,none⟩) n n) (l.map encI)->jF (.slice (some ⟨Z,0,none⟩) n n) (xs++ys)->w1.heap.size<=Z->K (qp ρ d (.slice (some ⟨Z,0,none⟩) n n)) w2):
  qB Tryz.prog Q d (.buildSlice 40 n ops) ty K ρ w1:=by
 refine jC qbb (by simpa using E) F y fun Z W c s o _=>?_;rw [b] at o;refine h Z W s (e.ext s) (Own.lit (sz:=1) o (by simp [u]) (Nat.le_trans e.size c) (by unfold maxLen;omega)) (jF.old (w:=w1) e.st.old ?_) c;intro k z;cases z;exact c
theorem NK.add {w2:AA} {nv2:AB} {x z:NV} (h:NK w B X nv1 w1 x (xs++ys)) (o:Cu base B w tv nv L xs w1 nv1 i f ys) (b:Tn base B nv1 nv2 w1 w2) (n:∀k,z.kv.ownBlock=some k->x.kv.ownBlock≠some k):NK w B X nv2 w2 x (xs++(ys++[z])):=
 ⟨h.var.turn b,o.keep b h.own (by decide) (by decide),by rw [<-un];exact h.sep.app fun y c k e=>(by
  obtain rfl:y=z:=uu.1 c;exact n k e)⟩
end
theorem qJm (Z:Nat):Tryz.prog.built 44 [(0,.int .u8 26),(5,.slice (some ⟨Z,0,none⟩) 1 1)]=some (qe (qf 26 [] [] [] 0 (.slice (some ⟨Z,0,none⟩) 1 1) [])).toArray:=by kernel_rfl
theorem qJl (Z:Nat):Tryz.prog.built 44 [(0,.int .u8 20),(5,.slice (some ⟨Z,0,none⟩) 1 1)]=some (qe (qf 20 [] [] [] 0 (.slice (some ⟨Z,0,none⟩) 1 1) [])).toArray:=by kernel_rfl
def qoD {L:List Tok} {e b:M T} (he:Mt aT L 62 me e) (hze:Sz T.size 0 e) (hb:Mt aT L 209 me b) (hzb:Sz T.size 1 b):∀n,Mt aT L 314 me (Qp L e b n)
 |0=>fun _ _ _ _ _ _ _ _ _ _ h=>absurd rfl h
 |n+1=>by
  have ih:=qoD he hze hb hzb n;intro base B w tv nv i f xs hS hn ai;have hil:=hS.il;have htl:=hS.tl;generalize hr:Qp L e b (n+1) i f=r at ai;refine qEr fun ρ r0=>?_;simp [qrq,r0];refine vq (A:=aT) (A':=aT) he (Cu.start hS) (by simpa using hn) hr ai (fun c w' hp=>by simpa using hp) ?_;intro x j1 g1 v1 nv1 o w1 ht1 hC1 aq hT1 hv1 hr1;simp only [List.nil_append,ua] at hC1 aq hv1;change v1=.int .i64 (rv xs.length x) at hv1;subst hv1;change o.map (·.nd)=x.flat xs.length at aq;have hz1:=hze _ _ _ _ _ ht1;have hzl1:=vk aq;have hjl1:=hC1.st.il;simp;refine QW (qg xs.length [x]) hC1 (by decide) rfl (by decide) (by simp [Value.cells]) (by simp [Value.cells,xO,encI]) fun Z w2 hE2 hC2 hk2 hsep _=>?_;simp;rw [qJm];dsimp only [qT];rw [kR (l:=qg xs.length [x])];refine vR kf (by simp) (by simp [Value.cells,qe]) (by simp [Value.cells,qe,qf]) (by kernel_rfl) fun X w3 hX hE3 hb3 _=>?_;simp [Value.cells] at hb3;have hXw:w.heap.size<=X:=Nat.le_trans hC2.size hX;have hC3:=hC2.ext hE3;have hK3:NK w B X nv1 w3 (qf 26 [] [] [] 0 (.slice (some ⟨Z,0,none⟩) 1 1) (qg xs.length [x])) (xs++o):=hC2.newK hX hE3 hb3 (hk2.ext hE3) hsep;simp [r0];refine jq hC3 [116,104,101,110] fun v4 w4 hE4 hC4 hv4=>?_;simp;refine jz (A':=aT) hC4 hv4 (by simp) hr1 ai (fun c w' hp=>by simpa using hp) ?_;intro j5 g5 nv5 w5 hne5 hC5 hT5 hr5;have hj5:=(jP _ _ _ _ _ hne5).1;have hK5:=(hK3.ext hE4).turn0 hC4 hT5;have hnd5:o.map (·.nd)=flats xs.length [x]:=by rw [aq,xS]
  have hlen5:(xs++o).length=xs.length+sizes [x]:=by rw [ky,kw hnd5]
  refine js qEq (fun W=>Blk W X (qe (qf 26 [] [] [] 0 (.slice (some ⟨Z,0,none⟩) 1 1) (qg xs.length ([x])))).toArray 44) fun W6 hE6 _=>?_;have hC6:=hC5.ext hE6;have hK6:=hK5.ext hE6;refine ⟨hK6.var.blk, ?_⟩;have cX6:∀W,Blk W X (qe (qf 26 [] [] [] 0 (.slice (some ⟨Z,0,none⟩) 1 1) (qg xs.length ([x])))).toArray 44->W.cell? ⟨X,5,none⟩=some (.slice (some ⟨Z,0,none⟩) 1 1):=fun W h=>yO h;have hbX6:=hK6.var.blk;simp+contextual -implicitDefEqProofs [qrn,cX6,hbX6,r0];refine yY (A:=aT) (A':=aT) hb hC6 (by simp;omega) hr5 ai (fun c w' hp=>by simpa using hp) ?_;intro q j7 g7 v7 nv7 F w7 ht7 hC7 an hf7 hT7 hv7 hr7;have hK7:=hK6.turn hC6 hT7 hf7;change v7=.int .i64 (rv (xs++o).length q) at hv7;rw [hlen5] at hv7;subst hv7;change F.map (·.nd)=q.flat (xs++o).length at an;rw [hlen5] at an;have hz7:=hzb _ _ _ _ _ ht7;have hzl7:=vk an;have hjl7:=hC7.st.il;refine ⟨hK7.var.blk, ?_⟩;simp;refine zZ [rv (xs.length+sizes ([x])) q] hC7 (by decide) rfl (by decide) (by simp [Value.cells]) (by simp [Value.cells,encI]) fun Z8 w8 hE8 hC8 hk8=>?_;have hK8:=hK7.ext hE8;refine ⟨hK8.var.blk, ?_⟩;refine Qu (n:=rv (xs.length+sizes ([x])) q) (Z:=Z8) hC8 hK8 (by simp [qf]) (by simp) (by simpa using hk8) (by simp [qf,wX] <;>omega) fun ak w8a hC8a hN8a ho8a hsp8a hs8a=>?_;simp [r0];refine yB (l':=qg xs.length ([x,q])) (kv':=ak) hC8a hN8a hXw (by simp) (by simp) (by rw [show ([x,q]:List T)=([x])++[q] from rfl,y5];exact ho8a) hsp8a xm fun w8b hO8b ar hK8b=>?_;have S:(o++F).map (·.nd)=flats xs.length ([x,q]):=by rw [show ([x,q]:List T)=([x])++[q] from rfl,uy,hnd5,an,ye]
  have y:(xs++(o++F)).length=xs.length+sizes ([x,q]):=by rw [ky,kw S]
  have fin:∀(ρ3:qa) w3 nv3 j g ys ts kv,ρ3 0=.pointer (some ⟨B,0,none⟩)->ρ3 3=.pointer (some ⟨X,0,none⟩)->Cu base B w tv nv L xs w3 nv3 j g ys->ys.map (·.nd)=flats xs.length ts->NK w B X nv3 w3 (qf 26 [] [] [] 0 kv (qg xs.length ts)) (xs++ys)->(xs++ys).length<=1000000-> .ok (T.mk {kind:=26} ts) j g=r->
    qje.wp ⟨Tryz.prog,53,qdR,[]⟩ (qz [.tmp 2] (PR aT base B tv nv L xs w r)) (qM [.tmp 2] (PR aT base B tv nv L xs w r)) ρ3 w3:=by
   intro ρ3 w3 nv3 j g ys ts kv r0 r3 hC hnd hK hcn hr;simp [qje,r0,r3,hK.var.row];refine vd hC (qf 26 [] [] [] 0 kv (qg xs.length ts)) hK.own hcn fun nv4 w4 hC4 hT4=>?_;simp;exact xg hC4 hnd rfl hr
  have hsz8:sizes [x,q]=x.size+q.size:=yv x q;simp [qro,r0];refine jV (s:=[101,108,115,101,105,102]) ar hr7 (fun w9 hc9 au hT9 hr9=>?_) (fun w9 hc9 au hT9 hr9=>?_)
  ·have hK9:=hK8b.turn0 ar hT9;simp [r0];refine yY (A:=aT) (A':=aT) ih au (by simp;omega) hr9 ai (fun c w' hp=>by simpa using hp) ?_;intro c j10 g10 v10 nv10 ad w10 ht10 J U hf10 aj hv10 ac;have ae:=hK9.turn au aj hf10;change v10=.int .i64 (rv (xs++(o++F)).length c) at hv10;rw [y] at hv10;subst hv10;change ad.map (·.nd)=c.flat (xs++(o++F)).length at U;rw [y] at U;have hz10:=qhh hze hzb n _ _ _ _ _ ht10;have hzl10:=vk U;have hjl10:=J.st.il;simp;refine js qEp (fun W=>Blk W X (qe (qf 26 [] [] [] 0 ak (qg xs.length ([x,q])))).toArray 44) fun W11 I _=>?_;have ap:=J.ext I;have E:=ae.ext I;refine ⟨E.var.blk, ?_⟩;have cX11:∀W,Blk W X (qe (qf 26 [] [] [] 0 ak (qg xs.length ([x,q])))).toArray 44->W.cell? ⟨X,5,none⟩=some ak:=fun W h=>yO h;have am:=E.var.blk;simp+contextual -implicitDefEqProofs [qrm,cX11,am,r0];refine QW (qg (xs.length+sizes ([x,q])) [c]) ap (by decide) rfl (by decide) (by simp [Value.cells]) (by simp [Value.cells,xO,encI]) fun Y w12 hE12 ag hk12 _ hY12=>?_;have R:=E.ext hE12;refine ⟨R.var.blk, ?_⟩;simp;rw [qJl];dsimp only [qT];rw [kR (l:=qg (xs.length+sizes ([x,q])) [c])];refine ⟨R.var.blk, ?_⟩;refine vd ag (qf 20 [] [] [] 0 (.slice (some ⟨Y,0,none⟩) 1 1) (qg (xs.length+sizes ([x,q])) [c])) hk12 (by simp;omega) fun nv13 w13 hC13 hT13=>?_;have ab:=R.add (z:=qf 20 [] [] [] 0 (.slice (some ⟨Y,0,none⟩) 1 1) (qg (xs.length+sizes ([x,q])) [c])) ag hT13 (fun k hk e=>by
    cases hk;have:=(E.own.blk Y e).2;have:=I.size;omega)
   refine ⟨ab.var.blk, ?_⟩;have hfl:ad.map (·.nd)=flats (xs.length+sizes ([x,q])) [c]:=by rw [U,xS]
   have hnd13:(o++F++ad++[qf 20 [] [] [] 0 (.slice (some ⟨Y,0,none⟩) 1 1) (qg (xs.length+sizes ([x,q])) [c])]).map (·.nd)=flats xs.length [x,q,T.mk {kind:=20} [c]]:=by
    rw [show ([x,q,T.mk {kind:=20} [c]]:List T)=[x,q]++[T.mk {kind:=20} [c]] from rfl,un,uy,S,Q9 hfl rfl,ye]
   have hv13:(((xs++(o++F++ad)).length:Nat):Int)=rv (xs.length+sizes [x,q]) (T.mk {kind:=20} [c]):=by
    simp only [rv,jv,xY,ky,hsz8] at*;omega
   rw [hv13];have hlen13:(xs++(o++F++ad++[qf 20 [] [] [] 0 (.slice (some ⟨Y,0,none⟩) 1 1) (qg (xs.length+sizes [x,q]) [c])])).length<=1000000:=by simp;omega
   simp;refine zZ [rv (xs.length+sizes [x,q]) (T.mk {kind:=20} [c])] hC13 (by decide) rfl (by decide) (by simp [Value.cells]) (by simp [Value.cells,encI]) fun V w14 af H hk14=>?_;have hK14:=ab.ext af;refine ⟨hK14.var.blk, ?_⟩;refine Qu (n:=rv (xs.length+sizes [x,q]) (T.mk {kind:=20} [c])) (Z:=V) H hK14 (by simp [qf]) (by simp) (by simpa using hk14) (by simp [qf,wX]) fun kv15 w15 ah hN15 ho15 hsp15 hs15=>?_;simp [r0];refine yB (l':=qg xs.length [x,q,T.mk {kind:=20} [c]]) (kv':=kv15) ah hN15 hXw (by simp) (by simp) (by rw [show ([x,q,T.mk {kind:=20} [c]]:List T)=[x,q]++[T.mk {kind:=20} [c]] from rfl,y5];exact ho15) hsp15 xm fun w16 hO16 hC16 hK16=>?_;refine fin _ w16 _ _ _ _ _ _ ?_ ?_ hC16 hnd13 hK16 hlen13 ac<;>simp [r0]
  ·simp [r0];refine jV (s:=[101,108,115,101]) au hr9 (fun w10 hc10 J aj ac=>?_) (fun w10 hc10 J aj ac=>?_)
   ·have ae:=(hK8b.turn0 ar hT9).turn0 au aj;simp;refine js qEo (fun W=>Blk W X (qe (qf 26 [] [] [] 0 ak (qg xs.length ([x,q])))).toArray 44) fun W11 I _=>?_;have ap:=J.ext I;have E:=ae.ext I;refine ⟨E.var.blk, ?_⟩;have cX11:∀W,Blk W X (qe (qf 26 [] [] [] 0 ak (qg xs.length ([x,q])))).toArray 44->W.cell? ⟨X,5,none⟩=some ak:=fun W h=>yO h;have am:=E.var.blk;simp+contextual -implicitDefEqProofs [qrl,cX11,am,r0];refine yY (A:=aT) (A':=aT) hb ap (by simp;omega) ac ai (fun c w' hp=>by simpa using hp) ?_;intro u j12 g12 v12 nv12 zs12 w12 ht12 ag aa hf12 hT12 hv12 hr12;have R:=E.turn ap hT12 hf12;change v12=.int .i64 (rv (xs++(o++F)).length u) at hv12;rw [y] at hv12;subst hv12;change zs12.map (·.nd)=u.flat (xs++(o++F)).length at aa;rw [y] at aa;have hz12:=hzb _ _ _ _ _ ht12;have hzl12:=vk aa;have hjl12:=ag.st.il;refine ⟨R.var.blk, ?_⟩;simp;refine zZ [rv (xs.length+sizes ([x,q])) u] ag (by decide) rfl (by decide) (by simp [Value.cells]) (by simp [Value.cells,encI]) fun Z13 w13 hE13 hC13 hk13=>?_;have ab:=R.ext hE13;refine ⟨ab.var.blk, ?_⟩;refine Qu (n:=rv (xs.length+sizes ([x,q])) u) (Z:=Z13) hC13 ab (by simp [qf]) (by simp) (by simpa using hk13) (by simp [qf,wX] <;>omega) fun kv13 w13a hC13a hN13a ho13a hsp13a hs13a=>?_;simp [r0];refine yB (l':=qg xs.length ([x,q,u])) (kv':=kv13) hC13a hN13a hXw (by simp) (by simp) (by rw [show ([x,q,u]:List T)=([x,q])++[u] from rfl,y5];exact ho13a) hsp13a xm fun w13b hO13b hC13b hK13b=>?_;have ao:((o++F)++zs12).map (·.nd)=flats xs.length ([x,q,u]):=by rw [show ([x,q,u]:List T)=([x,q])++[u] from rfl,uy,S,aa,ye]
    have hlen13b:(xs++((o++F)++zs12)).length=xs.length+sizes ([x,q,u]):=by rw [ky,kw ao]
    have hsz13:sizes [x,q,u]=x.size+(q.size+u.size):=qhv x q u;simp [qrp,r0];refine jq hC13b [101,110,100] fun v14 w14 af H hv14=>?_;simp;refine jz (A':=aT) H hv14 (by simp) hr12 ai (fun c w' hp=>by simpa using hp) ?_;intro j15 g15 nv15 w15 hne15 ah hT15 hr15;have hK15:=(hK13b.ext af).turn0 H hT15;refine fin _ w15 _ _ _ _ _ _ ?_ ?_ ah ao hK15 (by rw [hlen13b];omega) hr15<;>simp [r0]
   ·have ae:=(hK8b.turn0 ar hT9).turn0 au aj;simp [r0];refine jq J [101,110,100] fun v14 w14 af H hv14=>?_;simp;refine jz (A':=aT) H hv14 (by simp) ac ai (fun c w' hp=>by simpa using hp) ?_;intro j15 g15 nv15 w15 hne15 ah hT15 hr15;have hK15:=(ae.ext af).turn0 H hT15;refine fin _ w15 _ _ _ _ _ _ ?_ ?_ ah S hK15 (by rw [y];omega) hr15<;>simp [r0]
theorem qJk (Z:Nat):Tryz.prog.built 44 [(0,.int .u8 32),(5,.slice (some ⟨Z,0,none⟩) 1 1)]=some (qe (qf 32 [] [] [] 0 (.slice (some ⟨Z,0,none⟩) 1 1) [])).toArray:=by kernel_rfl
theorem qJj:Tryz.prog.built 44 [(0,.int .u8 33)]=some (qe (qf 33 [] [] [] 0 (.slice none 0 0) [])).toArray:=by kernel_rfl
def qe2 {b:Nat} {w:AA} {v:AB} {l:List Int} (h:Own b 3 1 w v (l.map encI)):qA v=true/\qm v=l.length:=⟨h.isl,by have:=(L01.jw h).len;rw [uq] at this;omega⟩
def qaQ (L:List Tok) (ts:List T):M T:=bnd (needs L [[101,110,100]]) fun _=>ret (T.mk {kind:=32} ts)
theorem qBA {L:List Tok} {b:M T} (hb:Mt aT L 209 me b) (hzb:Sz T.size 1 b) (n:Nat):Mt aT L 316 me (Q5 L n b):=by
 intro base B w tv nv i f xs hS hn aa;have hil:=hS.il;have htl:=hS.tl;generalize hr:Q5 L n b i f=r at aa;refine qEm fun ρ r0=>?_;simp [qri,r0];refine vq (A:=aT) (A':=aT) hb (Cu.start hS) (by simpa using hn) hr aa (fun c w' hp=>by simpa using hp) ?_;intro x j1 g1 v1 nv1 zs1 w1 ht1 hC1 hnd1 hT1 hv1 hr1;simp only [List.nil_append,ua] at hC1 hnd1 hv1;change v1=.int .i64 (rv xs.length x) at hv1;subst hv1;change zs1.map (·.nd)=x.flat xs.length at hnd1;have hz1:=hzb _ _ _ _ _ ht1;have hzl1:=vk hnd1;have hjl1:=hC1.st.il;simp;refine QW (qg xs.length [x]) hC1 (by decide) rfl (by decide) (by simp [Value.cells]) (by simp [Value.cells,xO,encI]) fun Z w2 hE2 hC2 hk2 hsep _=>?_;simp;rw [qJk];dsimp only [qT];rw [kR (l:=qg xs.length [x])];refine vR kf (by simp) (by simp [Value.cells,qe]) (by simp [Value.cells,qe,qf]) (by kernel_rfl) fun X w3 hX hE3 hb3 _=>?_;simp [Value.cells] at hb3;have hXw:w.heap.size<=X:=Nat.le_trans hC2.size hX;have hC3:=hC2.ext hE3;have hK3:NK w B X nv1 w3 (qf 32 [] [] [] 0 (.slice (some ⟨Z,0,none⟩) 1 1) (qg xs.length [x])) (xs++zs1):=hC2.newK hX hE3 hb3 (hk2.ext hE3) hsep;simp [r0];refine jq hC3 [101,120,99,101,112,116] fun v4 w4 hE4 ad hv4=>?_;simp;refine jz (A':=aT) ad hv4 (by simp) hr1 aa (fun c w' hp=>by simpa using hp) ?_;intro j5 g5 nv5 w5 ae ac hT5 hr5;have hj5:=(jP _ _ _ _ _ ae).1;have hjl5:=ac.st.il;have hK5:=(hK3.ext hE4).turn0 ad hT5;have hnd5:zs1.map (·.nd)=flats xs.length [x]:=by rw [hnd1,xS]
 simp;obtain ⟨I,hI⟩:∃I:qa->AA->Prop,I=fun ρ' w'=>∃(i' f':Nat) (nv':AB) (ys:List NV) (o:List T) (kv:AB) (n':Nat) (la:Bool),ρ' 0=.pointer (some ⟨B,0,none⟩)/\ρ' 3=.pointer (some ⟨X,0,none⟩)/\ρ' 4=.bool la/\Cu base B w tv nv L xs w' nv' i' f' ys/\ys.map (·.nd)=flats xs.length o/\NK w B X nv' w' (qf 32 [] [] [] 0 kv (qg xs.length o)) (xs++ys)/\((xs++ys).length<=2*i'+2/\0<o.length)/\
   ((la=false/\bnd (yd L b n' (decide (o.length=1))) (fun us=>qaQ L (o++us)) i' f'=r)\/(la=true/\qaQ L o i' f'=r)):=⟨_,rfl⟩
 refine kr I (fun _ w'=>L.length - atOf B w') (by rw [hI];exact
  ⟨j5,g5,nv5,zs1,[x],_,n,false,by simp [r0],by simp,by simp,ac,hnd5,hK5,⟨by simp;omega,by simp⟩,.inl ⟨rfl,hr5⟩⟩) ?_
 clear hr1 hr5 hnd1 hnd5 hT1 hC1 hC2 hC3 ad ac hK3 hK5 hk2 hb3 hsep hz1 hzl1 hjl1 hjl5 hj5 ae ht1 hT5;intro ρ' w' hII;rw [hI] at hII;obtain ⟨i',f',nv',ys,o,kv,n',la,r0,r3,r4,hC,hnd,hK,⟨hcnt,hts⟩,hsp⟩:=hII;have hat:=hC.st.atOf;have hyl:=kw hnd;have hlen:(xs++ys).length=xs.length+sizes o:=by rw [ky,hyl]
 have htsl:=qfh o;have hjl:=hC.st.il;have hcnt':=hcnt;rw [ky] at hcnt';have fin:∀(ρ3:qa) w3 nv3 j g,ρ3 0=.pointer (some ⟨B,0,none⟩)->ρ3 3=.pointer (some ⟨X,0,none⟩)->Cu base B w tv nv L xs w3 nv3 j g ys->NK w B X nv3 w3 (qf 32 [] [] [] 0 kv (qg xs.length o)) (xs++ys)->qaQ L o j g=r->
   qja.wp ⟨Tryz.prog,58,qjc,[]⟩ (qz [.tmp 2] (PR aT base B tv nv L xs w r)) (qM [.tmp 2] (PR aT base B tv nv L xs w r)) ρ3 w3:=by
  intro ρ3 w3 nv3 j g r0 r3 hC hK hr;simp [qja,r0];refine jq hC [101,110,100] fun v4 w4 hE4 ad hv4=>?_;simp;refine jz (A':=aT) ad hv4 (by simp) hr aa (fun c w' hp=>by simpa using hp) ?_;intro j5 g5 nv5 w5 ae ac hT5 hr5;have hK5:=(hK.ext hE4).turn0 ad hT5;simp [r0,r3,hK5.var.row];refine vd ac (qf 32 [] [] [] 0 kv (qg xs.length o)) hK5.own (by simp;omega) fun nv6 w6 hC6 hT6=>?_;simp;exact xg hC6 hnd rfl hr5
 rcases hsp with ⟨rfl,hsp⟩|⟨rfl,hsp⟩
 rotate_left 1
 ·simp [qi9,r4];refine fin _ w' nv' i' f' ?_ ?_ hC hK hsp<;>simp [r0,r3]
 simp [qi9,r4,r0];refine jq hC [119,104,101,110] fun v2 w2 hE2 hC2 hv2=>?_;simp;refine isB (ss:=[[119,104,101,110]]) hC2 (Own.sl hv2 (by simp)) fun w3 hE3 hC3=>?_;have hK3:=(hK.ext hE2).ext hE3;have c5:=hK3.var.cell5;obtain ⟨kl1,kl2⟩:=qe2 hK3.own;cases n' with
 |zero=>exact absurd hsp.symm aa
 |succ n'=>
 have kl3:qm kv=o.length:=by rw [<-wX o xs.length];exact kl2
 have kl1':qA kv=true:=kl1;have c5':w3.cell? ⟨X,5,none⟩=some kv:=c5;simp [r3,c5',kl1',kl3];have hsp':bnd (fun i f=>if qo L i [[119,104,101,110]] ||decide (o.length=1) then
   (bnd (needs L [[119,104,101,110]]) fun _=>qt L [111,116,104,101,114,115] (bnd (needs L [[58]]) fun _=>bnd b fun q=>ret [T.mk {kind:=33} [q]])
    (bnd (name L) fun s=>bnd (needs L [[58]]) fun _=>bnd b fun q=>bnd (yd L b n' false) fun ws=>ret (T.mk {kind:=33,name:=s} [q]::ws))) i f
   else .ok [] i f) (fun us=>qaQ L (o++us)) i' f'=r:=hsp
 have hone:((o.length:Int)=1)↔o.length=1:=by omega
 by_cases hw:qo L i' [[119,104,101,110]]=true\/o.length=1
 rotate_left 1
 ·have hw2:(qo L i' [[119,104,101,110]] ||decide (o.length=1))=false:=by simpa using hw
  simp only [bnd,hw2,uk,ud,Rs.andThen,ua] at hsp';simp only [hone,q3 hw];refine fin _ w3 nv' i' f' ?_ ?_ hC3 hK3 hsp'<;>simp [r0,r3]
 have hw2:(qo L i' [[119,104,101,110]] ||decide (o.length=1))=true:=by simpa using hw
 simp only [hone,j0 hw]
 have hsq:bnd (needs L [[119,104,101,110]]) (fun _=>qt L [111,116,104,101,114,115] (bnd (needs L [[58]]) fun _=>bnd b fun q=>qaQ L (o++[T.mk {kind:=33} [q]]))
    (bnd (name L) fun s=>bnd (needs L [[58]]) fun _=>bnd b fun q=>bnd (yd L b n' false) fun ws=>qaQ L ((o++[T.mk {kind:=33,name:=s} [q]])++ws))) i' f'=r:=by
  rw [<-hsp'];have e0:∀(m:M (List T)),bnd (fun i f=>if qo L i [[119,104,101,110]] ||decide (o.length=1) then m i f else .ok [] i f) (fun us=>qaQ L (o++us)) i' f'=bnd m (fun us=>qaQ L (o++us)) i' f':=by
   intro m;simp only [bnd,hw2,wh]
  rw [e0];simp only [kU,qeu,yh,un,List.singleton_append]
 clear hsp hsp';simp [qrg,r0];refine jq hC3 [119,104,101,110] fun v4 w4 hE4 ad hv4=>?_;simp;refine jz (A':=aT) ad hv4 (by simp) hsq aa (fun c w' hp=>by simpa using hp) ?_;intro j5 g5 nv5 w5 ae ac hT5 hr5;have hj5:=(jP _ _ _ _ _ ae).1;have hjl5:=ac.st.il;have hK5:=(hK3.ext hE4).turn0 ad hT5;simp;rw [qJj];dsimp only [qT];refine vR kf (by simp) (by simp [Value.cells,qe]) (by simp [Value.cells,qe,qf]) (by kernel_rfl) fun Y w6 hY hE6 hb6 _=>?_;simp [Value.cells] at hb6;have hYw:w.heap.size<=Y:=Nat.le_trans ac.size hY;have hN6:=ac.newN hY hE6 hb6;have hC6:=ac.ext hE6;have hK6:=hK5.ext hE6;have hXY:X≠Y:=by have:=hK5.var.blk.lt;omega
 simp [r0];refine jV (s:=[111,116,104,101,114,115]) hC6 hr5 (fun w7 hc7 hC7 hT7 hr7=>?_) (fun w7 hc7 hC7 hT7 hr7=>?_)
 ·have hN7:=hN6.turn hT7;have hK7:=hK6.turn0 hC6 hT7;simp;simp [qjb,r0];refine jq hC7 [58] fun v10 w10 ak ag hv10=>?_;simp;refine jz (A':=aT) ag hv10 (by simp) hr7 aa (fun c w' hp=>by simpa using hp) ?_;intro j11 g11 nv11 w11 hne11 S hT11 hr11;have hj11:=(jP _ _ _ _ _ hne11).1;have hjl11:=S.st.il;have hN11:=(hN7.ext ak).turn hT11;have hK11:=(hK7.ext ak).turn0 ag hT11;simp [r0];refine yY (A:=aT) (A':=aT) hb S (by simp;omega) hr11 aa (fun c w' hp=>by simpa using hp) ?_;intro q j13 g13 v13 nv13 zs w13 ht13 hC13 y hf13 hT13 R hr13;have u:=hK11.turn S hT13 hf13;have ab:=hN11.turn hT13;change v13=.int .i64 (rv (xs++ys).length q) at R;rw [hlen] at R;subst R;change zs.map (·.nd)=q.flat (xs++ys).length at y;rw [hlen] at y;have hz13:=hzb _ _ _ _ _ ht13;have hzl13:=vk y;have hjl13:=hC13.st.il;simp;refine QW (qg (xs.length+sizes o) [q]) hC13 (by decide) rfl (by decide) (by simp [Value.cells]) (by simp [Value.cells,xO,encI]) fun V w14 E hC14 hk14 _ hV14=>?_;simp;refine kP (c:=5) (x':=qf 33 [] [] [] 0 (.slice (some ⟨V,0,none⟩) 1 1) (qg (xs.length+sizes o) [q])) hC14 (ab.ext E) hYw (by simp) (by simp [qe]) (by simp [Value.cells]) (by simp) xm (by simp [qe,qf]) fun w15 J hC15 hN15=>?_;have hk15:=kQ (ab.ext E) J hk14 (by decide);have hK15:NK w B X nv13 w15 (qf 32 [] [] [] 0 kv (qg xs.length o)) (xs++(ys++zs)):=⟨⟨J.blk (u.ext E).var.blk hXY,u.var.neB,u.var.neR⟩,kQ (ab.ext E) J (u.ext E).own (by decide),u.sep⟩;simp;refine js qrf (fun W=>Blk W X (qe (qf 32 [] [] [] 0 kv (qg xs.length o))).toArray 44/\Blk W Y (qe (qf 33 [] [] [] 0 (.slice (some ⟨V,0,none⟩) 1 1) (qg (xs.length+sizes o) [q]))).toArray 44) fun W16 H _=>?_;have af:=hC15.ext H;have hK16:=hK15.ext H;have hN16:=hN15.ext H;have hJ16:Blk W16 X (qe (qf 32 [] [] [] 0 kv (qg xs.length o))).toArray 44/\Blk W16 Y (qe (qf 33 [] [] [] 0 (.slice (some ⟨V,0,none⟩) 1 1) (qg (xs.length+sizes o) [q]))).toArray 44:=⟨hK16.var.blk,hN16.blk⟩;refine ⟨hJ16, ?_⟩;have cX:∀W,(Blk W X (qe (qf 32 [] [] [] 0 kv (qg xs.length o))).toArray 44/\Blk W Y (qe (qf 33 [] [] [] 0 (.slice (some ⟨V,0,none⟩) 1 1) (qg (xs.length+sizes o) [q]))).toArray 44)->W.cell? ⟨X,5,none⟩=some kv/\Eng.q4 W ⟨Y,0,none⟩ 0 6=some (qe (qf 33 [] [] [] 0 (.slice (some ⟨V,0,none⟩) 1 1) (qg (xs.length+sizes o) [q]))):=fun W h=>⟨yO h.1,by simpa [qe] using xc h.2⟩;simp+contextual -implicitDefEqProofs [qi8,cX,hJ16,r0,r3];refine vd af (qf 33 [] [] [] 0 (.slice (some ⟨V,0,none⟩) 1 1) (qg (xs.length+sizes o) [q])) (hk15.ext H) (by simp;omega) fun nv17 w17 hC17 hT17=>?_;have hK17:=hK16.add (z:=qf 33 [] [] [] 0 (.slice (some ⟨V,0,none⟩) 1 1) (qg (xs.length+sizes o) [q])) af hT17 (fun k hk e=>by
   cases hk;have:=(u.own.blk V e).2;omega)
  have hN17:=hN16.turn hT17;refine ⟨⟨hK17.var.blk,hN17.blk⟩, ?_⟩;have hfl:zs.map (·.nd)=flats (xs.length+sizes o) [q]:=by rw [y,xS]
  have hnd17:(ys++zs++[qf 33 [] [] [] 0 (.slice (some ⟨V,0,none⟩) 1 1) (qg (xs.length+sizes o) [q])]).map (·.nd)=flats xs.length (o++[T.mk {kind:=33,name:=[]} [q]]):=by
   rw [un,uy,hnd,Q9 hfl rfl,ye]
  have hv17:(((xs++(ys++zs)).length:Nat):Int)=rv (xs.length+sizes o) (T.mk {kind:=33,name:=[]} [q]):=by
   simp only [rv,jv,xY,ky];omega
  rw [hv17];simp;refine zZ [rv (xs.length+sizes o) (T.mk {kind:=33,name:=[]} [q])] hC17 (by decide) rfl (by decide) (by simp [Value.cells]) (by simp [Value.cells,encI]) fun U w18 ai hC18 hk18=>?_;have hK18:=hK17.ext ai;refine ⟨⟨hK18.var.blk,(hN17.ext ai).blk⟩, ?_⟩;refine Qu (n:=rv (xs.length+sizes o) (T.mk {kind:=33,name:=[]} [q])) (Z:=U) hC18 hK18 (by simp [qf]) (by simp) (by simpa using hk18) (by simp [qf,wX];omega) fun aj w19 hC19 hN19 ho19 hsp19 hs19=>?_;simp [r3];refine yB (l':=qg xs.length (o++[T.mk {kind:=33,name:=[]} [q]])) (kv':=aj) hC19 hN19 hXw (by simp [r3]) (by simp) (by rw [y5];exact ho19) hsp19 xm fun w20 hO20 ah hK20=>?_;refine ⟨by rw [hI];exact ⟨j13,g13,nv17,_,o++[T.mk {kind:=33,name:=[]} [q]],aj,n',true,by simp [r0],by simp [r3],by simp,ah,hnd17,hK20,⟨by simp;omega,by simp⟩,.inr ⟨rfl,hr13⟩⟩, ?_⟩;rw [ah.st.atOf,hat];omega
 ·have hN7:=hN6.turn hT7;have hK7:=hK6.turn0 hC6 hT7;simp [r0];refine vz (A:=aS) (A':=aT) (fun _ _=>rfl) (F:=120) (fun _ _ _ _ _ _ _ _ h _ _=>x4 h) hC7 (by simp;omega) hr7 aa (fun c w' hp=>by simpa using hp) ?_;intro s j8 g8 v8 nv8 w8 hna hC8 hT8 hv8 hr8;change v8=_ at hv8;subst hv8;have hj8:=(kF _ _ _ _ _ hna).1;have hN8:=hN7.turn hT8;have hK8:=hK7.turn0 hC7 hT8;simp;refine kP (c:=1) (x':=qf 33 s [] [] 0 (.slice none 0 0) []) hC8 hN8 hYw (by simp) (by simp [qe]) (by simp [Value.cells]) (by simp) kL (by simp [qe,qf]) fun w9 hO9 hC9 hN9=>?_;have hK9:NK w B X nv8 w9 (qf 32 [] [] [] 0 kv (qg xs.length o)) (xs++ys):=⟨⟨hO9.blk hK8.var.blk hXY,hK8.var.neB,hK8.var.neR⟩,kQ hN8 hO9 hK8.own (by decide),hK8.sep⟩;simp [qjb,r0];refine jq hC9 [58] fun v10 w10 ak ag hv10=>?_;simp;refine jz (A':=aT) ag hv10 (by simp) hr8 aa (fun c w' hp=>by simpa using hp) ?_;intro j11 g11 nv11 w11 hne11 S hT11 hr11;have hj11:=(jP _ _ _ _ _ hne11).1;have hjl11:=S.st.il;have hN11:=(hN9.ext ak).turn hT11;have hK11:=(hK9.ext ak).turn0 ag hT11;simp [r0];refine yY (A:=aT) (A':=aT) hb S (by simp;omega) hr11 aa (fun c w' hp=>by simpa using hp) ?_;intro q j13 g13 v13 nv13 zs w13 ht13 hC13 y hf13 hT13 R hr13;have u:=hK11.turn S hT13 hf13;have ab:=hN11.turn hT13;change v13=.int .i64 (rv (xs++ys).length q) at R;rw [hlen] at R;subst R;change zs.map (·.nd)=q.flat (xs++ys).length at y;rw [hlen] at y;have hz13:=hzb _ _ _ _ _ ht13;have hzl13:=vk y;have hjl13:=hC13.st.il;simp;refine QW (qg (xs.length+sizes o) [q]) hC13 (by decide) rfl (by decide) (by simp [Value.cells]) (by simp [Value.cells,xO,encI]) fun V w14 E hC14 hk14 _ hV14=>?_;simp;refine kP (c:=5) (x':=qf 33 s [] [] 0 (.slice (some ⟨V,0,none⟩) 1 1) (qg (xs.length+sizes o) [q])) hC14 (ab.ext E) hYw (by simp) (by simp [qe]) (by simp [Value.cells]) (by simp) xm (by simp [qe,qf]) fun w15 J hC15 hN15=>?_;have hk15:=kQ (ab.ext E) J hk14 (by decide);have hK15:NK w B X nv13 w15 (qf 32 [] [] [] 0 kv (qg xs.length o)) (xs++(ys++zs)):=⟨⟨J.blk (u.ext E).var.blk hXY,u.var.neB,u.var.neR⟩,kQ (ab.ext E) J (u.ext E).own (by decide),u.sep⟩;simp;refine js qrf (fun W=>Blk W X (qe (qf 32 [] [] [] 0 kv (qg xs.length o))).toArray 44/\Blk W Y (qe (qf 33 s [] [] 0 (.slice (some ⟨V,0,none⟩) 1 1) (qg (xs.length+sizes o) [q]))).toArray 44) fun W16 H _=>?_;have af:=hC15.ext H;have hK16:=hK15.ext H;have hN16:=hN15.ext H;have hJ16:Blk W16 X (qe (qf 32 [] [] [] 0 kv (qg xs.length o))).toArray 44/\Blk W16 Y (qe (qf 33 s [] [] 0 (.slice (some ⟨V,0,none⟩) 1 1) (qg (xs.length+sizes o) [q]))).toArray 44:=⟨hK16.var.blk,hN16.blk⟩;refine ⟨hJ16, ?_⟩;have cX:∀W,(Blk W X (qe (qf 32 [] [] [] 0 kv (qg xs.length o))).toArray 44/\Blk W Y (qe (qf 33 s [] [] 0 (.slice (some ⟨V,0,none⟩) 1 1) (qg (xs.length+sizes o) [q]))).toArray 44)->W.cell? ⟨X,5,none⟩=some kv/\Eng.q4 W ⟨Y,0,none⟩ 0 6=some (qe (qf 33 s [] [] 0 (.slice (some ⟨V,0,none⟩) 1 1) (qg (xs.length+sizes o) [q]))):=fun W h=>⟨yO h.1,by simpa [qe] using xc h.2⟩;simp+contextual -implicitDefEqProofs [qi8,cX,hJ16,r0,r3];refine vd af (qf 33 s [] [] 0 (.slice (some ⟨V,0,none⟩) 1 1) (qg (xs.length+sizes o) [q])) (hk15.ext H) (by simp;omega) fun nv17 w17 hC17 hT17=>?_;have hK17:=hK16.add (z:=qf 33 s [] [] 0 (.slice (some ⟨V,0,none⟩) 1 1) (qg (xs.length+sizes o) [q])) af hT17 (fun k hk e=>by
   cases hk;have:=(u.own.blk V e).2;omega)
  have hN17:=hN16.turn hT17;refine ⟨⟨hK17.var.blk,hN17.blk⟩, ?_⟩;have hfl:zs.map (·.nd)=flats (xs.length+sizes o) [q]:=by rw [y,xS]
  have hnd17:(ys++zs++[qf 33 s [] [] 0 (.slice (some ⟨V,0,none⟩) 1 1) (qg (xs.length+sizes o) [q])]).map (·.nd)=flats xs.length (o++[T.mk {kind:=33,name:=s} [q]]):=by
   rw [un,uy,hnd,Q9 hfl rfl,ye]
  have hv17:(((xs++(ys++zs)).length:Nat):Int)=rv (xs.length+sizes o) (T.mk {kind:=33,name:=s} [q]):=by
   simp only [rv,jv,xY,ky];omega
  rw [hv17];simp;refine zZ [rv (xs.length+sizes o) (T.mk {kind:=33,name:=s} [q])] hC17 (by decide) rfl (by decide) (by simp [Value.cells]) (by simp [Value.cells,encI]) fun U w18 ai hC18 hk18=>?_;have hK18:=hK17.ext ai;refine ⟨⟨hK18.var.blk,(hN17.ext ai).blk⟩, ?_⟩;refine Qu (n:=rv (xs.length+sizes o) (T.mk {kind:=33,name:=s} [q])) (Z:=U) hC18 hK18 (by simp [qf]) (by simp) (by simpa using hk18) (by simp [qf,wX];omega) fun aj w19 hC19 hN19 ho19 hsp19 hs19=>?_;simp [r3];refine yB (l':=qg xs.length (o++[T.mk {kind:=33,name:=s} [q]])) (kv':=aj) hC19 hN19 hXw (by simp [r3]) (by simp) (by rw [y5];exact ho19) hsp19 xm fun w20 hO20 ah hK20=>?_;refine ⟨by rw [hI];exact ⟨j13,g13,nv17,_,o++[T.mk {kind:=33,name:=s} [q]],aj,n',false,by simp [r0],by simp [r3],by simp,ah,hnd17,hK20,⟨by simp;omega,by simp⟩,.inl ⟨rfl,by rw [show decide ((o++[T.mk {kind:=33,name:=s} [q]]).length=1)=false from decide_eq_false (by rw [ky,List.length_singleton];omega)];exact hr13⟩⟩, ?_⟩;rw [ah.st.atOf,hat];omega
theorem qJi (Z:Nat):Tryz.prog.built 44 [(0,.int .u8 35),(5,.slice (some ⟨Z,0,none⟩) 1 1)]=some (qe (qf 35 [] [] [] 0 (.slice (some ⟨Z,0,none⟩) 1 1) [])).toArray:=by kernel_rfl
theorem qJh (s:Bs):Tryz.prog.built 44 [(0,.int .u8 36),(1,.string (qb s))]=some (qe (qf 36 s [] [] 0 (.slice none 0 0) [])).toArray:=by kernel_rfl
def qct (L:List Tok) (ts:List T):M T:=bnd (needs L [[101,110,100]]) fun _=>ret (T.mk {kind:=35} ts)
theorem qBT {L:List Tok} (hL:jJ L) {e b:M T} (he:Mt aT L 62 me e) (hze:Sz T.size 0 e) (hb:Mt aT L 209 me b) (hzb:Sz T.size 1 b) (n:Nat):Mt aT L 317 me (Je L n e b):=by
 intro base B w tv nv i f xs hS hn u;have hil:=hS.il;have htl:=hS.tl;generalize hr:Je L n e b i f=r at u;refine qEl fun ρ r0=>?_;simp [qre,r0];refine vq (A:=aT) (A':=aT) he (Cu.start hS) (by simpa using hn) hr u (fun c w' H=>by simpa using H) ?_;intro x j1 g1 v1 nv1 zs1 w1 ht1 hC1 S hT1 hv1 hr1;simp only [List.nil_append,ua] at hC1 S hv1;change v1=.int .i64 (rv xs.length x) at hv1;subst hv1;change zs1.map (·.nd)=x.flat xs.length at S;have hz1:=hze _ _ _ _ _ ht1;have hzl1:=vk S;have hjl1:=hC1.st.il;simp;refine QW (qg xs.length [x]) hC1 (by decide) rfl (by decide) (by simp [Value.cells]) (by simp [Value.cells,xO,encI]) fun Z w2 hE2 ae hk2 hsep _=>?_;simp;rw [qJi];dsimp only [qT];rw [kR (l:=qg xs.length [x])];refine vR kf (by simp) (by simp [Value.cells,qe]) (by simp [Value.cells,qe,qf]) (by kernel_rfl) fun X w3 hX hE3 hb3 _=>?_;simp [Value.cells] at hb3;have hXw:w.heap.size<=X:=Nat.le_trans ae.size hX;have hC3:=ae.ext hE3;have ab:NK w B X nv1 w3 (qf 35 [] [] [] 0 (.slice (some ⟨Z,0,none⟩) 1 1) (qg xs.length [x])) (xs++zs1):=ae.newK hX hE3 hb3 (hk2.ext hE3) hsep;have hnd3:zs1.map (·.nd)=flats xs.length [x]:=by rw [S,xS]
 simp;obtain ⟨I,hI⟩:∃I:qa->AA->Prop,I=fun ρ' w'=>∃(i' f':Nat) (nv':AB) (ys:List NV) (o:List T) (kv:AB) (n':Nat),ρ' 0=.pointer (some ⟨B,0,none⟩)/\ρ' 3=.pointer (some ⟨X,0,none⟩)/\Cu base B w tv nv L xs w' nv' i' f' ys/\ys.map (·.nd)=flats xs.length o/\NK w B X nv' w' (qf 35 [] [] [] 0 kv (qg xs.length o)) (xs++ys)/\((xs++ys).length<=2*i'+2/\0<o.length)/\
   bnd (yP L n b n' (decide (o.length=1))) (fun us=>qct L (o++us)) i' f'=r:=⟨_,rfl⟩
 refine kr I (fun _ w'=>L.length - atOf B w') (by rw [hI];exact
  ⟨j1,g1,nv1,zs1,[x],_,n,by simp [r0],by simp,hC3,hnd3,ab,⟨by simp;omega,by simp⟩,hr1⟩) ?_
 clear hr1 S hnd3 hT1 hC1 ae hC3 ab hk2 hb3 hsep hz1 hzl1 hjl1 ht1;intro ρ' w' hII;rw [hI] at hII;obtain ⟨i',f',nv',ys,o,kv,n',r0,r3,hC,hnd,hK,⟨hcnt,hts⟩,hsp⟩:=hII;have hat:=hC.st.atOf;have hyl:=kw hnd;have hlen:(xs++ys).length=xs.length+sizes o:=by rw [ky,hyl]
 have htsl:=qfh o;have hjl:=hC.st.il;have hcnt':=hcnt;rw [ky] at hcnt';have fin:∀(ρ3:qa) w3 nv3 j g,ρ3 0=.pointer (some ⟨B,0,none⟩)->ρ3 3=.pointer (some ⟨X,0,none⟩)->Cu base B w tv nv L xs w3 nv3 j g ys->NK w B X nv3 w3 (qf 35 [] [] [] 0 kv (qg xs.length o)) (xs++ys)->qct L o j g=r->
   qi6.wp ⟨Tryz.prog,57,qi7,[]⟩ (qz [.tmp 2] (PR aT base B tv nv L xs w r)) (qM [.tmp 2] (PR aT base B tv nv L xs w r)) ρ3 w3:=by
  intro ρ3 w3 nv3 j g r0 r3 hC hK hr;simp [qi6,r0];refine jq hC [101,110,100] fun v4 w4 hE4 hC4 hv4=>?_;simp;refine jz (A':=aT) hC4 hv4 (by simp) hr u (fun c w' H=>by simpa using H) ?_;intro j5 g5 nv5 w5 hne5 hC5 hT5 hr5;have hK5:=(hK.ext hE4).turn0 hC4 hT5;simp [r0,r3,hK5.var.row];refine vd hC5 (qf 35 [] [] [] 0 kv (qg xs.length o)) hK5.own (by simp;omega) fun nv6 w6 hC6 hT6=>?_;simp;exact xg hC6 hnd rfl hr5
 simp [qrb,r0];refine jq hC [116,97,103] fun v2 w2 hE2 ae hv2=>?_;simp;refine isB (ss:=[[116,97,103]]) ae (Own.sl hv2 (by simp)) fun w3 hE3 hC3=>?_;have ab:=(hK.ext hE2).ext hE3;have c5:=ab.var.cell5;obtain ⟨kl1,kl2⟩:=qe2 ab.own;cases n' with
 |zero=>exact absurd hsp.symm u
 |succ n'=>
 have kl3:qm kv=o.length:=by rw [<-wX o xs.length];exact kl2
 have kl1':qA kv=true:=kl1;have c5':w3.cell? ⟨X,5,none⟩=some kv:=c5;simp [r3,c5',kl1',kl3];have ad:bnd (fun i f=>if qo L i [[116,97,103]] ||decide (o.length=1) then
   (bnd (needs L [[116,97,103]]) fun _=>bnd (name L) fun s=>bnd (needs L [[40]]) fun _=>bnd (name L) fun v=>bnd (needs L [[58]]) fun _=>bnd (vN L n) fun t=>bnd (needs L [[41],[58]]) fun _=>bnd b fun q=>bnd (yP L n b n' false) fun ws=>ret (T.mk {kind:=36,name:=s,vr:=v,typ:=t} [q]::ws)) i f
   else .ok [] i f) (fun us=>qct L (o++us)) i' f'=r:=hsp
 have hone:((o.length:Int)=1)↔o.length=1:=by omega
 by_cases hw:qo L i' [[116,97,103]]=true\/o.length=1
 rotate_left 1
 ·have hw2:(qo L i' [[116,97,103]] ||decide (o.length=1))=false:=by simpa using hw
  simp only [bnd,hw2,uk,ud,Rs.andThen,ua] at ad;simp only [hone,q3 hw];refine fin _ w3 nv' i' f' ?_ ?_ hC3 ab ad<;>simp [r0,r3]
 have hw2:(qo L i' [[116,97,103]] ||decide (o.length=1))=true:=by simpa using hw
 simp only [hone,j0 hw];have hsq:bnd (needs L [[116,97,103]]) (fun _=>bnd (name L) fun s=>bnd (needs L [[40]]) fun _=>bnd (name L) fun v=>bnd (needs L [[58]]) fun _=>bnd (vN L n) fun t=>bnd (needs L [[41],[58]]) fun _=>bnd b fun q=>bnd (yP L n b n' false) fun ws=>qct L ((o++[T.mk {kind:=36,name:=s,vr:=v,typ:=t} [q]])++ws)) i' f'=r:=by
  rw [<-ad];have e0:∀(m:M (List T)),bnd (fun i f=>if qo L i [[116,97,103]] ||decide (o.length=1) then m i f else .ok [] i f) (fun us=>qct L (o++us)) i' f'=bnd m (fun us=>qct L (o++us)) i' f':=by
   intro m;simp only [bnd,hw2,wh]
  rw [e0];simp only [kU,qeu,yh,un,List.singleton_append]
 clear hsp ad;simp [qrc,r0];refine jq hC3 [116,97,103] fun v4 w4 hE4 hC4 hv4=>?_;simp;refine jz (A':=aT) hC4 hv4 (by simp) hsq u (fun c w' H=>by simpa using H) ?_;intro j5 g5 nv5 w5 hne5 hC5 hT5 hr5;have hj5:=(jP _ _ _ _ _ hne5).1;have hjl5:=hC5.st.il;have hK5:=(ab.ext hE4).turn0 hC4 hT5;simp [r0];refine vz (A:=aS) (A':=aT) (fun _ _=>rfl) (F:=120) (fun _ _ _ _ _ _ _ _ h _ _=>x4 h) hC5 (by simp;omega) hr5 u (fun c w' H=>by simpa using H) ?_;intro s j6 g6 v6 nv6 w6 hna6 hC6 hT6 hv6 hr6;change v6=_ at hv6;subst hv6;have hj6:=(kF _ _ _ _ _ hna6).1;have hK6:=hK5.turn0 hC5 hT6;simp;rw [qJh];dsimp only [qT];refine vR kf (by simp) (by simp [Value.cells,qe]) (by simp [Value.cells,qe,qf]) (by kernel_rfl) fun Y w7 hY hE7 hb7 _=>?_;simp [Value.cells] at hb7;have hYw:w.heap.size<=Y:=Nat.le_trans hC6.size hY;have hN7:=hC6.newN hY hE7 hb7;have hC7:=hC6.ext hE7;have hK7:=hK6.ext hE7;have hXY:X≠Y:=by have:=hK6.var.blk.lt;omega
 simp [r0];refine jq hC7 [40] fun v8 w8 hE8 hC8 hv8=>?_;simp;refine jz (A':=aT) hC8 hv8 (by simp) hr6 u (fun c w' H=>by simpa using H) ?_;intro j9 g9 nv9 w9 hne9 hC9 hT9 hr9;have hj9:=(jP _ _ _ _ _ hne9).1;have hN9:=(hN7.ext hE8).turn hT9;have hK9:=(hK7.ext hE8).turn0 hC8 hT9;simp [r0];refine vz (A:=aS) (A':=aT) (fun _ _=>rfl) (F:=120) (fun _ _ _ _ _ _ _ _ h _ _=>x4 h) hC9 (by simp;omega) hr9 u (fun c w' H=>by simpa using H) ?_;intro v j10 g10 v10 nv10 w10 hna10 hC10 hT10 hv10 hr10;change v10=_ at hv10;subst hv10;have hj10:=(kF _ _ _ _ _ hna10).1;have hN10:=hN9.turn hT10;have J:=hK9.turn0 hC9 hT10;simp;refine kP (c:=2) (x':=qf 36 s v [] 0 (.slice none 0 0) []) hC10 hN10 hYw (by simp) (by simp [qe]) (by simp [Value.cells]) (by simp) kL (by simp [qe,qf]) fun w11 hO11 hC11 hN11=>?_;have hK11:NK w B X nv10 w11 (qf 35 [] [] [] 0 kv (qg xs.length o)) (xs++ys):=⟨⟨hO11.blk J.var.blk hXY,J.var.neB,J.var.neR⟩,kQ hN10 hO11 J.own (by decide),J.sep⟩;simp [r0];refine jq hC11 [58] fun v12 w12 hE12 hC12 hv12=>?_;simp;refine jz (A':=aT) hC12 hv12 (by simp) hr10 u (fun c w' H=>by simpa using H) ?_;intro ja ga nva wa hnea hCa hTa hra;have hja:=(jP _ _ _ _ _ hnea).1;have hNa:=(hN11.ext hE12).turn hTa;have hKa:=(hK11.ext hE12).turn0 hC12 hTa;simp [r0];refine vz (A:=aS) (A':=aT) (fun _ _=>rfl) (QQ hL n) hCa (by simp;omega) hra u (fun c w' H=>by simpa using H) ?_;intro t jb gb vb nvb wb htb hCb hTb hvb hrb;change vb=_ at hvb;subst hvb;have hjb:=((vi n).ok htb).1;have hNb:=hNa.turn hTb;have hKb:=hKa.turn0 hCa hTb;simp;refine kP (c:=3) (x':=qf 36 s v t 0 (.slice none 0 0) []) hCb hNb hYw (by simp) (by simp [qe]) (by simp [Value.cells]) (by simp) kL (by simp [qe,qf]) fun wc hOc hCc hNc=>?_;have hKc:NK w B X nvb wc (qf 35 [] [] [] 0 kv (qg xs.length o)) (xs++ys):=⟨⟨hOc.blk hKb.var.blk hXY,hKb.var.neB,hKb.var.neR⟩,kQ hNb hOc hKb.own (by decide),hKb.sep⟩;simp [r0];refine jC kj (by decide) (by decide) (by simp [Value.cells]) fun P wd hP hEd hbd _=>?_;simp [Value.cells] at hbd;have hCd:=hCc.ext hEd;have hvd:Own 0 9 1 wd (.slice (some ⟨P,0,none⟩) 2 2) (([[41],[58]]:List Bs).map qi):=Own.lit (sz:=1) (by simpa [qi,qb] using hbd) (by simp) (uf _) (by decide);simp;refine jz (ss:=[[41],[58]]) (A':=aT) hCd hvd (by simp) hrb u (fun c w' H=>by simpa using H) ?_;intro j11 g11 nv11 w11' hne11 aa hT11 hr11;have hj11:=((qq _).ok hne11).1;have hjl11:=aa.st.il;have hN11':=(hNc.ext hEd).turn hT11;have hK11':=(hKc.ext hEd).turn0 hCd hT11;simp [r0];refine yY (A:=aT) (A':=aT) hb aa (by simp;omega) hr11 u (fun c w' H=>by simpa using H) ?_;intro q j13 g13 v13 nv13 zs w13 ht13 hC13 E hf13 hT13 hv13 hr13;have y:=hK11'.turn aa hT13 hf13;have hN13:=hN11'.turn hT13;change v13=.int .i64 (rv (xs++ys).length q) at hv13;rw [hlen] at hv13;subst hv13;change zs.map (·.nd)=q.flat (xs++ys).length at E;rw [hlen] at E;have hz13:=hzb _ _ _ _ _ ht13;have hzl13:=vk E;have hjl13:=hC13.st.il;simp;refine QW (qg (xs.length+sizes o) [q]) hC13 (by decide) rfl (by decide) (by simp [Value.cells]) (by simp [Value.cells,xO,encI]) fun V w14 R hC14 hk14 _ hV14=>?_;simp;refine kP (c:=5) (x':=qf 36 s v t 0 (.slice (some ⟨V,0,none⟩) 1 1) (qg (xs.length+sizes o) [q])) hC14 (hN13.ext R) hYw (by simp) (by simp [qe]) (by simp [Value.cells]) (by simp) xm (by simp [qe,qf]) fun w15 hO15 hC15 hN15=>?_;have hk15:=kQ (hN13.ext R) hO15 hk14 (by decide);have hK15:NK w B X nv13 w15 (qf 35 [] [] [] 0 kv (qg xs.length o)) (xs++(ys++zs)):=⟨⟨hO15.blk (y.ext R).var.blk hXY,y.var.neB,y.var.neR⟩,kQ (hN13.ext R) hO15 (y.ext R).own (by decide),y.sep⟩;simp;refine js qEk (fun W=>Blk W X (qe (qf 35 [] [] [] 0 kv (qg xs.length o))).toArray 44/\Blk W Y (qe (qf 36 s v t 0 (.slice (some ⟨V,0,none⟩) 1 1) (qg (xs.length+sizes o) [q]))).toArray 44) fun W16 ac _=>?_;have hC16:=hC15.ext ac;have hK16:=hK15.ext ac;have hN16:=hN15.ext ac;have hJ16:Blk W16 X (qe (qf 35 [] [] [] 0 kv (qg xs.length o))).toArray 44/\Blk W16 Y (qe (qf 36 s v t 0 (.slice (some ⟨V,0,none⟩) 1 1) (qg (xs.length+sizes o) [q]))).toArray 44:=⟨hK16.var.blk,hN16.blk⟩;refine ⟨hJ16, ?_⟩;have cX:∀W,(Blk W X (qe (qf 35 [] [] [] 0 kv (qg xs.length o))).toArray 44/\Blk W Y (qe (qf 36 s v t 0 (.slice (some ⟨V,0,none⟩) 1 1) (qg (xs.length+sizes o) [q]))).toArray 44)->W.cell? ⟨X,5,none⟩=some kv/\Eng.q4 W ⟨Y,0,none⟩ 0 6=some (qe (qf 36 s v t 0 (.slice (some ⟨V,0,none⟩) 1 1) (qg (xs.length+sizes o) [q]))):=fun W h=>⟨yO h.1,by simpa [qe] using xc h.2⟩;simp+contextual -implicitDefEqProofs [qra,cX,hJ16,r0,r3];refine vd hC16 (qf 36 s v t 0 (.slice (some ⟨V,0,none⟩) 1 1) (qg (xs.length+sizes o) [q])) (hk15.ext ac) (by simp;omega) fun nv17 w17 hC17 hT17=>?_;have hK17:=hK16.add (z:=qf 36 s v t 0 (.slice (some ⟨V,0,none⟩) 1 1) (qg (xs.length+sizes o) [q])) hC16 hT17 (fun k hk e=>by
  cases hk;have:=(y.own.blk V e).2;omega)
 have hN17:=hN16.turn hT17;refine ⟨⟨hK17.var.blk,hN17.blk⟩, ?_⟩;have hfl:zs.map (·.nd)=flats (xs.length+sizes o) [q]:=by rw [E,xS]
 have hnd17:(ys++zs++[qf 36 s v t 0 (.slice (some ⟨V,0,none⟩) 1 1) (qg (xs.length+sizes o) [q])]).map (·.nd)=flats xs.length (o++[T.mk {kind:=36,name:=s,vr:=v,typ:=t} [q]]):=by
  rw [un,uy,hnd,Q9 hfl rfl,ye]
 have hv17:(((xs++(ys++zs)).length:Nat):Int)=rv (xs.length+sizes o) (T.mk {kind:=36,name:=s,vr:=v,typ:=t} [q]):=by
  simp only [rv,jv,xY,ky];omega
 rw [hv17];simp;refine zZ [rv (xs.length+sizes o) (T.mk {kind:=36,name:=s,vr:=v,typ:=t} [q])] hC17 (by decide) rfl (by decide) (by simp [Value.cells]) (by simp [Value.cells,encI]) fun U w18 hE18 hC18 hk18=>?_;have hK18:=hK17.ext hE18;refine ⟨⟨hK18.var.blk,(hN17.ext hE18).blk⟩, ?_⟩;refine Qu (n:=rv (xs.length+sizes o) (T.mk {kind:=36,name:=s,vr:=v,typ:=t} [q])) (Z:=U) hC18 hK18 (by simp [qf]) (by simp) (by simpa using hk18) (by simp [qf,wX];omega) fun kv19 w19 hC19 hN19 ho19 hsp19 hs19=>?_;simp [r3];refine yB (l':=qg xs.length (o++[T.mk {kind:=36,name:=s,vr:=v,typ:=t} [q]])) (kv':=kv19) hC19 hN19 hXw (by simp [r3]) (by simp) (by rw [y5];exact ho19) hsp19 xm fun w20 hO20 hC20 hK20=>?_;refine ⟨by rw [hI];exact ⟨j13,g13,nv17,_,o++[T.mk {kind:=36,name:=s,vr:=v,typ:=t} [q]],kv19,n',by simp [r0],by simp [r3],hC20,hnd17,hK20,⟨by simp;omega,by simp⟩,by rw [show decide ((o++[T.mk {kind:=36,name:=s,vr:=v,typ:=t} [q]]).length=1)=false from decide_eq_false (by rw [ky,List.length_singleton];omega)];exact hr13⟩, ?_⟩;rw [hC20.st.atOf,hat];omega
def Fm (t:T) (fm:Nat):Prop:=(fm=2->∃d a b,t=T.mk d [a,b])/\(fm=3->∃d a,t=T.mk d [a])
def qg8 {L:List Tok} {e:M T}:∀(n:Nat) (t:T) (o i f:Nat) (x:T×Nat) (j g:Nat),Fm t o->wf L e n t o i f=.ok x j g->Fm x.1 x.2
 |0,_,_,_,_,_,_,_,_,h=>by cases h
 |n+1,t,o,i,f,x,j,g,E,h=>by
  have b:qt L [91] (bnd e fun k=>bnd (needs L [[93]]) fun _=>wf L e n (T.mk {kind:=7} [t,k]) 2) (qt L [46] (bnd (name L) fun s=>wf L e n (T.mk {kind:=8,name:=s} [t]) 3) (ret (t,o))) i f=.ok x j g:=h;unfold qt at b;split at b
  ·cases c:e (i+1) f with
   |oof=>rw [vc c] at b;cases b
   |no g=>rw [jT c] at b;cases b
   |ok k y z=>
    rw [jS c] at b;cases u:needs L [[93]] y z with
    |oof=>rw [vc u] at b;cases b
    |no g=>rw [jT u] at b;cases b
    |ok _ F g3=>
     rw [jS u] at b;exact qg8 n _ _ _ _ _ _ _ ⟨fun _=>⟨_,_,_,rfl⟩,fun h=>absurd h (by decide)⟩ b
  ·split at b
   ·cases c:name L (i+1) f with
    |oof=>rw [vc c] at b;cases b
    |no g=>rw [jT c] at b;cases b
    |ok s y z=>
     rw [jS c] at b;exact qg8 n _ _ _ _ _ _ _ ⟨fun h=>absurd h (by decide),fun _=>⟨_,_,rfl⟩⟩ b
   ·simp only [ret,Rs.ok.injEq] at b;obtain ⟨rfl,_,_⟩:=b;exact E
def FmM (p:M (T×Nat)):Prop:=∀i f x j g,p i f=.ok x j g->Fm x.1 x.2
def qHQ {L:List Tok} {e:M T} (n:Nat):FmM (yC L n e):=by
 intro i f x j g h;have b:bnd (ki L n e) (fun p=>wf L e n p.1 (if p.2 then 1 else 0)) i f=.ok x j g:=h;cases o:ki L n e i f with
 |oof=>rw [vc o] at b;cases b
 |no g=>rw [jT o] at b;cases b
 |ok p s u=>
  rw [jS o] at b;exact qg8 n _ _ _ _ _ _ _ ⟨fun h=>by cases c:p.2<;>simp [c] at h,fun h=>by cases c:p.2<;>simp [c] at h⟩ b
section
variable {L:List Tok} {base B X:Nat} {w w1:AA} {tv nv nv1:AB} {i f:Nat} {xs ys zs:List NV} {x:NV} {K:qa->AA->Prop} {Q:Ks} {ρ:qa} {d:Option Nat}
theorem qKj {t ty:TypeId} {p v:Operand} (b:Cu base B w tv nv L xs w1 nv1 i f ys) (F:i+1<L.length) (u:qd ρ p=.pointer (some ⟨B,1,none⟩)) (e:qd ρ v=.int .i64 (IntKind.i64.wrap ((i:Int)+2))) (E:jh Tryz.prog t 1=true)
  (h:∀W,Cu base B w tv nv L xs W nv1 (i+2) f ys->Tn base B nv1 nv1 w1 W->K (qp ρ d undef) W):qB Tryz.prog Q d (.store t p v) ty K ρ w1:=by
 have H:=b.st.tl;have y:IntKind.i64.wrap ((i:Int)+2)=((i+2:Nat):Int):=by rw [q7 (by omega)];push_cast;rfl
 rw [y] at e;refine qD (B:=B) (i:=1) u b.st.blk (by simp) (by rw [e];simp [Value.cells]) (by rw [e];simp) E fun W z n=>?_;rw [e] at n;simp at n;have o:Blk W B #[tv,.int .i64 ((i+2:Nat):Int),.int .i64 (f:Int),nv1] 85:=by simpa using n
 obtain ⟨s,c⟩:=b.st.move z o F b.st.fl;exact h W ⟨s,b.tn.trans c,b.fr,b.b0⟩ c
theorem PSt.nodeRow (h:PSt base B w tv nv L i f (xs++x::zs)):Eng.q4 w (qN nv (xs.length*6)) 0 6=some (qe x):=by
 have o:=L01.jw h.own;have y:=wo xs;have:=wE (w:=w) (a:=qN nv (xs.length*6)) (l:=qe x) (i:=0) fun j n=>by
  have u:j<6:=n;have s:xs.length*6+j<(jY (xs++x::zs)).length:=by rw [wo];simp;omega
  have b:=o.cell (xs.length*6+j) s;have c:(jY (xs++x::zs))[xs.length*6+j]=(qe x)[j]:=by
   have e:jY (xs++x::zs)=jY xs++(qe x++jY zs):=by rw [qe8];rfl
   simp only [e];rw [JN (by omega),JM (by simp [qe];omega)];congr 1;omega
  rw [c] at b;rw [qba,ur];exact b
 exact this
theorem PSt.nodeKv (h:PSt base B w tv nv L i f (xs++x::zs)):w.cell? (qN nv (xs.length*6+5))=some x.kv:=by
 have b:=L01.jw h.own;have n:=wo xs;have e:jY (xs++x::zs)=jY xs++(qe x++jY zs):=by rw [qe8];rfl
 have c:xs.length*6+5<(jY (xs++x::zs)).length:=by rw [wo];simp;omega
 rw [b.cell _ c];simp only [e];rw [JN (by omega),JM (by simp [qe];omega)];have:xs.length*6+5 - (jY xs).length=5:=by omega
 simp [this,qe]
end
theorem qJg (s:Bs) (Z:Nat):Tryz.prog.built 44 [(0,.int .u8 22),(1,.string (qb s)),(5,.slice (some ⟨Z,0,none⟩) 1 1)]=some (qe (qf 22 s [] [] 0 (.slice (some ⟨Z,0,none⟩) 1 1) [])).toArray:=by kernel_rfl
theorem qJf (Z:Nat):Tryz.prog.built 44 [(0,.int .u8 25),(5,.slice (some ⟨Z,0,none⟩) 1 1)]=some (qe (qf 25 [] [] [] 0 (.slice (some ⟨Z,0,none⟩) 1 1) [])).toArray:=by kernel_rfl
theorem qJe (Z:Nat):Tryz.prog.built 44 [(0,.int .u8 23),(5,.slice (some ⟨Z,0,none⟩) 3 3)]=some (qe (qf 23 [] [] [] 0 (.slice (some ⟨Z,0,none⟩) 3 3) [])).toArray:=by kernel_rfl
theorem qJd (s:Bs) (Z:Nat):Tryz.prog.built 44 [(0,.int .u8 24),(1,.string (qb s)),(5,.slice (some ⟨Z,0,none⟩) 2 2)]=some (qe (qf 24 s [] [] 0 (.slice (some ⟨Z,0,none⟩) 2 2) [])).toArray:=by kernel_rfl
def qx5 {L:List Tok} {i:Nat} {s:Bs} (h:(tk L i).text=s) (c:s≠[]):i<L.length:=by
 by_cases b:i<L.length
 ·exact b
 ·rw [qbQ (by omega)] at h;exact absurd h.symm c
def Qz (L:List Tok) (e:M T) (x:T×Nat):M T:=fun i f=>
  if x.2=1/\qo L i [[58,61]]=false then .ok (T.mk {kind:=25} [x.1]) i f
  else if x.2=2/\qo L i [[58,61]]=true then (bnd e fun y=>ret (T.mk {kind:=23} (x.1.kids++[y]))) (i+1) f
  else if x.2=3/\qo L i [[58,61]]=true then (bnd e fun y=>ret (T.mk {kind:=24,name:=x.1.d.name} (x.1.kids++[y]))) (i+1) f
  else .no (max f i)
def qvU {L:List Tok} {base B:Nat} {w:AA} {tv nv n:AB} {xs:List NV} {s:qa} {K:qa->AA->Prop} {Q:Ks} {d2:Option Nat} {t2 ty:TypeId} {q1 q2:Operand} {R:AA} {i2 f2:Nat} {b:List NV} {z:NV} (hln:qm nv=xs.length) (hz0:b≠[]) (U:Cu base B w tv nv L xs R n i2 f2 (b++[z])) (h1:qd s q1=.pointer (some ⟨B,3,none⟩)) (S:qd s q2=q8 n 6 0 (xs.length+b.length) (qI n)) (h3:jh Tryz.prog t2 1=true)
  (h:∀W H,Cu base B w tv nv L xs W H i2 f2 b->(∀X x,NVr B X n R x->NVr B X H W x)->Own 0 3 1 W z.kv (z.nd.kids.map encI)->K (qp s d2 undef) W):qB Tryz.prog Q d2 (.store t2 q1 q2) ty K s R:=by
 rw [<-ky] at S;have c:PSt base B R tv n L i2 f2 ((xs++b)++[z]):=by simpa using U.st
 have u:=c.own.isl;have hl5:=(L01.jw c.own).len;rw [wo,ky,List.length_singleton] at hl5;have hcap:=qdL u;have E:=qbq u 6 0 (xs++b).length (qI n) (uf _) (by omega) (kh _);refine qD (B:=B) (i:=3) h1 c.blk (by simp) (by rw [S];exact qn E) (by rw [S];exact jf E) h3 fun W hO V=>?_;rw [S] at V;simp at V;obtain ⟨J,o⟩:=c.cut hO (by simpa using V) c.il;have hl6:=J.nvLen;have hla:(xs++b).length=xs.length+b.length:=ky;have hz1:0<b.length:=Jf.2 hz0;have I:=c.kid z (by simp);refine h W _ ⟨J,(U.tn.toW.trans o).full (.inr (by omega)),fun y hy=>U.fr y (by simp [hy]),U.b0⟩ (fun X x F=>⟨⟨(o.block X F.blk.lt F.neB F.neR).trans F.blk.heap⟩,F.neB,fun e=>?_⟩) (Own.same I fun k hk=>?_)
 ·rcases o.row X e with h4|h4
  ·exact F.neR h4
  ·have:=F.blk.lt;omega
 ·obtain ⟨cur,Z⟩:=Own.row I hk;exact o.block k (ul.1 Z).1 (c.blkNe Z (by decide)) (c.rowNe Z (by decide))
def qi5:IR:=.seq (.raw (qv qaK 11)) (qi3)
def qi4:IR:=.seq (.raw (qv qaK 15)) (qi2)
def Q0:IR:=.seq (.block 0 (zq [za 42 (zI .eql (zv 5) (zK 1)),zg 42 true 43 (zv 0),.eff (some (42,true)) (some 44) (.buildSlice 51 1 #[(0,(zY #[58,61]))]) 51,zh 42 true 45 141 #[zt 43,zt 44] #[83,51] 4,za 39 (.ite (zv 42) (zn (zv 45)) (zQ false))] <| .cond (zv 39) (zq [zm 48 0,zm 49 4,zE 50 (.buildSlice 40 1 #[(0,(zt 49))]) 40,zE 51 (.build 44 #[(0,(.const (zu 25))),(5,(zt 50))]) 44,zc 52 140 #[zt 48,zt 51] #[83,44] 3,zm 2 52] <| .ret) (zq [za 56 (zI .eql (zv 5) (zK 2)),zg 56 true 57 (zv 0),zh 56 true 58 117 #[zt 57,zY #[58,61]] #[83,9] 4,za 53 (.ite (zv 56) (zv 58) (zQ false))] <| .cond (zv 53) (zq [za 6 (zo 5 (zx 6 (zo 3 (zN (zv 0))) (zv 4))),zm 68 0,za 74 (.op3 (.slLoHi 6) (zo 3 (zN (zv 0))) (zK 0) (zv 4)),za 76 (zf 3 (zN (zv 68))),zw 29 (zt 76) (zt 74)] <|qi5) (zq [za 92 (zI .eql (zv 5) (zK 3)),zg 92 true 93 (zv 0),zh 92 true 94 117 #[zt 93,zY #[58,61]] #[83,9] 4,za 89 (.ite (zv 92) (zv 94) (zQ false))] <| .cond (zv 89) (zq [za 102 (zM 6 (zx 6 (zo 3 (zN (zv 0))) (zv 4))),zA 7 44,zw 44 (zt 7) (zt 102),zm 103 0,za 109 (.op3 (.slLoHi 6) (zo 3 (zN (zv 0))) (zK 0) (zv 4)),za 111 (zf 3 (zN (zv 103))),zw 29 (zt 111) (zt 109)] <|qi4) .skip)))) (Qe)
theorem qEi:qi1=.seq (.reg [.asg none 35 (.var 0),
   .eff none (some 36) (.call {callee:=.value (.func 139),args:=#[(.tmp 35)],argTypes:=#[83]}) 169,
   .asg none 34 (.var 36),
   .asg none 37 (.op1 (.ext 0) (.var 34)),
   .asg none 38 (.op1 (.ext 1) (.var 34)),
   .asg none 4 (.var 37),
   .asg none 5 (.var 38)]) Q0:=rfl
def qpG {base B:Nat} {w:AA} {tv nv:AB} {L:List Tok} {i f:Nat} {xs zs:List NV} {z:NV} (h:PSt base B w tv nv L i f ((xs++zs)++[z])):qA nv=true/\qm nv=xs.length+zs.length+1/\xs.length+zs.length<=qI nv:=by
 have b:=h.own.isl;have c:=(L01.jw h.own).len;rw [wo,ky,ky,List.length_singleton] at c;have e:=qdL b;exact ⟨b,by omega,by omega⟩
def qA5 {L:List Tok} {base B:Nat} {w:AA} {tv nv:AB} {xs:List NV} {r:Rs T} {ρ:qa} {e:M T} {j g:Nat} {R:AA} {o:AB} {zs:List NV} {t:T} (n:(xs++zs).length<=1000000) (u:Cu base B w tv nv L xs R o j g zs) (h:zs.map (·.nd)=t.flat xs.length) (r0:ρ 0=.pointer (some ⟨B,0,none⟩)) (r4:ρ 4=.int .i64 (rv xs.length t)) (r5:ρ 5=.int .i64 1)
  (b:Qz L e (t,1) j g=r):Q0.wp ⟨Tryz.prog,126,kS,[]⟩ (qz [.tmp 2] (PR aT base B tv nv L xs w r)) (qM [.tmp 2] (PR aT base B tv nv L xs w r)) ρ R:=by
 simp only [Qz] at b;simp [Q0,r0,r4,r5];refine jq u [58,61] fun v5 w5 hE5 I H=>?_;simp;refine isB (ss:=[[58,61]]) I (Own.sl H (by simp)) fun w6 V c=>?_;cases S:qo L j [[58,61]] with
 |false=>
  simp [S] at b;simp [r0,r4];refine zZ (qg xs.length [t]) c (by decide) rfl (by decide) (by simp [Value.cells]) (by simp [Value.cells,xO,encI]) fun Z w7 U y s=>?_;simp;rw [qJf];dsimp only [qT];rw [kR (l:=qg xs.length [t])];refine vd y (qf 25 [] [] [] 0 (.slice (some ⟨Z,0,none⟩) 1 1) (qg xs.length [t])) s n fun nv8 w8 J hT8=>?_;have E:zs.map (·.nd)=flats xs.length [t]:=by rw [h,xS]
  simp;exact xg J E rfl b
 |true=>
  simp [S] at b;simp [Qe,r0,r5];refine (QR c.st).mono ?_;rintro _ w7 ⟨rfl,z,F⟩;simp;rw [<-b];exact ⟨j,o,zs,rfl,z,c.tn.trans F⟩
def qA6 {L:List Tok} {base B:Nat} {w:AA} {tv nv:AB} {xs:List NV} {r:Rs T} {ρ:qa} {e:M T} {b j g:Nat} {E:AA} {n:AB} {zs:List NV} {t:T} (F:b≠1) (H:b≠2) (I:b≠3) (h:Cu base B w tv nv L xs E n j g zs) (r0:ρ 0=.pointer (some ⟨B,0,none⟩)) (r5:ρ 5=.int .i64 (b:Int))
  (c:Qz L e (t,b) j g=r):Q0.wp ⟨Tryz.prog,126,kS,[]⟩ (qz [.tmp 2] (PR aT base B tv nv L xs w r)) (qM [.tmp 2] (PR aT base B tv nv L xs w r)) ρ E:=by
 simp only [Qz] at c;have z:¬(b:Int)=1:=by omega
 have o:¬(b:Int)=2:=by omega
 have y:¬(b:Int)=3:=by omega
 simp [F,H,I] at c;simp [Q0,r0,r5,z,o,y,Qe];refine (QR h.st).mono ?_;rintro _ J ⟨rfl,s,u⟩;simp;rw [<-c];exact ⟨j,n,zs,rfl,s,h.tn.trans u⟩
def qBO {L:List Tok} {base B:Nat} {w:AA} {tv nv:AB} {xs:List NV} {r:Rs T} {ρ:qa} {e:M T} (he:Mt aT L 62 me e) (hze:Sz T.size 0 e) {j g:Nat} {w6:AA} {nv6 kv:AB} {n:List NV} {a b:T} (hno:r≠ .oof) (H:(xs++n).length<=2*j+2) (S:Cu base B w tv nv L xs w6 nv6 j g n) (F:n.map (·.nd)=flats xs.length [a,b]) (ae:Own 0 3 1 w6 kv ((qg xs.length [a,b]).map encI))
  (r0:ρ 0=.pointer (some ⟨B,0,none⟩)) (r6:ρ 6=kv) (hr5:bnd e (fun y=>ret (T.mk {kind:=23} ([a,b]++[y]))) j g=r):qi5.wp ⟨Tryz.prog,126,kS,[]⟩ (Qe.wp ⟨Tryz.prog,126,kS,[]⟩ (qz [.tmp 2] (PR aT base B tv nv L xs w r)) (qM [.tmp 2] (PR aT base B tv nv L xs w r))) ((qM [.tmp 2] (PR aT base B tv nv L xs w r)).blk 0 (Qe.wp ⟨Tryz.prog,126,kS,[]⟩ (qz [.tmp 2] (PR aT base B tv nv L xs w r)) (qM [.tmp 2] (PR aT base B tv nv L xs w r)))) ρ w6:=by
 have aa:=kw F;have hsz:sizes [a,b]=a.size+b.size:=yv a b;have htl:=S.st.tl;simp only [qi5];simp;refine js qEh (fun W=>Own 0 3 1 W kv ((qg xs.length [a,b]).map encI)) fun W7 U _=>?_;have E:=S.ext U;have s:=ae.ext U;refine ⟨s, ?_⟩;obtain ⟨kis,klen⟩:=qe2 s;have R:qm kv=2:=klen;have cK:∀W,Own 0 3 1 W kv ((qg xs.length [a,b]).map encI)->W.cell? (qN kv 0)=some (.int .i64 (rv xs.length a))/\W.cell? (qN kv 1)=some (.int .i64 (rv (xs.length+a.size) b)):=fun W h=>⟨(L01.jw h).cell 0 (by simp [qg]),(L01.jw h).cell 1 (by simp [qg])⟩;simp+contextual -implicitDefEqProofs [qq7,cK,s,kis,R,r0,r6];refine vq (A:=aT) (A':=aT) he E H hr5 hno (fun c w' hp=>by simpa using hp) ?_;intro y j8 g8 v8 nv8 us w8 ht8 ab o J I ad;have z:(xs++n).length=xs.length+sizes [a,b]:=by rw [ky,aa]
 change v8=.int .i64 (rv (xs++n).length y) at I;rw [z] at I;subst I;change us.map (·.nd)=y.flat (xs++n).length at o;rw [z] at o;have hz8:=hze _ _ _ _ _ ht8;have hul:=vk o;have hjl8:=ab.st.il;refine ⟨E.keep J s (by decide) (by decide), ?_⟩;simp;refine zZ (qg xs.length [a,b,y]) ab (by decide) rfl (by decide) (by simp [Value.cells]) (by simp [Value.cells,qz9,encI,hsz,uB]) fun Z w9 ac hC9 hk9=>?_;refine ⟨(E.keep J s (by decide) (by decide)).ext ac, ?_⟩;simp;rw [qJe];dsimp only [qT];rw [kR (l:=qg xs.length [a,b,y])];refine ⟨(E.keep J s (by decide) (by decide)).ext ac, ?_⟩;have hcn:(xs++(n++us)).length<=1000000:=by simp at H⊢;omega
 refine vd hC9 (qf 23 [] [] [] 0 (.slice (some ⟨Z,0,none⟩) 3 3) (qg xs.length [a,b,y])) hk9 hcn fun nv10 w10 V hT10=>?_;have hfl:(n++us).map (·.nd)=flats xs.length [a,b,y]:=by
  rw [show ([a,b,y]:List T)=[a,b]++[y] from rfl,ye,uy,F,o]
 have u:=xg V hfl rfl ad;rw [ky] at u
 push_cast at u
 simp [qi3];exact u
def qBN {L:List Tok} {base B:Nat} {w:AA} {tv nv:AB} {xs:List NV} {r:Rs T} {ρ:qa} {e:M T} (he:Mt aT L 62 me e) (hze:Sz T.size 0 e) {j g Y:Nat} {w6:AA} {ab:AB} {z:NV} {b:List NV} {d:D} {a:T} (hno:r≠ .oof) (H:(xs++b).length<=2*j+2) (ad:Cu base B w tv nv L xs w6 ab j g b) (F:b.map (·.nd)=flats xs.length [a]) (hzn:z.nd=⟨d,qg xs.length [a]⟩) (hk6:Own 0 3 1 w6 z.kv ((qg xs.length [a]).map encI)) (hN6:NVr B Y ab w6 z)
  (r0:ρ 0=.pointer (some ⟨B,0,none⟩)) (r7:ρ 7=.pointer (some ⟨Y,0,none⟩)) (hr5:bnd e (fun y=>ret (T.mk {kind:=24,name:=d.name} ([a]++[y]))) j g=r):qi4.wp ⟨Tryz.prog,126,kS,[]⟩ (Qe.wp ⟨Tryz.prog,126,kS,[]⟩ (qz [.tmp 2] (PR aT base B tv nv L xs w r)) (qM [.tmp 2] (PR aT base B tv nv L xs w r))) ((qM [.tmp 2] (PR aT base B tv nv L xs w r)).blk 0 (Qe.wp ⟨Tryz.prog,126,kS,[]⟩ (qz [.tmp 2] (PR aT base B tv nv L xs w r)) (qM [.tmp 2] (PR aT base B tv nv L xs w r)))) ρ w6:=by
 have V:=kw F;have hsz:sizes [a]=a.size:=xY a;have htl:=ad.st.tl;simp only [qi4];simp;refine js qEg (fun W=>Blk W Y (qe z).toArray 44/\Own 0 3 1 W z.kv ((qg xs.length [a]).map encI)) fun W7 R _=>?_;have U:=ad.ext R;have J:=hk6.ext R;have af:=hN6.ext R;have ag:Blk W7 Y (qe z).toArray 44/\Own 0 3 1 W7 z.kv ((qg xs.length [a]).map encI):=⟨af.blk,J⟩;refine ⟨ag, ?_⟩;obtain ⟨kis,klen⟩:=qe2 J;have I:qm z.kv=1:=klen;have cK:∀W,(Blk W Y (qe z).toArray 44/\Own 0 3 1 W z.kv ((qg xs.length [a]).map encI))->W.cell? ⟨Y,1,none⟩=some (.string (qb d.name))/\W.cell? ⟨Y,5,none⟩=some z.kv/\W.cell? (qN z.kv 0)=some (.int .i64 (rv xs.length a)):=fun W h=>⟨by rw [h.1.cell];simp [qe,hzn],yO h.1,(L01.jw h.2).cell 0 (by simp [qg])⟩;simp+contextual -implicitDefEqProofs [qq6,cK,ag,kis,I,r0,r7];refine vq (A:=aT) (A':=aT) he U H hr5 hno (fun c w' hp=>by simpa using hp) ?_;intro y j8 g8 v8 nv8 us w8 ht8 ae n ac S hr8;have o:(xs++b).length=xs.length+sizes [a]:=by rw [ky,V]
 change v8=.int .i64 (rv (xs++b).length y) at S;rw [o] at S;subst S;change us.map (·.nd)=y.flat (xs++b).length at n;rw [o] at n;have hz8:=hze _ _ _ _ _ ht8;have hul:=vk n;have hjl8:=ae.st.il;have s:=And.intro (af.turn ac).blk (U.keep ac J (by decide) (by decide));refine ⟨s, ?_⟩;simp;refine zZ (qg xs.length [a,y]) ae (by decide) rfl (by decide) (by simp [Value.cells]) (by simp [Value.cells,qhS,encI,hsz]) fun Z w9 E hC9 hk9=>?_;refine ⟨⟨s.1.ext E,s.2.ext E⟩, ?_⟩;simp;rw [qJd];dsimp only [qT];rw [kR (l:=qg xs.length [a,y])];refine ⟨⟨s.1.ext E,s.2.ext E⟩, ?_⟩;have hcn:(xs++(b++us)).length<=1000000:=by simp at H⊢;omega
 refine vd hC9 (qf 24 d.name [] [] 0 (.slice (some ⟨Z,0,none⟩) 2 2) (qg xs.length [a,y])) hk9 hcn fun nv10 w10 aa hT10=>?_;have hfl:(b++us).map (·.nd)=flats xs.length [a,y]:=by
  rw [show ([a,y]:List T)=[a]++[y] from rfl,ye,uy,F,n]
 have u:=xg aa hfl rfl hr8;rw [ky] at u
 push_cast at u
 simp [qi2];exact u
def qA4 {L:List Tok} {base B:Nat} {w:AA} {tv nv:AB} {xs:List NV} {r:Rs T} {ρ:qa} {e:M T} (he:Mt aT L 62 me e) (aa:Sz T.size 0 e) {j g:Nat} {w4:AA} {n:AB} {z:NV} {c:List NV} {d:D} {a b:T} (ah:r≠ .oof) (Z:qm nv=xs.length) (hlen:(xs++c).length<=2*j+2) (ab:Cu base B w tv nv L xs w4 n j g (c++[z])) (o:c.map (·.nd)=flats xs.length [a,b]) (ak:z.nd=⟨d,qg xs.length [a,b]⟩)
  (r0:ρ 0=.pointer (some ⟨B,0,none⟩)) (r4:ρ 4=.int .i64 ((xs.length+c.length:Nat):Int)) (r5:ρ 5=.int .i64 2) (V:qt L [58,61] (bnd e fun y=>ret (T.mk {kind:=23} ([a,b]++[y]))) yJ j g=r):Q0.wp ⟨Tryz.prog,126,kS,[]⟩ (qz [.tmp 2] (PR aT base B tv nv L xs w r)) (qM [.tmp 2] (PR aT base B tv nv L xs w r)) ρ w4:=by
 have u:=kw o;have af:sizes [a,b]=a.size+b.size:=yv a b;have aj:c≠[]:=fun e0=>by
  have h1:=a.size_pos;rw [e0,af] at u;simp at u;omega
 simp [Q0,r0,r4,r5];refine jV (s:=[58,61]) ab V (fun w5 ac h am E=>?_) (fun w5 ac h am E=>?_)
 ·have R:PSt base B w5 tv n L (j+1) g ((xs++c)++[z]):=by simpa using h.st
  obtain ⟨H,hl5,hcp⟩:=qpG R;have J:=R.nodeKv;have ai:((xs.length:Int)+(c.length:Int)).toNat=xs.length+c.length:=by omega
  have ag:(xs.length:Int)+(c.length:Int)<(qm n:Int):=by omega
  have S:(0:Int)<=(xs.length:Int)+(c.length:Int):=by omega
  have I:(xs.length:Int)+(c.length:Int)<=(qI n:Int):=by omega
  rw [ky] at J;simp [r0,r4,h.st.blk.cell,H,ag,S,ai,J,I];refine qvU Z aj h (by simp) (by simp) qbV fun w6 nv6 U hT6 F=>?_;rw [ak] at F;simp;refine qBO he aa ah (by omega) U o F ?_ ?_ E<;>simp [r0]
 ·simp [Qe,r0,r5];refine (QR h.st).mono ?_;rintro _ w7 ⟨rfl,ad,ae⟩;simp;rw [<-E];exact ⟨j,n,c++[z],rfl,ad,h.tn.trans ae⟩
def qA3 {L:List Tok} {base B:Nat} {w:AA} {tv nv:AB} {xs:List NV} {r:Rs T} {ρ:qa} {e:M T} (he:Mt aT L 62 me e) (af:Sz T.size 0 e) {j g:Nat} {w4:AA} {h:AB} {z:NV} {b:List NV} {d:D} {a:T} (an:r≠ .oof) (ae:qm nv=xs.length) (hlen:(xs++b).length<=2*j+2) (ag:Cu base B w tv nv L xs w4 h j g (b++[z])) (o:b.map (·.nd)=flats xs.length [a]) (Z:z.nd=⟨d,qg xs.length [a]⟩)
  (r0:ρ 0=.pointer (some ⟨B,0,none⟩)) (r4:ρ 4=.int .i64 ((xs.length+b.length:Nat):Int)) (r5:ρ 5=.int .i64 3) (ad:qt L [58,61] (bnd e fun y=>ret (T.mk {kind:=24,name:=d.name} ([a]++[y]))) yJ j g=r):Q0.wp ⟨Tryz.prog,126,kS,[]⟩ (qz [.tmp 2] (PR aT base B tv nv L xs w r)) (qM [.tmp 2] (PR aT base B tv nv L xs w r)) ρ w4:=by
 have u:=kw o;have ak:sizes [a]=a.size:=xY a;have ao:b≠[]:=fun e0=>by
  have h1:=a.size_pos;rw [e0,ak] at u;simp at u;omega
 simp [Q0,r0,r4,r5];refine jV (s:=[58,61]) ag ad (fun w5 ah c ap F=>?_) (fun w5 ah c ap F=>?_)
 ·have H:PSt base B w5 tv h L (j+1) g ((xs++b)++[z]):=by simpa using c.st
  obtain ⟨n,hl5,hcp⟩:=qpG H;have V:=H.nodeRow;have U:((xs.length:Int)+(b.length:Int)).toNat=xs.length+b.length:=by omega
  have am:(xs.length:Int)+(b.length:Int)<(qm h:Int):=by omega
  have E:(0:Int)<=(xs.length:Int)+(b.length:Int):=by omega
  have S:(xs.length:Int)+(b.length:Int)<=(qI h:Int):=by omega
  rw [ky] at V;simp [r0,r4,c.st.blk.cell,n,am,E,U,V];refine vR kf (by simp) (by simp [Value.cells,qe]) (by simp [Value.cells,qe,jf (H.kid z (by simp)).isl]) (by kernel_rfl) fun Y wy hY R aa _=>?_;simp [Value.cells] at aa;have aq:=c.newN hY R aa;have J:=c.ext R;simp [r0,r4,J.st.blk.cell,n,S,U,E];refine qvU ae ao J (by simp) (by simp) qbV fun w6 nv6 ac ab I=>?_;rw [Z] at I;simp;refine qBN he af an (by omega) ac o Z I (ab _ _ aq) ?_ ?_ F<;>simp [r0]
 ·simp [Qe,r0,r5];refine (QR c.st).mono ?_;rintro _ w7 ⟨rfl,ai,aj⟩;simp;rw [<-F];exact ⟨j,h,b++[z],rfl,ai,c.tn.trans aj⟩
def qmM {zs:List NV} {d:D} {ks:List T} {b:Nat} (h:zs.map (·.nd)=(T.mk d ks).flat b):∃e z,zs=e++[z]/\e.map (·.nd)=flats b ks/\z.nd=⟨d,qg b ks⟩:=by
 have c:zs≠[]:=fun n=>by rw [n] at h;simp [T.flat] at h
 refine ⟨zs.dropLast,zs.getLast c,(List.dropLast_concat_getLast c).symm, ?_⟩;rw [<-List.dropLast_concat_getLast c] at h;have n:zs.dropLast.map (·.nd)++[(zs.getLast c).nd]=flats b ks++[⟨d,qg b ks⟩]:=by simpa [T.flat] using h
 obtain ⟨o,s⟩:=List.append_inj' n rfl;exact ⟨o,by simpa using s⟩
def qoj {L:List Tok} {e:M T} {p:M (T×Nat)} (he:Mt aT L 62 me e) (ab:Sz T.size 0 e) (hp:Mt kH L 139 me p) (hzp:Sz xn 0 p) (hfm:FmM p) {base B:Nat} {w w3:AA} {tv nv:AB} {i f:Nat} {xs:List NV} {r:Rs T} {ac:qa} (aa:qm nv=xs.length) (hn:xs.length<=2*i+2) (J:r≠ .oof) (H:Cu base B w tv nv L xs w3 nv i f []) (r0:ac 0=.pointer (some ⟨B,0,none⟩)) (hr:bnd p (Qz L e) i f=r):
  qi1.wp ⟨Tryz.prog,126,kS,[]⟩ (qz [.tmp 2] (PR aT base B tv nv L xs w r)) (qM [.tmp 2] (PR aT base B tv nv L xs w r)) ac w3:=by
 have hil:=H.st.il;have htl:=H.st.tl;rw [qEi];simp -implicitDefEqProofs [r0];refine vq (A:=kH) (A':=aT) hp H (by simpa using hn) hr J (fun c w' hp=>by simpa using hp) ?_;rintro ⟨t,fm⟩ j g v nv4 zs w4 ht s h hT4 U E;simp only [List.nil_append,ua] at s h U;change v=.tuple #[.int .i64 (rv xs.length t),.int .i64 (fm:Int)] at U;subst U;change zs.map (·.nd)=t.flat xs.length at h;have V:=hzp _ _ _ _ _ ht;simp only [xn] at V;have hzl:=vk h;have hjl4:=s.st.il;have Z:=hfm _ _ _ _ _ ht;simp -implicitDefEqProofs;by_cases f1:fm=1
 ·subst f1;exact qA5 (t:=t) (by simp;omega) s h (by simp [r0]) (by simp) (by simp) E
 by_cases f2:fm=2
 ·subst f2;obtain ⟨d,a,b,rfl⟩:=Z.1 rfl;obtain ⟨u,z,rfl,n,R⟩:=qmM h;have o:=kw n;have hsz:sizes [a,b]=a.size+b.size:=yv a b;have F:u.length+1+2*i<=2*j:=by
   have h1:(T.mk d [a,b]).size+(if 2=1 then 1 else 0)+2*i<=2*j+0:=V.2;rw [jv,<-o] at h1;simp at h1;omega
  have S:rv xs.length (T.mk d [a,b])=(((xs.length+u.length:Nat):Int)):=by
   rw [rv,jv,o];push_cast;omega
  have I:qt L [58,61] (bnd e fun y=>ret (T.mk {kind:=23} ([a,b]++[y]))) yJ j g=r:=by
   rw [<-E];unfold qt Qz;cases qo L j [[58,61]] <;>simp [yJ,T.kids,T.d]
  exact qA4 he ab J aa (by simp;omega) s n R (by simp [r0]) (by simp [S]) (by simp) I
 by_cases f3:fm=3
 ·subst f3;obtain ⟨d,a,rfl⟩:=Z.2 rfl;obtain ⟨u,z,rfl,n,R⟩:=qmM h;have o:=kw n;have hsz:sizes [a]=a.size:=xY a;have F:u.length+1+2*i<=2*j:=by
   have h1:(T.mk d [a]).size+(if 3=1 then 1 else 0)+2*i<=2*j+0:=V.2;rw [jv,<-o] at h1;simp at h1;omega
  have S:rv xs.length (T.mk d [a])=(((xs.length+u.length:Nat):Int)):=by
   rw [rv,jv,o];push_cast;omega
  have I:qt L [58,61] (bnd e fun y=>ret (T.mk {kind:=24,name:=d.name} ([a]++[y]))) yJ j g=r:=by
   rw [<-E];unfold qt Qz;cases qo L j [[58,61]] <;>simp [yJ,T.kids,T.d]
  exact qA3 he ab J aa (by simp;omega) s n R (by simp [r0]) (by simp [S]) (by simp) I
 ·exact qA6 f1 f2 f3 s (by simp [r0]) (by simp) E
def qA2 {L:List Tok} {e:M T} {p:M (T×Nat)} (he:Mt aT L 62 me e) (R:Sz T.size 0 e) (hp:Mt kH L 139 me p) (hzp:Sz xn 0 p) (aa:FmM p) (n:Nat):Mt aT L 318 me (kX L n e p):=by
 intro base B w tv nv i f xs S hn s;have hil:=S.il;have htl:=S.tl;generalize hr:kX L n e p i f=r at s;refine qEj fun ρ r0=>?_;simp -implicitDefEqProofs [qq9,r0];refine (wZ S 0 (by decide)).mono ?_;rintro _ w1 ⟨rfl,hE1⟩;simp -implicitDefEqProofs;refine vR z53 (by simp) (by simp [Value.cells,vF]) (by simp [Value.cells,vF]) (by simpa [Value.cells] using QG) fun X W2 hX hE2 E _=>?_;simp -implicitDefEqProofs [Value.cells,vF] at E;obtain ⟨c0,c1,c2⟩:=xN E;have J:=((Cu.start S).ext hE1).ext hE2;have e58:(⟨#[58,61]⟩:ByteArray)=qb [58,61]:=rfl;by_cases h1:(tk L i).kind=1
 ·have ad:((tk L i).kind:Int)=1:=by omega
  simp -implicitDefEqProofs [c0,h1,r0];refine (wZ (by simpa using J.st) 1 (by decide)).mono ?_;rintro _ w3 ⟨rfl,V⟩;have u:=J.ext V;simp -implicitDefEqProofs [vF,e58,vv];by_cases h2:(tk L (i+1)).text=[58,61]
  ·have o:bnd e (fun x=>ret (T.mk {kind:=22,name:=(tk L i).text} [x])) (i+2) f=r:=by
    rw [<-hr];show _=if (tk L i).kind=1/\(tk L (i+1)).text=[58,61] then _ else _
    rw [j0 ⟨h1,h2⟩]
   have hlt:=qx5 h2 (by simp);simp -implicitDefEqProofs [h2,r0,u.st.blk.cell];refine qKj u hlt (by simp) (by simp) vp fun w4 hC4 hT4=>?_;have hX4:=u.st.var hT4 (E.ext V) (by decide) (by decide);simp -implicitDefEqProofs;refine js qEf (fun W=>Blk W X #[.int .u8 ((tk L i).kind:Int),.string (qb (tk L i).text),.int .i64 (tk L i).line] 53) fun W5 ab _=>?_;have U:=hC4.ext ab;have z:=hX4.ext ab;refine ⟨z, ?_⟩;have cX:∀W,Blk W X #[.int .u8 ((tk L i).kind:Int),.string (qb (tk L i).text),.int .i64 (tk L i).line] 53->W.cell? ⟨X,1,none⟩=some (.string (qb (tk L i).text)):=fun W h=>(xN h).2.1;simp+contextual -implicitDefEqProofs [qq5,cX,z,r0];refine vq (A:=aT) (A':=aT) he U (by simp;omega) o s (fun c w' hp=>by simpa using hp) ?_;intro y j6 g6 v6 nv6 zs w6 ht6 H b hT6 I hr6;simp only [List.nil_append,ua] at H b I;change v6=.int .i64 (rv xs.length y) at I;subst I;change zs.map (·.nd)=y.flat xs.length at b;have hz6:=R _ _ _ _ _ ht6;have hzl:=vk b;have hjl6:=H.st.il;have F:=U.st.var hT6 z (by decide) (by decide);refine ⟨F, ?_⟩;simp -implicitDefEqProofs;refine zZ (qg xs.length [y]) H (by decide) rfl (by decide) (by simp [Value.cells]) (by simp [Value.cells,xO,encI]) fun Z w7 ac hC7 hk7=>?_;refine ⟨F.ext ac, ?_⟩;simp -implicitDefEqProofs;rw [qJg];dsimp only [qT];rw [kR (l:=qg xs.length [y])];refine ⟨F.ext ac, ?_⟩;refine vd hC7 (qf 22 (tk L i).text [] [] 0 (.slice (some ⟨Z,0,none⟩) 1 1) (qg xs.length [y])) hk7 (by simp;omega) fun nv8 w8 hC8 hT8=>?_;have hfl:zs.map (·.nd)=flats xs.length [y]:=by rw [b,xS]
   simp -implicitDefEqProofs [qq8];exact xg hC8 hfl rfl hr6
  ·have o:bnd p (Qz L e) i f=r:=by
    rw [<-hr];show _=if (tk L i).kind=1/\(tk L (i+1)).text=[58,61] then _ else _
    rw [q3 fun h=>h2 h.2];rfl
   simp -implicitDefEqProofs [h2];refine qoj he R hp hzp aa S.nvLen hn s u ?_ o;simp -implicitDefEqProofs [r0]
 ·have ad:¬((tk L i).kind:Int)=1:=by omega
  have o:bnd p (Qz L e) i f=r:=by
   rw [<-hr];show _=if (tk L i).kind=1/\(tk L (i+1)).text=[58,61] then _ else _
   rw [q3 fun h=>h1 h.1];rfl
  simp -implicitDefEqProofs [c0,ad,r0];refine qoj he R hp hzp aa S.nvLen hn s J ?_ o;simp -implicitDefEqProofs [r0]
theorem qJI (s:Bs):Tryz.prog.built 44 [(0,.int .u8 ((21:Nat):Int)),(1,.string (qb s))]=some (qe (qf 21 s [] [] 0 (.slice none 0 0) [])).toArray:=by kernel_rfl
theorem qJD (s:Bs):Tryz.prog.built 44 [(0,.int .u8 ((28:Nat):Int)),(1,.string (qb s))]=some (qe (qf 28 s [] [] 0 (.slice none 0 0) [])).toArray:=by kernel_rfl
theorem qJz (Z:Nat):Tryz.prog.built 44 [(0,.int .u8 37),(5,.slice (some ⟨Z,0,none⟩) 1 1)]=some (qe (qf 37 [] [] [] 0 (.slice (some ⟨Z,0,none⟩) 1 1) [])).toArray:=by kernel_rfl
theorem qJB (Z:Nat):Tryz.prog.built 44 [(0,.int .u8 30),(5,.slice (some ⟨Z,0,none⟩) 1 1)]=some (qe (qf 30 [] [] [] 0 (.slice (some ⟨Z,0,none⟩) 1 1) [])).toArray:=by kernel_rfl
theorem qJE (Z:Nat):Tryz.prog.built 44 [(0,.int .u8 27),(5,.slice (some ⟨Z,0,none⟩) 1 1)]=some (qe (qf 27 [] [] [] 0 (.slice (some ⟨Z,0,none⟩) 1 1) [])).toArray:=by kernel_rfl
theorem qgq (s:Bs):Tryz.prog.built 44 [(0,.int .u8 31),(1,.string (qb s))]=some (qe (qf 31 s [] [] 0 (.slice none 0 0) [])).toArray:=by kernel_rfl
theorem qJA:Tryz.prog.built 44 [(0,.int .u8 34)]=some (qe (qf 34 [] [] [] 0 (.slice none 0 0) [])).toArray:=by kernel_rfl
theorem qJC:Tryz.prog.built 44 [(0,.int .u8 29)]=some (qe (qf 29 [] [] [] 0 (.slice none 0 0) [])).toArray:=by kernel_rfl
theorem qBb {L:List Tok} (hL:jJ L) {e b:M T} {p:M (T×Nat)} (he:Mt aT L 62 me e) (hu:Up e) (ar:Sz T.size 0 e) (J:Mt kH L 139 me p) (hzp:Sz xn 0 p) (hfm:FmM p) (hb:Mt aT L 209 me b) (hzb:Sz T.size 1 b) (n:Nat):Mt aT L 270 me (QJ L n e p b):=by
 intro base B w tv nv i f xs hS hn E;have hil:=hS.il;have htl:=hS.tl;generalize hr:QJ L n e p b i f=r at E;have hC0:=Cu.start hS;refine qE1 fun ρ r0=>?_;simp [qrW,r0];refine jV (s:=[118,97,114]) hC0 hr (fun w1 hc1 hC1 hT1 hr1=>?_) (fun w1 hc1 hC1 hT1 hr1=>?_)
 ·
  have hl1:=hC1.st.il;simp [r0];refine wT (A:=aD 21) (A':=aT) (fun _ _=>rfl) (fun E=>qoA hL n 21 qJI base B w1 tv nv (i+1) f (xs++[]) hC1.st (by simp;omega) E) hC1 hr1 E (fun c w' J=>by simpa using J) ?_;rintro ⟨s,ty⟩ j2 g2 v2 nv2 w2 hd2 ae hT2 hv2 az;change v2=_ at hv2;subst hv2;have hj2:=((kg n).ok hd2).1;simp;refine vR kf (by simp) (by simp [Value.cells,qe]) (by simp [Value.cells,qe,qf]) (by kernel_rfl) fun X w3 hX aG aC _=>?_;simp [Value.cells] at aC;have aN:w.heap.size<=X:=Nat.le_trans ae.size hX;have aq:=ae.ext aG;have hN3:=ae.newN hX aG aC;simp [r0];refine jq aq [58,61] fun v4 w4 a6 ap hv4=>?_;simp;refine jz (A':=aT) ap hv4 (by simp) az E (fun c w' J=>by simpa using J) ?_;intro j5 g5 nv5 w5 hne5 aw hT5 aQ;have hj5:=(jP _ _ _ _ _ hne5).1;have hN5:=(hN3.ext a6).turn hT5;simp [r0];refine vq (A:=aT) (A':=aT) he aw (by simp;omega) aQ E (fun c w' J=>by simpa using J) ?_;intro x j6 g6 v6 ay z w6 af u o ag y H;simp only [List.nil_append,ua] at u o y;change v6=.int .i64 (rv xs.length x) at y;subst y;change z.map (·.nd)=x.flat xs.length at o;have hz6:=ar _ _ _ _ _ af;have a5:=vk o;have a4:=u.st.il;have hN6:=hN5.turn ag;simp;refine zZ (qg xs.length [x]) u (by decide) rfl (by decide) (by simp [Value.cells]) (by simp [Value.cells,xO,encI]) fun Z w7 a7 R ax=>?_;have hN7:=hN6.ext a7;simp;refine kP (c:=5) (x':=qf 21 s [] ty 0 (.slice (some ⟨Z,0,none⟩) 1 1) (qg xs.length [x])) R hN7 aN (by simp) (by simp [qe]) (by simp [Value.cells]) (by simp) xm (by simp [qe,qf]) fun w8 hO8 U hN8=>?_;have hk8:=kQ hN7 hO8 ax (by decide);simp [r0,hN8.row];refine vd U (qf 21 s [] ty 0 (.slice (some ⟨Z,0,none⟩) 1 1) (qg xs.length [x])) hk8 (by simp;omega) fun nv9 w9 ad hT9=>?_;have a0:z.map (·.nd)=flats xs.length [x]:=by rw [o,xS]
  simp;exact xg ad a0 rfl H
 simp [r0];refine jV (s:=[112,117,116]) hC1 hr1 (fun w2 hc2 ae hT2 az=>?_) (fun w2 hc2 ae hT2 az=>?_)
 ·
  simp [r0];refine vq (A:=aT) (A':=aT) he ae (by simp;omega) az E (fun c w' J=>by simpa using J) ?_;intro x j6 g6 v6 ay z w6 af u o ag y H;simp only [List.nil_append,ua] at u o y;change v6=.int .i64 (rv xs.length x) at y;subst y;change z.map (·.nd)=x.flat xs.length at o;have hz6:=ar _ _ _ _ _ af;have a5:=vk o;have a4:=u.st.il;have a0:z.map (·.nd)=flats xs.length [x]:=by rw [o,xS]
  simp;refine zZ (qg xs.length [x]) u (by decide) rfl (by decide) (by simp [Value.cells]) (by simp [Value.cells,xO,encI]) fun Z w7 a7 R ax=>?_;simp;rw [qJz];dsimp only [qT];rw [kR (l:=qg xs.length [x])];refine vd R (qf 37 [] [] [] 0 (.slice (some ⟨Z,0,none⟩) 1 1) (qg xs.length [x])) ax (by simp;omega) fun nv8 w8 U hT8=>?_;simp;exact xg U a0 rfl H
 simp [r0];refine jV (s:=[105,102]) ae az (fun w3 hc3 aq hT3 hr3=>?_) (fun w3 hc3 aq hT3 hr3=>?_)
 ·
  simp [r0];refine vq (A:=aT) (A':=aT) (k:=ret) (qoD he ar hb hzb n) aq (by simp;omega) (by rw [kO];exact hr3) E (fun c w' J=>by simpa using J) ?_;intro t j6 g6 v6 ay z w6 af u o ag y H;simp only [List.nil_append,ua] at u o y;simp;exact qaO u o y H
 simp [r0];refine jV (s:=[119,104,105,108,101]) aq hr3 (fun w4 hc4 ap hT4 hr4=>?_) (fun w4 hc4 ap hT4 hr4=>?_)
 ·
  simp [r0];refine vq (A:=aT) (A':=aT) he ap (by simp;omega) hr4 E (fun c w' J=>by simpa using J) ?_;intro x j6 g6 v6 ay z w6 af u o ag y H;simp only [List.nil_append,ua] at u o y;change v6=.int .i64 (rv xs.length x) at y;subst y;change z.map (·.nd)=x.flat xs.length at o;have hz6:=ar _ _ _ _ _ af;have a5:=vk o;have a4:=u.st.il;simp;refine QW (qg xs.length [x]) u (by decide) rfl (by decide) (by simp [Value.cells]) (by simp [Value.cells,xO,encI]) fun Z w7 a7 R ax hsep _=>?_;simp;rw [qJE];dsimp only [qT];rw [kR (l:=qg xs.length [x])];refine vR kf (by simp) (by simp [Value.cells,qe]) (by simp [Value.cells,qe,qf]) (by kernel_rfl) fun X w8 hX hE8 hb8 _=>?_;simp [Value.cells] at hb8;have aN:w.heap.size<=X:=Nat.le_trans R.size hX;have U:=R.ext hE8;have hK8:NK w B X ay w8 (qf 27 [] [] [] 0 (.slice (some ⟨Z,0,none⟩) 1 1) (qg xs.length [x])) (xs++z):=R.newK hX hE8 hb8 (ax.ext hE8) hsep;simp [r0];refine jq U [100,111] fun v9 w9 hE9 ad hv9=>?_;simp;refine jz (A':=aT) ad hv9 (by simp) H E (fun c w' J=>by simpa using J) ?_;intro j10 g10 aH aY a1 I ac ah;have hj10:=(jP _ _ _ _ _ a1).1;have hK10:=(hK8.ext hE9).turn0 ad ac;have am:z.map (·.nd)=flats xs.length [x]:=by rw [o,xS]
  have V:(xs++z).length=xs.length+sizes [x]:=by rw [ky,kw am]
  refine js qE0 (fun W=>Blk W X (qe (qf 27 [] [] [] 0 (.slice (some ⟨Z,0,none⟩) 1 1) (qg xs.length ([x])))).toArray 44) fun W11 aA _=>?_;have ab:=I.ext aA;have ak:=hK10.ext aA;refine ⟨ak.var.blk, ?_⟩;have cX11:∀W,Blk W X (qe (qf 27 [] [] [] 0 (.slice (some ⟨Z,0,none⟩) 1 1) (qg xs.length ([x])))).toArray 44->W.cell? ⟨X,5,none⟩=some (.slice (some ⟨Z,0,none⟩) 1 1):=fun W h=>yO h;have aZ:=ak.var.blk;simp+contextual -implicitDefEqProofs [qrS,cX11,aZ,r0];refine yY (A:=aT) (A':=aT) hb ab (by simp;omega) ah E (fun c w' J=>by simpa using J) ?_;intro q j12 g12 v12 nv12 an w12 ht12 aO S hf12 hT12 aj hr12;have aJ:=ak.turn ab hT12 hf12;change v12=.int .i64 (rv (xs++z).length q) at aj;rw [V] at aj;subst aj;change an.map (·.nd)=q.flat (xs++z).length at S;rw [V] at S;have hz12:=hzb _ _ _ _ _ ht12;have hzl12:=vk S;have hjl12:=aO.st.il;refine ⟨aJ.var.blk, ?_⟩;simp;refine zZ [rv (xs.length+sizes ([x])) q] aO (by decide) rfl (by decide) (by simp [Value.cells]) (by simp [Value.cells,encI]) fun Z13 w13 hE13 hC13 hk13=>?_;have aE:=aJ.ext hE13;refine ⟨aE.var.blk, ?_⟩;refine Qu (n:=rv (xs.length+sizes ([x])) q) (Z:=Z13) hC13 aE (by simp [qf]) (by simp) (by simpa using hk13) (by simp [qf,wX] <;>omega) fun aK w13a aP a2 aW au hs13a=>?_;simp [r0];refine yB (l':=qg xs.length ([x,q])) (kv':=aK) aP a2 aN (by simp) (by simp) (by rw [show ([x,q]:List T)=([x])++[q] from rfl,y5];exact aW) au xm fun w13b hO13b aR aV=>?_;have aa:(z++an).map (·.nd)=flats xs.length ([x,q]):=by rw [show ([x,q]:List T)=([x])++[q] from rfl,uy,am,S,ye]
  have ai:(xs++(z++an)).length=xs.length+sizes ([x,q]):=by rw [ky,kw aa]
  have hsz13:sizes [x,q]=x.size+q.size:=yv x q;simp [qrV,r0];refine jq aR [101,110,100] fun v14 w14 hE14 aF hv14=>?_;simp;refine jz (A':=aT) aF hv14 (by simp) hr12 E (fun c w' J=>by simpa using J) ?_;intro j15 g15 nv15 w15 hne15 hC15 hT15 hr15;have aI:=(aV.ext hE14).turn0 aF hT15;simp [r0,aI.var.row];refine vd hC15 (qf 27 [] [] [] 0 aK (qg xs.length [x,q])) aI.own (by rw [ai];omega) fun nv16 w16 hC16 hT16=>?_;simp;have ao:=xg hC16 aa rfl hr15;rw [ky] at ao
  push_cast at ao
  exact ao
 simp [r0];refine jV (s:=[102,111,114]) ap hr4 (fun w5 hc5 aw hT5 aQ=>?_) (fun w5 hc5 aw hT5 aQ=>?_)
 ·
  have hl5:=aw.st.il;simp [r0];refine wT (A:=aD 28) (A':=aT) (fun _ _=>rfl) (fun E=>qoA hL n 28 qJD base B w5 tv nv (i+1) f (xs++[]) aw.st (by simp;omega) E) aw aQ E (fun c w' J=>by simpa using J) ?_;rintro ⟨s,ty⟩ j2 g2 v2 nv2 w2 hd2 ae hT2 hv2 az;change v2=_ at hv2;subst hv2;have hj2:=((kg n).ok hd2).1;simp;refine vR kf (by simp) (by simp [Value.cells,qe]) (by simp [Value.cells,qe,qf]) (by kernel_rfl) fun X w3 hX aG aC _=>?_;simp [Value.cells] at aC;have aN:w.heap.size<=X:=Nat.le_trans ae.size hX;have aq:=ae.ext aG;have hN3:=ae.newN hX aG aC;simp [r0];refine jq aq [105,110] fun v4 w4 a6 ap hv4=>?_;simp;refine jz (A':=aT) ap hv4 (by simp) az E (fun c w' J=>by simpa using J) ?_;intro j5 g5 nv5 w5 hne5 aw hT5 aQ;have hj5:=(jP _ _ _ _ _ hne5).1;have hN5:=(hN3.ext a6).turn hT5;simp [r0];refine vq (A:=aT) (A':=aT) (qBM hL he hu ar n) aw (by simp;omega) aQ E (fun c w' J=>by simpa using J) ?_;intro x j6 g6 v6 ay z w6 af u o ag y H;simp only [List.nil_append,ua] at u o y;change v6=.int .i64 (rv xs.length x) at y;subst y;change z.map (·.nd)=x.flat xs.length at o;have hz6:=qmi (qmr ar n) _ _ _ _ _ af;have a5:=vk o;have a4:=u.st.il;have hN6:=hN5.turn ag;simp;refine QW (qg xs.length [x]) u (by decide) rfl (by decide) (by simp [Value.cells]) (by simp [Value.cells,xO,encI]) fun Z w7 a7 R ax hsep _=>?_;have hN7:=hN6.ext a7;simp;refine yB (l':=qg xs.length [x]) (kv':=.slice (some ⟨Z,0,none⟩) 1 1) R hN7 aN (by simp) (by simp) ax hsep xm fun w8 hO8 U hK8=>?_;simp [r0];refine jq U [100,111] fun v9 w9 hE9 ad hv9=>?_;simp;refine jz (A':=aT) ad hv9 (by simp) H E (fun c w' J=>by simpa using J) ?_;intro j10 g10 aH aY a1 I ac ah;have hj10:=(jP _ _ _ _ _ a1).1;have hK10:=(hK8.ext hE9).turn0 ad ac;have am:z.map (·.nd)=flats xs.length [x]:=by rw [o,xS]
  have V:(xs++z).length=xs.length+sizes [x]:=by rw [ky,kw am]
  refine js qEZ (fun W=>Blk W X (qe (qf 28 s [] ty 0 (.slice (some ⟨Z,0,none⟩) 1 1) (qg xs.length ([x])))).toArray 44) fun W11 aA _=>?_;have ab:=I.ext aA;have ak:=hK10.ext aA;refine ⟨ak.var.blk, ?_⟩;have cX11:∀W,Blk W X (qe (qf 28 s [] ty 0 (.slice (some ⟨Z,0,none⟩) 1 1) (qg xs.length ([x])))).toArray 44->W.cell? ⟨X,5,none⟩=some (.slice (some ⟨Z,0,none⟩) 1 1):=fun W h=>yO h;have aZ:=ak.var.blk;simp+contextual -implicitDefEqProofs [qrR,cX11,aZ,r0];refine yY (A:=aT) (A':=aT) hb ab (by simp;omega) ah E (fun c w' J=>by simpa using J) ?_;intro q j12 g12 v12 nv12 an w12 ht12 aO S hf12 hT12 aj hr12;have aJ:=ak.turn ab hT12 hf12;change v12=.int .i64 (rv (xs++z).length q) at aj;rw [V] at aj;subst aj;change an.map (·.nd)=q.flat (xs++z).length at S;rw [V] at S;have hz12:=hzb _ _ _ _ _ ht12;have hzl12:=vk S;have hjl12:=aO.st.il;refine ⟨aJ.var.blk, ?_⟩;simp;refine zZ [rv (xs.length+sizes ([x])) q] aO (by decide) rfl (by decide) (by simp [Value.cells]) (by simp [Value.cells,encI]) fun Z13 w13 hE13 hC13 hk13=>?_;have aE:=aJ.ext hE13;refine ⟨aE.var.blk, ?_⟩;refine Qu (n:=rv (xs.length+sizes ([x])) q) (Z:=Z13) hC13 aE (by simp [qf]) (by simp) (by simpa using hk13) (by simp [qf,wX] <;>omega) fun aK w13a aP a2 aW au hs13a=>?_;simp [r0];refine yB (l':=qg xs.length ([x,q])) (kv':=aK) aP a2 aN (by simp) (by simp) (by rw [show ([x,q]:List T)=([x])++[q] from rfl,y5];exact aW) au xm fun w13b hO13b aR aV=>?_;have aa:(z++an).map (·.nd)=flats xs.length ([x,q]):=by rw [show ([x,q]:List T)=([x])++[q] from rfl,uy,am,S,ye]
  have ai:(xs++(z++an)).length=xs.length+sizes ([x,q]):=by rw [ky,kw aa]
  have hsz13:sizes [x,q]=x.size+q.size:=yv x q;simp [qrU,r0];refine jq aR [101,110,100] fun v14 w14 hE14 aF hv14=>?_;simp;refine jz (A':=aT) aF hv14 (by simp) hr12 E (fun c w' J=>by simpa using J) ?_;intro j15 g15 nv15 w15 hne15 hC15 hT15 hr15;have aI:=(aV.ext hE14).turn0 aF hT15;simp [r0,aI.var.row];refine vd hC15 (qf 28 s [] ty 0 aK (qg xs.length [x,q])) aI.own (by rw [ai];omega) fun nv16 w16 hC16 hT16=>?_;simp;have ao:=xg hC16 aa rfl hr15;rw [ky] at ao
  push_cast at ao
  exact ao
 simp [r0];refine jV (s:=[114,101,116,117,114,110]) aw aQ (fun w6 hc6 u ag H=>?_) (fun w6 hc6 u ag H=>?_)
 ·
  have hl6:=u.st.il;simp;rw [qJC];dsimp only [qT];refine vR kf (by simp) (by simp [Value.cells,qe]) (by simp [Value.cells,qe,qf]) (by kernel_rfl) fun X w3 hX aG aC _=>?_;simp [Value.cells] at aC;have aN:w.heap.size<=X:=Nat.le_trans u.size hX;have aq:=u.ext aG;have hN3:=u.newN hX aG aC;simp [r0];refine (qoI aq.st).mono ?_;rintro _ w4 ⟨rfl,a6⟩;have ap:=aq.ext a6;have hN4:=hN3.ext a6;simp;by_cases hbg:kV L (i+1)=true
  ·simp only [hbg,wh] at H;simp [hbg,r0];refine vq (A:=aT) (A':=aT) he ap (by simp;omega) H E (fun c w' J=>by simpa using J) ?_;intro x j7 g7 v7 nv7 zs7 w7 ht7 R a3 hT7 hv7 hr7;simp only [List.nil_append,ua] at R a3 hv7;change v7=.int .i64 (rv xs.length x) at hv7;subst hv7;change zs7.map (·.nd)=x.flat xs.length at a3;have hz7:=ar _ _ _ _ _ ht7;have hzl7:=vk a3;have hjl7:=R.st.il;have hN7:=hN4.turn hT7;have a0:zs7.map (·.nd)=flats xs.length [x]:=by rw [a3,xS]
   simp;refine zZ (qg xs.length [x]) R (by decide) rfl (by decide) (by simp [Value.cells]) (by simp [Value.cells,xO,encI]) fun Z w8 hE8 U hk8=>?_;have hN8:=hN7.ext hE8;simp;refine kP (c:=5) (x':=qf 29 [] [] [] 0 (.slice (some ⟨Z,0,none⟩) 1 1) (qg xs.length [x])) U hN8 aN (by simp) (by simp [qe]) (by simp [Value.cells]) (by simp) xm (by simp [qe,qf]) fun w9 hO9 ad hN9=>?_;have hk9:=kQ hN8 hO9 hk8 (by decide);simp [qji,r0,hN9.row];refine vd ad (qf 29 [] [] [] 0 (.slice (some ⟨Z,0,none⟩) 1 1) (qg xs.length [x])) hk9 (by simp;omega) fun aH aY I ac=>?_;simp;exact xg I a0 rfl hr7
  ·have hbg':kV L (i+1)=false:=by simpa using hbg
   simp only [hbg',uk,ud] at H;simp [hbg',qji,r0,hN4.row];refine vd (ys:=[]) ap (qf 29 [] [] [] 0 (.slice none 0 0) []) (y8 _ _ _ _) (by simp;omega) fun aH aY I ac=>?_;simp;exact xg (ks:=[]) (ys:=[]) I rfl rfl H
 simp [r0];refine jV (s:=[121,105,101,108,100]) u H (fun w7 hc7 R hT7 hr7=>?_) (fun w7 hc7 R hT7 hr7=>?_)
 ·
  simp [r0];refine vq (A:=aT) (A':=aT) he R (by simp;omega) hr7 E (fun c w' J=>by simpa using J) ?_;intro x j6 g6 v6 ay z w6 af u o ag y H;simp only [List.nil_append,ua] at u o y;change v6=.int .i64 (rv xs.length x) at y;subst y;change z.map (·.nd)=x.flat xs.length at o;have hz6:=ar _ _ _ _ _ af;have a5:=vk o;have a4:=u.st.il;have a0:z.map (·.nd)=flats xs.length [x]:=by rw [o,xS]
  simp;refine zZ (qg xs.length [x]) u (by decide) rfl (by decide) (by simp [Value.cells]) (by simp [Value.cells,xO,encI]) fun Z w7 a7 R ax=>?_;simp;rw [qJB];dsimp only [qT];rw [kR (l:=qg xs.length [x])];refine vd R (qf 30 [] [] [] 0 (.slice (some ⟨Z,0,none⟩) 1 1) (qg xs.length [x])) ax (by simp;omega) fun nv8 w8 U hT8=>?_;simp;exact xg U a0 rfl H
 simp [r0];refine jV (s:=[115,105,103,110,97,108]) R hr7 (fun w8 hc8 U hT8 hr8=>?_) (fun w8 hc8 U hT8 hr8=>?_)
 ·
  have hl8:=U.st.il;simp [r0];refine vz (A:=aS) (A':=aT) (fun _ _=>rfl) (F:=120) (fun _ _ _ _ _ _ _ _ h _ _=>x4 h) U (by simp;omega) hr8 E (fun c w' J=>by simpa using J) ?_;intro s j g v nv2 w2 hna ae hT2 hv az;change v=_ at hv;subst hv;simp;rw [qgq];dsimp only [qT];refine vd (ys:=[]) ae (qf 31 s [] [] 0 (.slice none 0 0) []) (y8 _ _ _ _) (by simp;omega) fun aH aY I ac=>?_;simp;exact xg (ks:=[]) (ys:=[]) I rfl rfl az
 simp [r0];refine jV (s:=[98,114,101,97,107]) U hr8 (fun w9 hc9 ad hT9 hr9=>?_) (fun w9 hc9 ad hT9 hr9=>?_)
 ·
  simp [r0];rw [qJA];dsimp only [qT];refine vd (ys:=[]) ad (qf 34 [] [] [] 0 (.slice none 0 0) []) (y8 _ _ _ _) (by simp;omega) fun aH aY I ac=>?_;simp;exact xg (ks:=[]) (ys:=[]) I rfl rfl hr9
 simp [r0];refine jV (s:=[98,101,103,105,110]) ad hr9 (fun aY hc10 I ac ah=>?_) (fun aY hc10 I ac ah=>?_)
 ·
  simp [r0];refine vq (A:=aT) (A':=aT) (k:=ret) (qBA hb hzb n) I (by simp;omega) (by rw [kO];exact ah) E (fun c w' J=>by simpa using J) ?_;intro t j6 g6 v6 ay z w6 af u o ag y H;simp only [List.nil_append,ua] at u o y;simp;exact qaO u o y H
 simp [r0];refine jV (s:=[116,97,103,99,97,115,101]) I ah (fun w11 hc11 ab hT11 hr11=>?_) (fun w11 hc11 ab hT11 hr11=>?_)
 ·
  simp [r0];refine vq (A:=aT) (A':=aT) (k:=ret) (qBT hL he ar hb hzb n) ab (by simp;omega) (by rw [kO];exact hr11) E (fun c w' J=>by simpa using J) ?_;intro t j6 g6 v6 ay z w6 af u o ag y H;simp only [List.nil_append,ua] at u o y;simp;exact qaO u o y H
 simp [qrT,r0];refine vq (A:=aT) (A':=aT) (k:=ret) (qA2 he ar J hzp hfm n) ab (by simpa using hn) (by rw [kO];exact hr11) E (fun c w' J=>by simpa using J) ?_;intro t j6 g6 v6 ay z w6 af u o ag y H;simp only [List.nil_append,ua] at u o y;simp;exact qaO u o y H
def qon {L:List Tok} (c:jJ L) (b:wO L):∀n,Mt aT L 270 me (QK L n)
 |0=>fun _ _ _ _ _ _ _ _ _ _ h=>absurd rfl h
 |n+1=>qBb c (qik c b n) (yn n) (qao n) (qop c b (qik c b n) (yn n) (qao n) n) (qev (qao n) n) (qHQ n) (qoG (qon c b n) (qc0 n) n) (qhi (qc0 n) n) n
def qBS {L:List Tok} (c:jJ L) (b:wO L) (n:Nat):Mt aT L 209 me (block L n):=qoG (qon c b n) (qc0 n) n
def qj (p:Nat->TypeId->Prop) (w w':AA):Prop:=∀k cs T z,w.heap[k]? =some (.cells cs T z)->p k T->w'.heap[k]? =w.heap[k]?
def qj.mono {p q:Nat->TypeId->Prop} {w w':AA} (h:qj p w w') (c:∀k T,q k T->p k T):qj q w w':=fun k cs T z e b=>h k cs T z e (c k T b)
def qj.trans {p:Nat->TypeId->Prop} {w w' b:AA} (h:qj p w w') (o:qj p w' b):qj p w b:=fun k cs T z n c=>by
 have e:=h k cs T z n c;exact (o k cs T z (e.trans n) c).trans e
def qj.ext {p:Nat->TypeId->Prop} {w w':AA} (h:qc w w'):qj p w w':=fun k _ _ _ b _=>h.block k (ul.1 b).1
def qj.only {X:Nat} {w w':AA} {cs:Array AB} {TX:TypeId} (h:Only X w w') (c:Blk w X cs TX):qj (fun k T=>k≠X\/T≠TX) w w':=fun k cs' T z e b=>by
 refine h.block k ?_;rintro rfl;have:=c.heap;rw [e] at this;cases this;rcases b with b|b<;>exact b rfl
def qj.grown {w w':AA} {b e sz:Nat} {v:AB} {xs:List AB} (o:Own b e sz w v xs) (s:w.grownBy w' v.ownBlock):qj (fun k T=>v.ownBlock≠some k\/T≠e) w w':=fun k cs T z h c=>by
 refine s.block k (ul.1 h).1 fun n=>?_;obtain ⟨cur,u⟩:=Own.row o n.symm;rw [u] at h;cases h;rcases c with c|c
 ·exact c n.symm
 ·exact c rfl
def PSt.sameT {base B:Nat} {w w':AA} {tv nv b:AB} {L:List Tok} {i f:Nat} {xs:List NV} (h:PSt base B w tv nv L i f xs) (s:Tn base B nv b w w'):qj (fun k T=>T≠85/\(T≠44\/nv.ownBlock≠some k)) w w':=fun k cs T z n o=>by
 refine s.block k (ul.1 n).1 (h.blkNe n o.1) fun e=>?_;rcases o.2 with c|c
 ·exact h.rowNe n c e
 ·exact c e
def _root_.Go.Eng.Own.at' {p:Nat->TypeId->Prop} {w w':AA} {b e sz:Nat} {v:AB} {xs:List AB} (h:Own b e sz w v xs) (s:qj p w w') (n:∀k,v.ownBlock=some k->p k e):Own b e sz w' v xs:=Own.same h fun k c=>by
 obtain ⟨cur,o⟩:=Own.row h c;exact s k _ _ _ o (n k c)
def _root_.Go.Eng.Blk.at' {p:Nat->TypeId->Prop} {w w':AA} {X:Nat} {cs:Array AB} {T:TypeId} (h:Blk w X cs T) (c:qj p w w') (b:p X T):Blk w' X cs T:=⟨(c X _ _ _ h.heap b).trans h.heap⟩
def jl {α β:Type} (C:α->β->Prop):List α->List β->Prop
 |[],[]=>True
 |a::us,b::vs=>C a b/\jl C us vs
 |_,_=>False
section
variable {α β:Type} {C C':α->β->Prop}
theorem jl.imp (e:∀a b,C a b->C' a b):∀{c:List α} {vs:List β},jl C c vs->jl C' c vs
 |[],[],_=>trivial
 |_::_,_::_,h=>⟨e _ _ h.1,jl.imp e h.2⟩
 |[],_::_,h=>h.elim
 |_::_,[],h=>h.elim
theorem jl.len:∀{b:List α} {vs:List β},jl C b vs->b.length=vs.length
 |[],[],_=>rfl
 |_::_,_::_,h=>by simp [jl.len h.2]
 |[],_::_,h=>h.elim
 |_::_,[],h=>h.elim
theorem jl.snoc {a:α} {b:β} (e:C a b):∀{c:List α} {vs:List β},jl C c vs->jl C (c++[a]) (vs++[b])
 |[],[],_=>⟨e,trivial⟩
 |_::_,_::_,h=>⟨h.1,jl.snoc e h.2⟩
 |[],_::_,h=>h.elim
 |_::_,[],h=>h.elim
theorem jl.get:∀{b:List α} {vs:List β},jl C b vs->∀(i:Nat) (e:i<b.length) (c:i<vs.length),C b[i] vs[i]
 |_::_,_::_,h,0,_,_=>h.1
 |_::_,_::_,h,i+1,e,c=>jl.get h.2 i (by simpa using e) (by simpa using c)
theorem jl.left {P:α->Prop} (n:∀a b,C a b->P a):∀{e:List α} {vs:List β},jl C e vs->∀a∈e,P a
 |[],[],_,a,c=>by cases c
 |_::_,_::_,h,a,c=>by
  rcases ug.1 c with rfl|c
  ·exact n _ _ h.1
  ·exact jl.left n h.2 a c
 |[],_::_,h,_,_=>h.elim
 |_::_,[],h,_,_=>h.elim
end
def xH {α:Type} (b T sz:Nat) (C:List AB->α->Prop) (w:AA) (v:AB) (l:List α):Prop:=∃css:List (List AB),Own b T sz w v css.flatten/\jl C css l
def yj (w:AA) (cs:List AB) (s:Sig):Prop:=∃av sv,cs=[.bool s.iter,av,.string (qb s.result),sv]/\Own 0 9 1 w av (s.args.map qi)/\Own 0 9 1 w sv (s.signals.map qi)
def vm (w:AA) (cs:List AB) (n:Need):Prop:=∃c,cs=.string (qb n.op)::c/\yj w c n.sig
def yQ (w:AA) (cs:List AB) (o:Opn):Prop:=∃c,cs=.string (qb o.name)::c/\yj w c o.sig
def ka (q:Nat->Prop) (w:AA) (v:AB) (l:List Nd):Prop:=∃xs:List NV,xs.map (·.nd)=l/\Own 0 44 6 w v (jY xs)/\∀x∈xs,Own 0 3 1 w x.kv (x.nd.kids.map encI)/\∀k,x.kv.ownBlock=some k->q k
def qbH (N:AB->List Nd->Prop) (w:AA) (cs:List AB) (r:Rout):Prop:=∃c pv ndv,cs=.string (qb r.name)::(c++[pv,ndv])/\yj w c r.sig/\Own 0 9 1 w pv (r.params.map qi)/\N ndv r.nodes
def kI (N:AB->List Nd->Prop) (w:AA) (cs:List AB) (m:Mod):Prop:=∃needv opv rv,cs=[.string (qb m.face.name),.int .u8 (m.face.kind:Int),.bool m.face.param,needv,opv,.string (qb m.rep),rv]/\
 xH 0 132 5 (vm w) w needv m.face.needs/\xH 0 135 5 (yQ w) w opv m.face.ops/\xH 0 82 7 (qbH N w) w rv m.routs
section
variable {p:Nat->TypeId->Prop} {w w':AA} {cs:List AB} {v:AB}
theorem xH.at' {α:Type} {b T sz:Nat} {C C':List AB->α->Prop} {l:List α} (h:xH b T sz C w v l) (u:qj p w w') (e:∀k,v.ownBlock=some k->p k T) (s:∀c a,C c a->C' c a):xH b T sz C' w' v l:=by
 obtain ⟨css,o,n⟩:=h;exact ⟨css,o.at' u e,n.imp s⟩
theorem yj.at' {s:Sig} (h:yj w cs s) (c:qj p w w') (b:∀k,p k 9):yj w' cs s:=by
 obtain ⟨av,sv,o,e,n⟩:=h;exact ⟨av,sv,o,e.at' c fun k _=>b k,n.at' c fun k _=>b k⟩
theorem vm.at' {s:Need} (h:vm w cs s) (o:qj p w w') (b:∀k,p k 9):vm w' cs s:=by
 obtain ⟨c,n,e⟩:=h;exact ⟨c,n,e.at' o b⟩
theorem yQ.at' {s:Opn} (h:yQ w cs s) (o:qj p w w') (b:∀k,p k 9):yQ w' cs s:=by
 obtain ⟨c,n,e⟩:=h;exact ⟨c,n,e.at' o b⟩
theorem ka.at2 {q:Nat->Prop} {l:List Nd} (h:ka q w v l) (n:qj p w w') (o:∀k,q k->p k 3) (b:∀k,v.ownBlock=some k->p k 44):ka q w' v l:=by
 obtain ⟨xs,u,s,c⟩:=h;exact ⟨xs,u,s.at' n b,fun x e=>⟨(c x e).1.at' n fun k y=>o k ((c x e).2 k y),(c x e).2⟩⟩
theorem ka.at' {q:Nat->Prop} {l:List Nd} (h:ka q w v l) (e:qj p w w') (c:∀k,p k 3) (b:∀k,v.ownBlock=some k->p k 44):ka q w' v l:=h.at2 e (fun k _=>c k) b
theorem ka.mono {q q':Nat->Prop} {l:List Nd} (h:ka q w v l) (n:∀k,k<w.heap.size->q k->q' k):ka q' w v l:=by
 obtain ⟨xs,s,o,b⟩:=h;exact ⟨xs,s,o,fun x c=>⟨(b x c).1,fun k e=>n k ((b x c).1.blk k e).2 ((b x c).2 k e)⟩⟩
theorem qbH.at' {N N':AB->List Nd->Prop} {r:Rout} (h:qbH N w cs r) (n:qj p w w') (e:∀k,p k 9) (u:∀v l,N v l->N' v l):qbH N' w' cs r:=by
 obtain ⟨c,pv,b,y,s,o,z⟩:=h;exact ⟨c,pv,b,y,s.at' n e,o.at' n fun k _=>e k,u _ _ z⟩
end
section
variable {base B X:Nat} {w w1 w2:AA} {tv nv nv1 nv2:AB} {L:List Tok} {i f j g:Nat} {xs ys zs:List NV}
theorem Cu.putV (h:Cu base B w tv nv L xs w1 nv1 i f ys) {cs:Array AB} {T:TypeId} (e:Blk w1 X cs T) (y:T≠44) (u:T≠85) (s:T≠3) (E:T≠53) (o:w.heap.size<=X) (c:Only X w1 w2):Cu base B w tv nv L xs w2 nv1 i f ys:=by
 have b:=h.tn;have H:=b.size;refine ⟨h.st.only (cs:=cs) (T:=T) c (fun _=>e.heap) y u s E,⟨b.below.trans (kq c (Nat.le_trans h.b0 o)),fun k F z n=>?_,b.row,b.gr⟩,h.fr,h.b0⟩;rw [c.block k (by omega)];exact b.block k F z n
theorem Cu.grownV (h:Cu base B w tv nv L xs w1 nv1 i f ys) {c:AB} {e sz b:Nat} {cs:List AB} (o:Own b e sz w1 c cs) (n:w1.grownBy w2 c.ownBlock) (E:jF c (xs++ys)) (y:e≠44) (u:e≠85) (s:e≠53) (z:∀k,c.ownBlock=some k->w.heap.size<=k):Cu base B w tv nv L xs w2 nv1 i f ys:=
 ⟨h.st.grown o n E y u s,h.tn.grown n z h.b0,h.fr,h.b0⟩
theorem PSt.sep (h:PSt base B w1 tv nv1 L i f xs) {c:AB} {e sz b:Nat} {cs:List AB} (s:Own b e sz w1 c cs) (u:e≠3):jF c xs:=fun x E k F z=>by
 obtain ⟨cur,y⟩:=Own.row (h.kid x E) F;obtain ⟨o,n⟩:=Own.row s z;rw [y] at n;cases n;exact u rfl
theorem Cu.nvSame (h:Cu base B w tv nv L xs w1 nv1 i f []) (c:qm nv=xs.length):nv1=nv:=by
 rcases h.tn.gr with e|e
 ·exact e
 ·have b:=h.st.nvLen;rw [ua] at b;omega
end
@[simp] theorem qNZ:qk Tryz.prog 119=true:=by kernel_rfl
@[simp] theorem qNX:qk Tryz.prog 121=true:=by kernel_rfl
@[simp] theorem qNv:qk Tryz.prog 205=true:=by kernel_rfl
@[simp] theorem qNu:qk Tryz.prog 206=true:=by kernel_rfl
@[simp] theorem qNt:qk Tryz.prog 207=true:=by kernel_rfl
@[simp] theorem qNW:qk Tryz.prog 122=true:=by kernel_rfl
@[simp] theorem qNV:qk Tryz.prog 123=true:=by kernel_rfl
@[simp] theorem qNU:qk Tryz.prog 124=true:=by kernel_rfl
@[simp] theorem qNT:qk Tryz.prog 125=true:=by kernel_rfl
@[simp] theorem qN0:qk Tryz.prog 118=true:=by kernel_rfl
@[simp] theorem qMH:qk Tryz.prog 56=true:=by kernel_rfl
@[simp] theorem qNq:qk Tryz.prog 210=true:=by kernel_rfl
def qih {L:List Tok}:Mt aB L 119 me (wl L):=by
 intro base B w tv nv i f xs S hn n;generalize H:wl L i f=r at n;refine qHq fun ρ r0=>?_;simp [quT,r0];refine jV (s:=[105,116,101,114]) (Cu.start S) H (fun w1 u b z e=>?_) (fun w1 u b z e=>?_)
 ·simp;rw [<-e];exact ⟨_,nv,[],rfl,by simpa using b.st,rfl,by simp,b.tn,rfl⟩
 ·simp [quS,r0];refine jq b [112,114,111,99] fun Z w2 R y o=>?_;simp;refine jz (A':=aB) y o (by simp) e n (fun c w' J=>by simpa using J) ?_;intro V g3 nv3 U F h I E;simp;rw [<-E];exact ⟨_,nv3,[],rfl,by simpa using h.st,rfl,by simp,h.tn,rfl⟩
theorem qoq {L:List Tok}:Mt aB L 121 me (params L):=by
 intro base B w tv nv i f xs hS hn h;generalize U:params L i f=r at h;refine qHm fun ρ r0=>?_;simp [quP,r0];refine jV (s:=[91]) (Cu.start hS) U (fun w1 z b J e=>?_) (fun w1 z b J e=>?_)
 ·simp [quO,r0];refine wT (A:=aU) (A':=aB) (fun _ _=>rfl) (fun _=>qii b.st) b e h (fun c w' u=>by simpa using u) ?_;intro _ j2 g2 v2 nv2 w2 _ H V S F;simp [r0];refine jq H [93] fun v3 w3 hE3 o E=>?_;simp;refine jz (A':=aB) o E (by simp) F h (fun c w' u=>by simpa using u) ?_;intro j4 g4 I w4 R n Z y;simp;rw [<-y];exact ⟨_,I,[],rfl,by simpa using n.st,rfl,by simp,n.tn,rfl⟩
 ·simp;rw [<-e];exact ⟨_,nv,[],rfl,by simpa using b.st,rfl,by simp,b.tn,rfl⟩
def PRx {β:Type} (base B:Nat) (tv nv:AB) (L:List Tok) (xs:List NV) (w:AA) (V:β->Nat->Nat->AB->AA->Prop):Rs β->Ending->AA->Prop
 | .oof,_,_=>False
 | .ok a j g,e,w'=>∃v,e=.returned v/\V a j g v w'
 | .no g,e,w'=>∃j nv' ys,e=.panicked yr/\PSt base B w' tv nv' L j g (xs++ys)/\Tn base B nv nv' w w'
def aX {β:Type}:Ans β:=⟨fun _ _=>[],fun _ _ _ _ _=>True⟩
section
variable {α β:Type} {A':Ans β} {L:List Tok} {m:M α} {k:α->M β} {r:Rs β} {base B X:Nat} {w w1:AA} {tv nv nv1:AB} {i f:Nat} {xs ys:List NV} {K:qa->AA->Prop} {Q:Ks} {ρ:qa} {d:Option Nat}
theorem PR.toX {V:β->Nat->Nat->AB->AA->Prop} {c:List PanicEntry} (h:PR A' base B tv nv L xs w r (.panicked c) w1):PRx base B tv nv L xs w V r (.panicked c) w1:=by
 cases r with
 |oof=>exact h
 |ok a j g=>obtain ⟨v,_,_,b,_⟩:=h;cases b
 |no g=>exact h
theorem qbY {V:α->Nat->Nat->AB->AA->Prop} {F:FuncId} {args:Array AB} (H:m i f≠ .oof->Calls Tryz.prog F args w1 (PRx base B tv nv L xs w V (m i f))) (s:bnd m k i f=r) (E:r≠ .oof)
  (hpn:∀c w',PR A' base B tv nv L xs w r (.panicked c) w'->Q.pn ρ c w') (h:∀a j g v w2,m i f=.ok a j g->V a j g v w2->k a j g=r->K (qp ρ d v) w2):Calls Tryz.prog F args w1 (vL Q d K ρ):=by
 have n:m i f≠ .oof:=fun e=>E (by rw [<-s,vc e]);refine (H n).mono ?_;intro e w2 o;cases b:m i f with
 |oof=>exact absurd b n
 |no g=>
  rw [b] at o;obtain ⟨j,nv2,zs,rfl,y,u⟩:=o;rw [qkX];refine hpn _ _ ?_;rw [<-s,jT b];exact ⟨j,nv2,zs,rfl,y,u⟩
 |ok a j g=>
  rw [b] at o;obtain ⟨v,rfl,z⟩:=o;rw [qcC];exact h a j g v w2 b z (by rw [<-s,jS b])
end
def qvi {L:List Tok} (B:Nat):FnM pS.ans none B L (.func (.func 120) #[.pointer (some ⟨B,0,none⟩)] #[]) (name L):=
 ⟨120,_,_,rfl,by kernel_rfl,fun base w tv nv i f xs c _ e b=>x4 c⟩
def qHK {L:List Tok} (e:jJ L) (n:Nat) (B:Nat):FnM pS.ans none B L (.func (.func 202) #[.pointer (some ⟨B,0,none⟩)] #[]) (vN L n):=
 ⟨202,_,_,rfl,by kernel_rfl,fun base w tv nv i f xs h _ c b=>QQ e n base B w tv nv i f xs h c b⟩
def qkm:∀(b:Nat) (l:List Bs),pS.evL b l=l.map qi
 |_,[]=>rfl
 |b,s::l=>by
  simp only [Pu.evL,List.map_cons,qkm _ l];rfl
def qou {L:List Tok} {m:M Bs} {E:AB} {base B:Nat} {w:AA} {tv nv:AB} {i f:Nat} {xs:List NV} (H:FnM pS.ans none B L E m) (F:Up m) (n:Nat) (h:PSt base B w tv nv L i f xs) (S:xs.length<=2*i+2) (c:listed L n m i f≠ .oof):
  Calls Tryz.prog 154 #[.pointer (some ⟨B,0,none⟩),E] w (PR aSs base B tv nv L xs w (listed L n m i f)):=by
 refine (qeZ H F (qcZ F) qe0 n h (fun b h=>by cases h) S c).mono ?_;intro e w' o;cases z:listed L n m i f with
 |oof=>exact absurd z c
 |no g=>rw [z] at o;exact o
 |ok l j g=>
  rw [z] at o;obtain ⟨v,s,ys,U,R,u,J,V,y⟩:=o;change ys.map (·.nd)=pS.nodesL _ _ at u;have I:pS.nodesL xs.length l=[]:=qdE xs.length l;rw [I] at u;change Own _ _ _ _ _ _ at y;rw [qkm] at y;exact ⟨v,s,ys,U,R,u,J,V,y⟩
def qA9 {L:List Tok} {m:M Bs} {E:AB} {base B:Nat} {w:AA} {tv nv:AB} {i f:Nat} {xs:List NV} (H:FnM pS.ans none B L E m) (F:Up m) (n:Nat) (h:PSt base B w tv nv L i f xs) (S:xs.length<=2*i+2) (c:vh L n m i f≠ .oof):
  Calls Tryz.prog 208 #[.pointer (some ⟨B,0,none⟩),E] w (PR aSs base B tv nv L xs w (vh L n m i f)):=by
 refine (qBQ H F (qcZ F) qe0 n h (fun b h=>by cases h) S c).mono ?_;intro e w' o;cases z:vh L n m i f with
 |oof=>exact absurd z c
 |no g=>rw [z] at o;exact o
 |ok l j g=>
  rw [z] at o;obtain ⟨v,s,ys,U,R,u,J,V,y⟩:=o;change ys.map (·.nd)=pS.nodesL _ _ at u;have I:pS.nodesL xs.length l=[]:=qdE xs.length l;rw [I] at u;change Own _ _ _ _ _ _ at y;rw [qkm] at y;exact ⟨v,s,ys,U,R,u,J,V,y⟩
def qP (a:AB) (it:Bool) (av:AB) (s:Bs) (sv:AB) (rest:List AB):Array AB:=(a:: .bool it::av:: .string (qb s)::sv::rest).toArray
def QO {W:AA} {X:Nat} {a av sv:AB} {it:Bool} {s:Bs} {rest:List AB} {T:TypeId} (h:Blk W X (qP a it av s sv rest) T):
  W.cell? ⟨X,0,none⟩=some a/\W.cell? ⟨X,1,none⟩=some (.bool it)/\W.cell? ⟨X,2,none⟩=some av/\W.cell? ⟨X,3,none⟩=some (.string (qb s))/\W.cell? ⟨X,4,none⟩=some sv:=
 ⟨by rw [h.cell];rfl,by rw [h.cell];rfl,by rw [h.cell];rfl,by rw [h.cell];rfl,by rw [h.cell];rfl⟩
def qzb {W:AA} {X:Nat} {a av sv x:AB} {it:Bool} {s:Bs} {rest:List AB} {T:TypeId} (h:Blk W X (qP a it av s sv (x::rest)) T):W.cell? ⟨X,5,none⟩=some x:=by rw [h.cell];rfl
theorem qbU:jh Tryz.prog 51 1=true:=by kernel_rfl
def QN (X:Nat):Nat->TypeId->Prop:=fun k T=>T≠85/\T≠44/\k≠X
def Cu.sm {base B X:Nat} {w w1 w2:AA} {tv nv nv1 nv2:AB} {L:List Tok} {i f:Nat} {xs ys:List NV} (h:Cu base B w tv nv L xs w1 nv1 i f ys) (b:Tn base B nv1 nv2 w1 w2):qj (QN X) w1 w2:=(h.st.sameT b).mono fun _ _ h=>⟨h.1,.inl h.2.1⟩
def smO {X:Nat} {w w':AA} {cs:Array AB} {T:TypeId} (h:Only X w w') (b:Blk w X cs T):qj (QN X) w w':=(qj.only h b).mono fun _ _ h=> .inl h.2.2
theorem qoH {L:List Tok} (hL:jJ L) (n:Nat) {T:TypeId} (H:T≠44) (I:T≠85) (t3:T≠3) (t4:T≠53) {base B X:Nat} {w w1:AA} {tv nv nv1 a av:AB} {it:Bool} {rest:List AB} {i f:Nat} {xs:List NV}
  (hC:Cu base B w tv nv L xs w1 nv1 i f []) (hX:Blk w1 X (qP a it av [] (.slice none 0 0) rest) T) (hXw:w.heap.size<=X) (hn:xs.length<=2*i+2) (z:xG L n it i f≠ .oof):
  Calls Tryz.prog 205 #[.pointer (some ⟨B,0,none⟩),.pointer (some ⟨X,1,none⟩)] w1 (PRx base B tv nv L xs w (fun b j g v w'=>v=.tuple #[]/\∃nv2 sv,Cu base B w tv nv L xs w' nv2 j g []/\Blk w' X (qP a it av b.1 sv rest) T/\Own w.heap.size 9 1 w' sv (b.2.map qi)/\qj (QN X) w1 w') (xG L n it i f)):=by
 generalize hr:xG L n it i f=r at z;refine qF6 fun ρ r0 r1=>?_;obtain ⟨c0,c1,c2,c3,c4⟩:=QO hX;generalize hV:(fun (b:Bs×List Bs) (j g:Nat) (v:AB) (w':AA)=>v=Value.tuple #[]/\∃nv2 sv,Cu base B w tv nv L xs w' nv2 j g []/\Blk w' X (qP a it av b.1 sv rest) T/\Own w.heap.size 9 1 w' sv (b.2.map qi)/\qj (QN X) w1 w')=V;have go:∀(ρ3:qa) (w3:AA) (nv3:AB) (j g:Nat) (t:Bs),ρ3 0=.pointer (some ⟨B,0,none⟩)->ρ3 1=.pointer (some ⟨X,1,none⟩)->Cu base B w tv nv L xs w3 nv3 j g []->Blk w3 X (qP a it av t (.slice none 0 0) rest) T->qj (QN X) w1 w3->i<=j->bnd (signals L n) (fun l=>ret (t,l)) j g=r->
   qjz.wp ⟨Tryz.prog,40,qs8,[]⟩ (qz [] (PRx base B tv nv L xs w V r)) (qM [] (PRx base B tv nv L xs w V r)) ρ3 w3:=by
  intro ρ3 w3 nv3 j g t r0 r1 u hX3 hs3 hij hr3;have hr3':qt L [115,105,103,110,97,108,115] (bnd (needs L [[40]]) fun _=>bnd (listed L n (name L)) fun l=>bnd (needs L [[41]]) fun _=>ret (t,l)) (ret (t,[])) j g=r:=by
   rw [<-hr3];show _=bnd (qt L _ (bnd (needs L [[40]]) fun _=>bnd (listed L n (name L)) fun l=>bnd (needs L [[41]]) fun _=>ret l) (ret [])) _ j g;simp only [qeu,kU,yh]
  simp [qjz,r0];refine jV (s:=[115,105,103,110,97,108,115]) u hr3' (fun w4 hc4 y e E=>?_) (fun w4 hc4 y e E=>?_)
  ·have h:=u.st.var e hX3 H I;simp [r0,r1];refine jq y [40] fun v5 w5 hE5 hC5 hv5=>?_;simp;refine jz (A':=aX) hC5 hv5 (by simp) E z (fun c w' hp=>by simpa using PR.toX hp) ?_;intro j6 g6 nv6 w6 hne6 Z hT6 hr6;have hX6:=hC5.st.var hT6 (h.ext hE5) H I;have hj6:=(jP _ _ _ _ _ hne6).1;simp [r0,r1];refine wT (A:=aSs) (A':=aX) (fun _ _=>rfl) (fun ho=>qou (qvi B) jm n Z.st (by simp;omega) ho) Z hr6 z (fun c w' hp=>by simpa using PR.toX hp) ?_;intro l j7 g7 v7 nv7 w7 hl7 hC7 hT7 U hr7;change Own _ _ _ _ _ _ at U;have hX7:=Z.st.var hT7 hX6 H I;simp [r1];refine qD (B:=X) (i:=4) (by simp [r1]) hX7 (by simp [qP]) (by simpa using qn U.isl) (by simpa using jf U.isl) qbU fun w8 hO8 hb8=>?_;have hb9:Blk w8 X (qP a it av t v7 rest) T:=by simpa [qP] using hb8
   have hC8:=hC7.putV hX7 H I t3 t4 hXw hO8;have hv8:Own w.heap.size 9 1 w8 v7 (l.map qi):=by
    refine Own.down (b:=w6.heap.size) ?_ Z.size;refine Own.same U fun k hk=>hO8.block k ?_;rintro rfl;have h1:=(U.blk k hk).1;have h2:=hX6.lt;omega
   simp [r0];refine jq hC8 [41] fun v10 w10 R F hv10=>?_;simp;refine jz (A':=aX) F hv10 (by simp) hr7 z (fun c w' hp=>by simpa using PR.toX hp) ?_;intro j11 g11 nv11 w11 hne11 hC11 hT11 hr11;simp;rw [<-hr11,<-hV];exact ⟨_,rfl,rfl,nv11,v7,hC11,F.st.var hT11 (hb9.ext R) H I,F.keep hT11 (hv8.ext R) (by decide) (by decide),
    (((((((hs3.trans (u.sm e)).trans (qj.ext hE5)).trans (hC5.sm hT6)).trans (Z.sm hT7)).trans (smO hO8 hX7)).trans (qj.ext R)).trans (F.sm hT11))⟩
  ·have h:=u.st.var e hX3 H I;simp;rw [<-E,<-hV];exact ⟨_,rfl,rfl,nv3,_,y,h,Own.nil _ _ _ _,hs3.trans (u.sm e)⟩
 unfold xG at hr;cases it with
 |true=>
  simp only [wh] at hr;simp [qjA,r0,r1,c1];refine jq hC [121,105,101,108,100,115] fun v2 w2 hE2 o hv2=>?_;simp;refine jz (A':=aX) o hv2 (by simp) hr z (fun c w' hp=>by simpa using PR.toX hp) ?_;intro j3 g3 nv3 w3 hne3 u hT3 hr3;have hX3:=o.st.var hT3 (hX.ext hE2) H I;have hj3:=(jP _ _ _ _ _ hne3).1;simp [r0,r1];refine vz (A:=aS) (A':=aX) (fun _ _=>rfl) (QQ hL n) u (by simp;omega) hr3 z (fun c w' hp=>by simpa using PR.toX hp) ?_;intro t j4 g4 v4 nv4 w4 ht4 y e S E;change v4=_ at S;subst S;have h:=u.st.var e hX3 H I;have hj4:=((vi n).ok ht4).1;simp [r1];refine qD (B:=X) (i:=3) (by simp [r1]) h (by simp [qP]) (by simp [Value.cells]) (by simp) kL fun w5 hO5 hb5=>?_;have hb6:Blk w5 X (qP a true av t (.slice none 0 0) rest) T:=by simpa [qP] using hb5
  exact go _ w5 nv4 j4 g4 t (by simp [r0]) (by simp [r1]) (y.putV h H I t3 t4 hXw hO5) hb6 ((((qj.ext hE2).trans (o.sm hT3)).trans (u.sm e)).trans (smO hO5 h)) (by omega) E
 |false=>
  simp only [uk,ud] at hr;simp [qjA,r0,r1,c1];refine jV (s:=[114,101,116,117,114,110,115]) hC hr (fun w2 hc2 o J hr2=>?_) (fun w2 hc2 o J hr2=>?_)
  ·have hX2:=hC.st.var J hX H I;simp [r0,r1];refine vz (A:=aS) (A':=aX) (fun _ _=>rfl) (QQ hL n) o (by simp;omega) hr2 z (fun c w' hp=>by simpa using PR.toX hp) ?_;intro t j4 g4 v4 nv4 w4 ht4 y e S E;change v4=_ at S;subst S;have h:=o.st.var e hX2 H I;have hj4:=((vi n).ok ht4).1;simp [r1];refine qD (B:=X) (i:=3) (by simp [r1]) h (by simp [qP]) (by simp [Value.cells]) (by simp) kL fun w5 hO5 hb5=>?_;have hb6:Blk w5 X (qP a false av t (.slice none 0 0) rest) T:=by simpa [qP] using hb5
   exact go _ w5 nv4 j4 g4 t (by simp [r0]) (by simp [r1]) (y.putV h H I t3 t4 hXw hO5) hb6 (((hC.sm J).trans (o.sm e)).trans (smO hO5 h)) (by omega) E
  ·simp;exact go _ w2 nv1 i f [] (by simp [r0]) (by simp [r1]) o (hC.st.var J hX H I) (hC.sm J) (kh _) hr2
def pD:Pu (Bs×Bs):=⟨fun _ _=>[],fun _ x=> .agg #[.string (qb x.1),.string (qb x.2)],fun _=>0,fun _ _=>rfl⟩
def qB5 (b:Nat) (s:Bs×Bs):(pD.ev b s).cells.size=2/\∀u∈(pD.ev b s).cells.toList,u.oneCell'=true:=⟨by simp [pD,Value.cells],by simp [pD,Value.cells,Value.oneCell']⟩
def qo3:∀(b:Nat) (l:List (Bs×Bs)),(pD.ansL 222 2).nodes b l=[]
 |_,[]=>rfl
 |b,_::l=>qo3 b l
def yE (l:List (Bs×Bs)):List AB:=l.flatMap fun x=>[.string (qb x.1),.string (qb x.2)]
def qvy:∀(b:Nat) (l:List (Bs×Bs)),pD.evL b l=yE l
 |_,[]=>rfl
 |b,s::l=>by
  simp only [Pu.evL,qvy _ l];rfl
theorem qgJ:jU Tryz.prog 222=some #[.string ⟨#[]⟩,.string ⟨#[]⟩]:=by kernel_rfl
theorem qJH (s:Bs):Tryz.prog.built 222 [(0,.string (qb s))]=some #[.string (qb s),.string (qb [])]:=by kernel_rfl
theorem qB2 {L:List Tok} (hL:jJ L) (n:Nat) {base B P:Nat} {w:AA} {tv nv:AB} {i f:Nat} {xs:List NV} (hS:PSt base B w tv nv L i f xs) (hP:Blk w P #[.pointer (some ⟨B,0,none⟩)] 83) (hn:xs.length<=2*i+2) (e:x7 L n i f≠ .oof):
  Calls Tryz.prog 204 #[.pointer (some ⟨P,0,none⟩)] w (PR pD.ans base B tv nv L xs w (x7 L n i f)):=by
 generalize hr:x7 L n i f=r at e;have cP:∀{W:AA},Blk W P #[.pointer (some ⟨B,0,none⟩)] 83->W.cell? ⟨P,0,none⟩=some (.pointer (some ⟨B,0,none⟩)):=fun h=>by rw [h.cell];rfl
 refine qF7 fun ρ r0=>?_;simp [qs9];refine qQ qgJ fun Y W1 hY S hbY _=>?_;have H:=(Cu.start hS).ext S;have ac:=hP.ext S;simp [r0,cP ac];refine vz (A:=aS) (A':=pD.ans) (fun _ _=>rfl) (F:=120) (fun _ _ _ _ _ _ _ _ h _ _=>x4 h) H (by simpa using hn) hr e (fun c w' hp=>by simpa using hp) ?_;intro s j g v nv2 w2 hna hC2 V hv hr2;change v=_ at hv;subst hv;have hj:=(kF _ _ _ _ _ hna).1;have hP2:=H.st.var V ac (by decide) (by decide);have hY2:=H.st.var V hbY (by decide) (by decide);simp;rw [qJH];dsimp only [qT];refine vR qgJ (by simp) (by simp [Value.cells]) (by simp [Value.cells]) (by kernel_rfl) fun X w3 hX y Z _=>?_;simp [Value.cells] at Z;have hC3:=hC2.ext y;have ab:=hP2.ext y;have hY3:=hY2.ext y;have hXw:w.heap.size<=X:=Nat.le_trans hC2.size hX;have hXY:Y≠X:=by have:=hY2.lt;omega
 simp [r0,cP ab];refine jq hC3 [58] fun v4 w4 z b hv4=>?_;have ad:=ab.ext z;simp [cP ad];refine jz (A':=pD.ans) b hv4 (by simp) hr2 e (fun c w' hp=>by simpa using hp) ?_;intro j5 g5 nv5 w5 R u I hr5;have hj5:=(jP _ _ _ _ _ R).1;have hP5:=b.st.var I ad (by decide) (by decide);have hX5:=b.st.var I (Z.ext z) (by decide) (by decide);have hY5:=b.st.var I (hY3.ext z) (by decide) (by decide);simp [r0,cP hP5];refine vz (A:=aS) (A':=pD.ans) (fun _ _=>rfl) (QQ hL n) u (by simp;omega) hr5 e (fun c w' hp=>by simpa using hp) ?_;intro ty j6 g6 v6 nv6 w6 hty hC6 J ah hr6;change v6=_ at ah;subst ah;have af:=u.st.var J hX5 (by decide) (by decide);have hY6:=u.st.var J hY5 (by decide) (by decide);simp;refine qD (B:=X) (i:=1) (by simp) af (by simp) (by simp [Value.cells]) (by simp) kL fun w7 ae U=>?_;simp at U;have hC7:=hC6.putV af (by decide) (by decide) (by decide) (by decide) hXw ae;have aa:=ae.blk hY6 hXY;have o:=xc U;simp at o;simp [o];refine jg (B:=Y) (by simp) aa (by simp [Value.cells]) (by simp [Value.cells]) (by kernel_rfl) fun w8 hO8 ag=>?_;simp [Value.cells] at ag;have E:=hC7.putV aa (by decide) (by decide) (by decide) (by decide) hY hO8;simp;refine qY (by simp) ag (by simp) ?_;rw [<-hr6];exact ⟨_,nv6,[],rfl,E.st,rfl,E.fr,E.tn,rfl⟩
def qHN {L:List Tok} (h:jJ L) (n:Nat) (B P:Nat):FnM pD.ans (some P) B L (.func (.func 204) #[] #[.pointer (some ⟨P,0,none⟩)]) (x7 L n):=
 ⟨204,_,_,rfl,by kernel_rfl,fun base w tv nv i f xs o c e b=>qB2 h n o (c P rfl) e b⟩
def QY {v:AB} (h:qA v=true):v.oneCell'=true:=by
 revert h;cases v<;>simp [qA,Value.oneCell']
def aNd:Ans Need:=⟨fun _ _=>[],fun _ w' _ x v=>∃cs:List AB,v=.agg cs.toArray/\vm w' cs x/\cs.length=5⟩
theorem qgK:jU Tryz.prog 132=some #[.string ⟨#[]⟩,.bool false,.slice none 0 0,.string ⟨#[]⟩,.slice none 0 0]:=by kernel_rfl
theorem qJN (s:Bs):Tryz.prog.built 132 [(0,.string (qb s))]=some (qP (.string (qb s)) false (.slice none 0 0) [] (.slice none 0 0) []):=by kernel_rfl
theorem qoP {L:List Tok} (hL:jJ L) (n:Nat) {base B P:Nat} {w:AA} {tv nv:AB} {i f:Nat} {xs:List NV} (hS:PSt base B w tv nv L i f xs) (hP:Blk w P #[.pointer (some ⟨B,0,none⟩)] 83) (hn:xs.length<=2*i+2) (y:zC L n i f≠ .oof):
  Calls Tryz.prog 207 #[.pointer (some ⟨P,0,none⟩)] w (PR aNd base B tv nv L xs w (zC L n i f)):=by
 generalize hr:zC L n i f=r at y;have cP:∀{W:AA},Blk W P #[.pointer (some ⟨B,0,none⟩)] 83->W.cell? ⟨P,0,none⟩=some (.pointer (some ⟨B,0,none⟩)):=fun h=>by rw [h.cell];rfl
 refine qF2 fun ρ r0=>?_;simp [qs3];refine qQ qgK fun Y W1 hY hE1 hbY _=>?_;have ai:=(Cu.start hS).ext hE1;have hP1:=hP.ext hE1;simp [r0,cP hP1];refine vz (A:=aS) (A':=aNd) (fun _ _=>rfl) (F:=120) (fun _ _ _ _ _ _ _ _ h _ _=>x4 h) ai (by simpa using hn) hr y (fun c w' U=>by simpa using U) ?_;intro s j g v nv2 w2 hna hC2 hT2 hv hr2;change v=_ at hv;subst hv;have hj:=(kF _ _ _ _ _ hna).1;have hP2:=ai.st.var hT2 hP1 (by decide) (by decide);have hY2:=ai.st.var hT2 hbY (by decide) (by decide);simp;rw [qJN];dsimp only [qT];refine vR qgK (by simp) (by simp [Value.cells,qP]) (by simp [Value.cells,qP]) (by kernel_rfl) fun X w3 hX ab hb3 _=>?_;simp [Value.cells] at hb3;have hC3:=hC2.ext ab;have hP3:=hP2.ext ab;have hY3:=hY2.ext ab;have ag:w.heap.size<=X:=Nat.le_trans hC2.size hX;have ah:Y≠X:=by have:=hY2.lt;omega
 simp [r0,cP hP3];refine jq hC3 [58] fun v4 w4 ae J hv4=>?_;have hP4:=hP3.ext ae;simp [cP hP4];refine jz (A':=aNd) J hv4 (by simp) hr2 y (fun c w' U=>by simpa using U) ?_;intro j5 g5 nv5 w5 hne5 I aj hr5;have hj5:=(jP _ _ _ _ _ hne5).1;have hP5:=J.st.var aj hP4 (by decide) (by decide);have hX5:=J.st.var aj (hb3.ext ae) (by decide) (by decide);have hY5:=J.st.var aj (hY3.ext ae) (by decide) (by decide);simp [r0,cP hP5];refine vz (A:=aB) (A':=aNd) (fun _ _=>rfl) qih I (by simp;omega) hr5 y (fun c w' U=>by simpa using U) ?_;intro it j6 g6 v6 nv6 w6 hit hC6 aa hv6 hr6;change v6=_ at hv6;subst hv6;have hj6:=(QC.ok hit).1;have hP6:=I.st.var aa hP5 (by decide) (by decide);have hX6:=I.st.var aa hX5 (by decide) (by decide);have hY6:=I.st.var aa hY5 (by decide) (by decide);simp;refine qD (B:=X) (i:=1) (by simp) hX6 (by simp [qP]) (by simp [Value.cells]) (by simp) sz4 fun w7 af hb7=>?_;have hX7:Blk w7 X (qP (.string (qb s)) it (.slice none 0 0) [] (.slice none 0 0) []) 132:=by simpa [qP] using hb7
 have u:=hC6.putV hX6 (by decide) (by decide) (by decide) (by decide) ag af;have hXP:P≠X:=by have:=hP.lt;omega
 have hP7:=af.blk hP6 hXP;have hY7:=af.blk hY6 ah;simp [r0,cP hP7];refine wT (A:=aSs) (A':=aNd) (fun _ _=>rfl) (fun ho=>qA9 (qHK hL n B) (vi n) n u.st (by simp;omega) ho) u hr6 y (fun c w' U=>by simpa using U) ?_;intro l j8 g8 v8 nv8 w8 hl8 hC8 ac S hr8;change Own _ _ _ _ _ _ at S;have hj8:=((wP (vi n) n).ok hl8).1;have hP8:=u.st.var ac hP7 (by decide) (by decide);have ad:=u.st.var ac hX7 (by decide) (by decide);have hY8:=u.st.var ac hY7 (by decide) (by decide);simp;refine qD (B:=X) (i:=2) (by simp) ad (by simp [qP]) (by simpa using qn S.isl) (by simpa using jf S.isl) qbU fun w9 R hb9=>?_;have hX9:Blk w9 X (qP (.string (qb s)) it v8 [] (.slice none 0 0) []) 132:=by simpa [qP] using hb9
 have hC9:=hC8.putV ad (by decide) (by decide) (by decide) (by decide) ag R;have hP9:=R.blk hP8 hXP;have hY9:=R.blk hY8 ah;have hv9:Own w.heap.size 9 1 w9 v8 (l.map qi):=Own.down (S.at' (qj.only R ad) fun k _=> .inr (by decide)) u.size;simp [r0,cP hP9];refine qbY (A':=aNd) (fun ho=>qoH hL n (by decide) (by decide) (by decide) (by decide) hC9 hX9 ag (by omega) ho) hr8 y (fun c w' U=>by simpa using U) ?_;rintro ⟨res,sl⟩ j10 g10 v10 w10 hb10 ⟨rfl,nv10,sv,hC10,hX10,o,hsm⟩ hr10;have b:=hv9.at' hsm fun k hk=>⟨by decide,by decide,fun e=>by
  obtain ⟨cur,hc⟩:=Own.row hv9 hk;rw [e,hX9.heap] at hc;cases hc⟩
 have H:=hY9.at' hsm ⟨by decide,by decide,ah⟩;have E:=xc hX10;simp [qP] at E;simp [E];refine jg (B:=Y) (by simp) H (by simp [Value.cells,qn b.isl,qn o.isl]) ?_ (by kernel_rfl) fun w11 V Z=>?_
 ·have h1:=QY b.isl;have h2:=QY o.isl;simp [Value.cells,qn b.isl,qn o.isl,jf b.isl,jf o.isl,h1,h2]
 simp [Value.cells,qn b.isl,qn o.isl] at Z;have z:=hC10.putV H (by decide) (by decide) (by decide) (by decide) hY V;simp;refine qY (by simp) Z (by simp) ?_;rw [<-hr10];have k9:∀{v:AB} {l:List Bs},Own w.heap.size 9 1 w10 v (l.map qi)->Own 0 9 1 w11 v (l.map qi):=fun h=>Own.down (h.at' (qj.only V H) fun k _=> .inr (by decide)) (uf _);exact ⟨_,nv10,[],rfl,z.st,rfl,z.fr,z.tn,_,rfl,⟨_,rfl,v8,sv,rfl,k9 b,k9 o⟩,rfl⟩
def qiY:IR:=.cond (zv 24) (zq [za 4 (zQ false)] <| .ret) .skip
def qqO:IR:=.reg [za 13 (zI .add (zv 13) (zK 1))]
def qqN:IR:=.seq (.block 1 (zq [zm 5 13] <| .seq (.drw [za 24 (zI .neq (zl (zx 1 (zv 0) (zv 5))) (zl (zx 1 (zv 1) (zv 5))))]) (qiY))) (qqO)
def qiX:IR:=zq [za 14 (zI .lss (zv 13) (zv 12))] <| .seq (.cond (zv 14) .skip (.exit 0)) (qqN)
def qqM:IR:=zq [za 4 (zQ true)] <| .ret
def qqL:IR:=zq [za 12 (zL (zv 0)),za 13 (zK 0)] <| .seq (.block 0 (.loop qiX)) (qqM)
def qqP:IR:=zq [za 4 (zQ false),za 10 (zI .neq (zL (zv 0)) (zL (zv 1)))] <| .seq (.cond (zv 10) (zq [za 4 (zQ false)] <| .ret) .skip) (qqL)
def qD3:List Nat:=[0,1,4,5,10,12,13,14,24]
def qD2:C2 50 26 qD3 qqP [.tmp 4]:=c2 [] Tryz.func50
def qiW:IR:=.cond (zv 24) (zq [za 4 (zQ false)] <| .ret) .skip
def qqJ:IR:=.reg [za 13 (zI .add (zv 13) (zK 1))]
def qqI:IR:=.seq (.block 1 (zq [zm 5 13] <| .seq (.drw [za 24 (zS .neq (zl (zx 1 (zv 0) (zv 5))) (zl (zx 1 (zv 1) (zv 5))))]) (qiW))) (qqJ)
def qiV:IR:=zq [za 14 (zI .lss (zv 13) (zv 12))] <| .seq (.cond (zv 14) .skip (.exit 0)) (qqI)
def qqH:IR:=zq [za 4 (zQ true)] <| .ret
def qqG:IR:=zq [za 12 (zL (zv 0)),za 13 (zK 0)] <| .seq (.block 0 (.loop qiV)) (qqH)
def qqK:IR:=zq [za 4 (zQ false),za 10 (zI .neq (zL (zv 0)) (zL (zv 1)))] <| .seq (.cond (zv 10) (zq [za 4 (zQ false)] <| .ret) .skip) (qqG)
def qD1:List Nat:=[0,1,4,5,10,12,13,14,24]
def qD0:C2 51 26 qD1 qqK [.tmp 4]:=c2 [] Tryz.func51
def qfO:IR:=zq [za 4 (zQ false),zm 5 0,zm 6 1,zc 7 229 #[zt 5,zt 6] #[51,9] 3,za 4 (zI .geq (zv 7) (zK 0))] <| .ret
def qjN:List Nat:=zV 8 [2,3]
def qtC:C2 160 9 qjN qfO [.tmp 4]:=c2 [] Tryz.func160
def qfG:IR:=.reg [za 8 (zI .add (zv 8) (zK 1))]
def qfF:IR:=.seq (.block 1 (zq [zm 5 8,za 16 (zS .eql (zv 1) (zl (zx 1 (zv 0) (zv 5))))] <| .cond (zv 16) (zq [zm 4 5] <| .ret) .skip)) (qfG)
def qdT:IR:=zq [za 9 (zI .lss (zv 8) (zv 7))] <| .seq (.cond (zv 9) .skip (.exit 0)) (qfF)
def qfE:IR:=zq [za 4 (.const (.int .i64 (-1)))] <| .ret
def qfH:IR:=zq [za 4 (zK 0),za 7 (zL (zv 0)),za 8 (zK 0)] <| .seq (.block 0 (.loop qdT)) (qfE)
def qjw:List Nat:=[0,1,4,5,7,8,9,16]
def qsC:C2 229 19 qjw qfH [.tmp 4]:=c2 [] Tryz.func229
def qpN:IR:=zq [za 4 (zQ false),zm 5 0,zm 6 1,zc 7 186 #[zt 5,zt 6] #[51,34] 3,za 4 (zI .geq (zv 7) (zK 0))] <| .ret
def qDm:List Nat:=zV 8 [2,3]
def qDl:C2 93 9 qDm qpN [.tmp 4]:=c2 [] Tryz.func93
def qtj:IR:=.reg [za 8 (zI .add (zv 8) (zK 1))]
def qti:IR:=.seq (.block 1 (zq [zm 5 8,zm 11 1,za 15 (zl (zx 1 (zv 0) (zv 5))),zE 16 (.call {callee:=.value (zt 11),args:=#[zt 15],argTypes:=#[9]}) 4] <| .cond (zv 16) (zq [zm 4 5] <| .ret) .skip)) (qtj)
def qjD:IR:=zq [za 9 (zI .lss (zv 8) (zv 7))] <| .seq (.cond (zv 9) .skip (.exit 0)) (qti)
def qth:IR:=zq [za 4 (.const (.int .i64 (-1)))] <| .ret
def qtk:IR:=zq [za 4 (zK 0),za 7 (zL (zv 0)),za 8 (zK 0)] <| .seq (.block 0 (.loop qjD)) (qth)
def qGg:List Nat:=zV 17 [2,3,6,10,12,13,14]
def qGf:C2 186 19 qGg qtk [.tmp 4]:=c2 [] Tryz.func186
def qsT:IR:=zq [zE 5 (.buildSlice 51 0 #[]) 51,zm 6 0,zp 7 #[zt 5,zt 6] #[51,51] 51,zm 2 7] <| .ret
def qsU:IR:=zq [za 2 (.const (.slice none 0 0)),zm 3 0,zE 4 (.binOp .eql 51 (zt 3) (.const (.slice none 0 0)) 51) 4] <| .seq (.cond (zv 4) (zq [za 2 (.const (.slice none 0 0))] <| .ret) .skip) (qsT)
def qFW:List Nat:=zV 8 [1]
def qFV:C1 210 8 qFW qsU [.tmp 2]:=c1 [] Tryz.func210
theorem qAc:xM Tryz.prog 60=some (132,5,88):=by kernel_rfl
theorem qmR:xB Tryz.prog 60=some (132,5):=by kernel_rfl
def qab {cs:List AB} (h:∀c∈cs,c.cells=#[c]):(Value.agg cs.toArray).cells=cs.toArray:=by
 have:∀l:List AB,(∀c∈l,c.cells=#[c])->(l.flatMap fun c=>c.cells.toList)=l:=by
  intro l
  induction l with
  |nil=>intro _;rfl
  |cons a l b=>
   intro h;rw [Jt,h a (by simp),b fun c e=>h c (by simp [e])];rfl
 apply uY.1;simp [Value.cells,Array.toList_flatMap,this cs h]
def yj.ones {w:AA} {cs:List AB} {s:Sig} (h:yj w cs s):∀c∈cs,c.cells=#[c]/\c.oneCell=true:=by
 obtain ⟨av,sv,rfl,n,b⟩:=h;intro c e;simp only [ug,uN,uQ] at e;rcases e with rfl|rfl|rfl|rfl
 ·exact ⟨rfl,rfl⟩
 ·exact ⟨qn n.isl,jf n.isl⟩
 ·exact ⟨rfl,rfl⟩
 ·exact ⟨qn b.isl,jf b.isl⟩
def qoU {c:AB} (h:c.cells=#[c]/\c.oneCell=true):c.oneCell'=true:=by
 revert h
 cases c<;>simp [Value.oneCell,Value.oneCell']
def vm.ones {w:AA} {cs:List AB} {s:Need} (h:vm w cs s):∀c∈cs,c.cells=#[c]/\c.oneCell=true:=by
 obtain ⟨c,rfl,e⟩:=h;intro x b;rcases ug.1 b with rfl|b
 ·exact ⟨rfl,rfl⟩
 ·exact e.ones x b
def vm.len {w:AA} {cs:List AB} {s:Need} (h:vm w cs s):cs.length=5:=by
 obtain ⟨c,rfl,av,sv,rfl,_⟩:=h;rfl
def Q8 {n:Nat}:∀{css:List (List AB)},(∀c∈css,c.length=n)->css.flatten.length=css.length*n
 |[],_=>by simp
 |c::css,h=>by
  rw [List.flatten_cons,ky,h c (by simp),Q8 fun c b=>h c (by simp [b]),List.length_cons,uK];omega
def Qv:Ans (List Need):=⟨fun _ _=>[],fun w w' _ l v=>xH w.heap.size 132 5 (vm w') w' v l⟩
theorem qB1 {L:List Tok} (hL:jJ L) (n:Nat) {base B P:Nat} {w:AA} {tv nv:AB} {i f:Nat} {xs:List NV} (hS:PSt base B w tv nv L i f xs) (hP:Blk w P #[.pointer (some ⟨B,0,none⟩)] 83) (hn:xs.length<=2*i+2) (aa:listed L n (zC L n) i f≠ .oof):
  Calls Tryz.prog 206 #[.pointer (some ⟨B,0,none⟩),.func (.func 207) #[] #[.pointer (some ⟨P,0,none⟩)]] w (PR Qv base B tv nv L xs w (listed L n (zC L n) i f)):=by
 generalize hr:listed L n (zC L n) i f=r at aa;have hr':bnd (zC L n) (fun x=>bnd (more L (zC L n) n) fun xs=>ret (x::xs)) i f=r:=hr;refine qF4 fun ρ r0 r1=>?_;simp [qs7,r0,r1];refine xh (f:=207) (by simp) (fs:=#[]) (caps:=#[.pointer (some ⟨P,0,none⟩)]) (by simp) ?_;simp;refine wT (A:=aNd) (A':=Qv) (fun _ _=>rfl) (fun ho=>qoP hL n (by simpa using hS) hP (by simpa using hn) ho) (Cu.start hS) hr' aa (fun c w' hp=>by simpa using hp) ?_;intro a j g v nv2 w2 S b o hv hk;obtain ⟨cs,rfl,y,H⟩:=hv;have E:=qab fun c hc=>(y.ones c hc).1;have hj:=((qcU n).ok S).1;simp;refine jC qmR (by decide) (by decide) (by simpa [E] using H) fun X W3 hX V hb3 hsz3=>?_;simp [E] at hb3;have F:=b.ext V;have U:=(hS.var o hP (by decide) (by decide)).ext V;simp;refine kr (fun Z w'=>∃(i' f':Nat) (nv' J:AB) (css:List (List AB)) (ls:List Need) (n':Nat),Z 0=.pointer (some ⟨B,0,none⟩)/\Z 1=.func (.func 207) #[] #[.pointer (some ⟨P,0,none⟩)]/\Z 5=J/\Cu base B w tv nv L xs w' nv' i' f' []/\Blk w' P #[.pointer (some ⟨B,0,none⟩)] 83/\
   Own w.heap.size 132 5 w' J css.flatten/\jl (vm w') css ls/\i<=i'/\ls.length<=i'+1/\(more L (zC L n) n' i' f').andThen (fun bs j g=> .ok (ls++bs) j g)=r) (fun _ w'=>L.length - atOf B w')
  ⟨j,g,nv2,.slice (some ⟨X,0,none⟩) 1 1,[cs],[a],n,by simp [r0],by simp [r1],by simp,F,U, ?_,⟨y.at' (qj.ext (p:=fun _ _=>True) V) (fun _=>trivial),trivial⟩,by omega,by simp, ?_⟩ ?_
 ·simpa using Own.lit (sz:=5) (n:=1) (cs:=cs) hb3 (by simp [H]) (Nat.le_trans b.size hX) (by decide)
 ·rw [<-hk];simp only [bnd];cases more L (zC L n) n j g<;>rfl
 clear hk b o hb3 F U hX V S hsz3 E y;rintro Z w' ⟨i',f',nv',J,css,ls,n',r0,r1,r5,hC,hP',hO,z,hii,hll,hsp⟩;have hat:=hC.st.atOf;simp [qs4,r0];cases n' with
 |zero=>exact absurd hsp.symm aa
 |succ n'=>
 have hsp':qt L [44] (bnd (zC L n) fun x=>fun i f=>(more L (zC L n) n' i f).andThen (fun bs j g=> .ok ((ls++[x])++bs) j g)) (ret ls) i' f'=r:=by
  rw [<-hsp];show _=(qt L [44] (bnd (zC L n) fun x=>bnd (more L (zC L n) n') fun xs=>ret (x::xs)) (ret []) i' f').andThen _;unfold qt;cases qo L i' [[44]] with
  |false=>simp [ret,Rs.andThen]
  |true=>
   simp only [wh,bnd];cases zC L n (i'+1) f' with
   |oof=>rfl
   |no g=>rfl
   |ok a j g=>
    have e2:(bnd (more L (zC L n) n') fun xs=>ret (a::xs)) j g=(more L (zC L n) n' j g).andThen fun bs j g=> .ok (a::bs) j g:=rfl;simp only [Rs.andThen];rw [e2];cases more L (zC L n) n' j g<;>simp [Rs.andThen]
 have e:∀{w1 w2:AA} {p:Nat->TypeId->Prop},jl (vm w1) css ls->qj p w1 w2->(∀k,p k 9)->jl (vm w2) css ls:=fun h hs hp=>h.imp fun _ _ h=>h.at' hs hp;refine jV (s:=[44]) hC hsp' (fun w2 hc2 b o hr2=>?_) (fun w2 hc2 b o hr2=>?_)
 ·have hlt:=xR hc2;have hP2:=hC.st.var o hP' (by decide) (by decide);have hO2:=hC.keep o hO (by decide) (by decide);have hall2:=e z (hC.st.sameT o) fun k=>⟨by decide,.inl (by decide)⟩;simp [qs6,r1,r5];refine xh (f:=207) (by simp) (fs:=#[]) (caps:=#[.pointer (some ⟨P,0,none⟩)]) (by simp [r1]) ?_;simp;refine wT (A:=aNd) (A':=Qv) (fun _ _=>rfl) (fun ho=>qoP hL n b.st hP2 (by simp;omega) ho) b hr2 aa (fun c w' hp=>by simpa using hp) ?_;intro a j g v nv3 w3 S F hT3 hv hk;obtain ⟨cs,rfl,y,H⟩:=hv;have E:=qab fun c hc=>(y.ones c hc).1;have hj:=((qcU n).ok S).1;have U:=b.st.var hT3 hP2 (by decide) (by decide);have hO3:=b.keep hT3 hO2 (by decide) (by decide);have hall3:=e hall2 (b.st.sameT hT3) fun k=>⟨by decide,.inl (by decide)⟩;have hil3:=F.st.il;have htl3:=F.st.tl;simp;refine jC qmR (by decide) (by decide) (by simpa [E] using H) fun X W4 hX R hb4 hsz4=>?_;simp [E] at hb4;have hC4:=F.ext R;have I:=hO3.ext R;have hP4:=U.ext R;have hfl:=Q8 (n:=5) (jl.left (P:=fun c=>c.length=5) (fun _ _ h=>vm.len h) z);have hcsl:=z.len;simp;refine yf qAc (base:=w.heap.size) (sv:=J) (xv:=.slice (some ⟨X,0,none⟩) 1 1) (xs:=css.flatten) (news:=cs) (hC4.size) (by simp [r5]) (by simp) I (Blk.cells hb4 (by simp [H])) (fun u hu=>qoU (y.ones u hu)) (by omega) (by omega) fun out' W5 hO5 hg5 hr5=>?_;have hC5:=hC4.grownV I hg5 (hC4.st.sep I (by decide)) (by decide) (by decide) (by decide) (fun k hk=>(I.blk k hk).1);have hsm:qj _ W4 W5:=qj.grown I hg5;have hP5:=hP4.at' hsm (.inr (by decide));have hcs5:vm W5 cs a:=(y.at' (qj.ext (p:=fun _ _=>True) R) (fun _=>trivial)).at' hsm fun k=> .inr (by decide);have hall5:=e (e hall3 (qj.ext (p:=fun _ _=>True) R) fun _=>trivial) hsm fun k=> .inr (by decide);simp;refine ⟨⟨by simp [r0],by simp [r1],j,g,⟨nv3,hC5⟩,hP5,css++[cs],by simpa using hO5,ls++[a],hall5.snoc hcs5,by omega,by simp;omega,n',hk⟩, ?_⟩;rw [hC5.st.atOf,hat];omega
 ·simp [qs5,r5];rw [<-hr2];exact ⟨J,nv',[],rfl,b.st,rfl,b.fr,b.tn,css,hC.keep o hO (by decide) (by decide),e z (hC.st.sameT o) fun k=>⟨by decide,.inl (by decide)⟩⟩
theorem qol {L:List Tok} (hL:jJ L) (n:Nat):Mt Qv L 123 me (yk L n):=by
 intro base B w tv nv i f xs hS hn e;generalize hr:yk L n i f=r at e;have V:∀{W:AA} {P:Nat},Blk W P #[.pointer (some ⟨B,0,none⟩)] 83->W.cell? ⟨P,0,none⟩=some (.pointer (some ⟨B,0,none⟩)):=fun h=>by rw [h.cell];rfl
 refine qHj fun ρ r0=>?_;simp [quM];refine vC fun P w1 hP Z z _=>?_;simp [Value.cells,r0] at z;have S:=(Cu.start hS).ext Z;simp [V z];refine jV (s:=[119,104,101,114,101]) S hr (fun w2 hc2 b F u=>?_) (fun w2 hc2 b F u=>?_)
 ·have U:=S.st.var F z (by decide) (by decide);simp [quL,V U];refine wT (A:=aU) (A':=Qv) (fun _ _=>rfl) (fun _=>qii b.st) b u e (fun c w' R=>by simpa using R) ?_;intro _ j3 g3 v3 nv3 w3 ab hC3 aa _ hr3;have hj3:=(qbM.ok ab).1;have H:=b.st.var aa U (by decide) (by decide);simp [V H];refine jq hC3 [104,97,115] fun v4 w4 hE4 J hv4=>?_;simp;refine jz (A':=Qv) J hv4 (by simp) hr3 e (fun c w' R=>by simpa using R) ?_;intro j5 g5 nv5 w5 E o hT5 ad;have hj5:=(jP _ _ _ _ _ E).1;have I:=J.st.var hT5 (H.ext hE4) (by decide) (by decide);simp [V I];refine wT (A:=Qv) (A':=Qv) (k:=ret) (fun _ _=>rfl) (fun ho=>qB1 hL n o.st I (by simp;omega) ho) o (by rw [kO];exact ad) e (fun c w' R=>by simpa using R) ?_;intro l j6 g6 v6 ac w6 hl y hT6 hv6 hr6;obtain ⟨css,ho,ha⟩:=hv6;simp;rw [<-hr6];exact ⟨v6,ac,[],rfl,y.st,rfl,y.fr,y.tn,css,Own.down ho o.size,ha⟩
 ·simp;rw [<-u];exact ⟨_,nv,[],rfl,b.st,rfl,b.fr,b.tn,[],Own.nil _ _ _ _,trivial⟩
def qCi {b e sz:Nat} {w:AA} {v:AB} {A x C:List AB} {k:Nat} (h:Own b e sz w v (A++(x++C))) (y:A.length=k*sz) (u:x.length=sz):Eng.q4 w (qN v (k*sz)) 0 sz=some x:=by
 have o:=L01.jw h;have:=wE (w:=w) (a:=qN v (k*sz)) (l:=x) (i:=0) fun j z=>by
  have s:k*sz+j<(A++(x++C)).length:=by simp only [ky];omega
  have c:=o.cell (k*sz+j) s;have n:(A++(x++C))[k*sz+j]=x[j]:=by
   rw [JN (by omega),JM (by omega)];congr 1;omega
  rw [n] at c;rw [qba,ur];exact c
 rw [u] at this;exact this
theorem qoi (l:List (Bs×Bs)):(yE l).length=l.length*2:=by
 induction l with
 |nil=>rfl
 |cons x l b=>simp only [yE,Jt,ky,List.length_cons,List.length_nil] at*;omega
def qA1 (l:List (Bs×Bs)) (k:Nat) (b:k<l.length):yE l=yE (l.take k)++([.string (qb l[k].1),.string (qb l[k].2)]++yE (l.drop (k+1))):=by
 have:l=l.take k++(l[k]::l.drop (k+1)):=by rw [<-uM b,u5]
 have e:yE l=yE (l.take k++(l[k]::l.drop (k+1))):=by rw [<-this]
 rw [e];simp only [yE,List.flatMap_append,Jt]
def qpa {L:List Tok} {α:Type} {m:M α} (o:Up m):∀n i f l j g,more L m n i f=.ok l j g->i+l.length<=j
 |0,_,_,_,_,_,h=>by cases h
 |n+1,i,f,l,j,g,h=>by
  have b:qt L [44] (bnd m fun x=>bnd (more L m n) fun xs=>ret (x::xs)) (ret []) i f=.ok l j g:=h;unfold qt at b;split at b
  ·cases e:m (i+1) f with
   |oof=>rw [vc e] at b;cases b
   |no g=>rw [jT e] at b;cases b
   |ok a s g1=>
    rw [jS e] at b;have y:=(o.ok e).1;cases c:more L m n s g1 with
    |oof=>rw [vc c] at b;cases b
    |no g=>rw [jT c] at b;cases b
    |ok xs u z=>
     rw [jS c] at b;simp only [ret,Rs.ok.injEq] at b;obtain ⟨rfl,rfl,rfl⟩:=b;have:=qpa o n _ _ _ _ _ c;simp;omega
  ·simp only [ret,Rs.ok.injEq] at b;obtain ⟨rfl,rfl,rfl⟩:=b;simp
def qff {L:List Tok} {α:Type} {m:M α} (o:Up m) {n i f j g:Nat} {l:List α} (h:listed L n m i f=.ok l j g):i+l.length<=j+1:=by
 have b:bnd m (fun x=>bnd (more L m n) fun xs=>ret (x::xs)) i f=.ok l j g:=h;cases e:m i f with
 |oof=>rw [vc e] at b;cases b
 |no g=>rw [jT e] at b;cases b
 |ok a s g1=>
  rw [jS e] at b;have y:=(o.ok e).1;cases c:more L m n s g1 with
  |oof=>rw [vc c] at b;cases b
  |no g=>rw [jT c] at b;cases b
  |ok xs u z=>
   rw [jS c] at b;simp only [ret,Rs.ok.injEq] at b;obtain ⟨rfl,rfl,rfl⟩:=b;have:=qpa o n _ _ _ _ _ c;simp;omega
def qk0 {L:List Tok} {α:Type} {m:M α} (y:Up m) {n i f j g:Nat} {l:List α} (h:vh L n m i f=.ok l j g):i+l.length<=j:=by
 have b:bnd (needs L [[40]]) (fun _=>qt L [41] (ret []) (bnd (listed L n m) fun l=>bnd (needs L [[41]]) fun _=>ret l)) i f=.ok l j g:=h;cases e:needs L [[40]] i f with
 |oof=>rw [vc e] at b;cases b
 |no g=>rw [jT e] at b;cases b
 |ok _ u g1=>
  rw [jS e] at b;have F:=(jP _ _ _ _ _ e).1;unfold qt at b;split at b
  ·simp only [ret,Rs.ok.injEq] at b;obtain ⟨rfl,rfl,rfl⟩:=b;simp;omega
  ·cases c:listed L n m u g1 with
   |oof=>rw [vc c] at b;cases b
   |no g=>rw [jT c] at b;cases b
   |ok xs s z=>
    rw [jS c] at b;have E:=qff y c;cases o:needs L [[41]] s z with
    |oof=>rw [vc o] at b;cases b
    |no g=>rw [jT o] at b;cases b
    |ok _ H g3=>
     rw [jS o] at b;have I:=(jP _ _ _ _ _ o).1;simp only [ret,Rs.ok.injEq] at b;obtain ⟨rfl,rfl,rfl⟩:=b;omega
noncomputable def qfp:Code:=((Tryz.f122.body).getD .skip)
def qpB:IR:=.reg [za 10 (zI .add (zv 10) (zK 1))]
def qpA:IR:=.seq (.block 1 (zq [za 13 (zM 2 (zx 2 (zv 8) (zv 10))),zA 5 222,zw 222 (zt 5) (zt 13)] <| .raw (qv qfp 4))) (qpB)
def qiA:IR:=zq [za 11 (zI .lss (zv 10) (zv 9))] <| .seq (.cond (zv 11) .skip (.exit 0)) (qpA)
def qpz:IR:=.raw (qv qfp 6)
def qpC:IR:=zq [zE 2 (.box 83 (zt 0)) 0,za 6 (zl (zv 2)),zE 7 (.makeFunc (.func 204) #[] #[zt 2]) 223,zc 8 203 #[zt 6,zt 7] #[83,223] 219,za 9 (zL (zv 8)),za 10 (zK 0)] <| .seq (.block 0 (.loop qiA)) (qpz)
def qiB:List Nat:=zV 44 [3,4,12,38]
def qDc:C2 122 44 qiB qpC []:=c2 [6,4] Tryz.func122
def qpy:OT:=zy 39 (zl (zv 2))<|zy 40 (zv 1)<|zy 41 (zN (zv 40))<|zy 42 (zf 1 (zv 41))<| .step (zc 43 205 #[zt 39,zt 42] #[83,225] 0) false<| .done
theorem qDb:jx Tryz.prog 44 qiB 4 (qv qfp 6)=some qpy:=by kernel_rfl
noncomputable def hdA (t:OT):OT:=.step (.asg none 19 (.op1 .load1 (.var 18))) true t
noncomputable def hdB (t:OT):OT:=.step (.eff none (some 22) (.buildSlice 51 1 #[(0,(.tmp 21))]) 51) true t
noncomputable def Qj (t:OT):OT:=.step (.eff none (some 23) (.call {callee:=.builtin .append,args:=#[(.tmp 19),(.tmp 22)],argTypes:=#[51,51]}) 51) true t
noncomputable def Q4 (t:OT):OT:=.step (.eff none (some 31) (.buildSlice 51 1 #[(0,(.tmp 30))]) 51) true t
noncomputable def Qi (t:OT):OT:=.step (.eff none (some 32) (.call {callee:=.builtin .append,args:=#[(.tmp 28),(.tmp 31)],argTypes:=#[51,51]}) 51) true t
def Qh:OT:=.take none 33 (.op1 .nilc (.var 14))<| .take none 34 (.op1 (.fadr 5) (.var 33))<| .step (.eff none none (.store 51 (.tmp 34) (.tmp 23)) 0) true<| .step (.asg none 35 (.op1 .nilc (.var 15))) false<| .step (.asg none 36 (.op1 (.fadr 1) (.var 35))) false<| .step (.asg none 37 (.op1 (.fadr 1) (.var 36))) false<| .step (.eff none none (.store 51 (.tmp 37) (.tmp 32)) 0) false<| .done
def hdR:OT:=(.both (hdA (.both (hdB (.both (Qj (Q4 (Qi Qh))) (Q4 (Qj (Qi Qh))))) (Q4 (hdB (Qj (Qi Qh)))))) (.both (hdB (.both (hdA (.both (Qj (Q4 (Qi Qh))) (Q4 (Qj (Qi Qh))))) (Q4 (hdA (Qj (Qi Qh)))))) (Q4 (.both (hdA (hdB (Qj (Qi Qh)))) (hdB (hdA (Qj (Qi Qh))))))))
def quN:OT:=zy 14 (zv 1)<|zy 15 (zv 1)<|zy 16 (zv 1)<|zy 17 (zN (zv 16))<|zy 18 (zf 5 (zv 17))<|zy 20 (zf 0 (zv 5))<|zy 21 (zl (zv 20))<|zy 24 (zv 1)<|zy 25 (zN (zv 24))<|zy 26 (zf 1 (zv 25))<|zy 27 (zf 1 (zv 26))<|zy 28 (zl (zv 27))<|zy 29 (zf 1 (zv 5))<|zy 30 (zl (zv 29))<|hdR
theorem qHl:qdz Tryz.prog 44 qiB [5] 22 (qv qfp 4)=some quN:=by kernel_rfl
structure HdI (base B X Y P j g b3:Nat) (w W0:AA) (tv nv nv3 a av pv v3:AB) (it:Bool) (L:List Tok) (xs:List NV) (s1 s2:Bs) (pl al:List Bs) (vs:List AB) (ρs:qa) (fA fB fC fD:Bool) (ρ:qa) (W:AA):Prop where
 cu:Cu base B w tv nv L xs W nv3 j g []
 bP:Blk W P #[.pointer (some ⟨B,0,none⟩)] 83/\qj (fun _ T=>T=66) W0 W
 o3:Own b3 222 2 W v3 vs
 bX:Blk W X (qP a it av [] (.slice none 0 0) [pv,.slice none 0 0]) 82
 bY:Blk W Y #[.string (qb s1),.string (qb s2)] 222
 oa:Own w.heap.size 9 1 W av (al.map qi)
 r14:ρ 14=.pointer (some ⟨X,0,none⟩)
 r15:ρ 15=.pointer (some ⟨X,0,none⟩)
 r18:ρ 18=.pointer (some ⟨X,5,none⟩)
 r21:ρ 21=.string (qb s1)
 r28:ρ 28=av
 r30:ρ 30=.string (qb s2)
 keep:∀d,d<=10->ρ d=ρs d
 A:fA=true->ρ 19=pv
 B1:fB=true->fC=false->Own 0 9 1 W (ρ 22) [qi s1]
 D1:fD=true->Own 0 9 1 W (ρ 31) [qi s2]/\∀q,(ρ 31).ownBlock=some q->pv.ownBlock≠some q
 C0:fC=false->Own w.heap.size 9 1 W pv (pl.map qi)/\∀q,av.ownBlock=some q->pv.ownBlock≠some q
 C1:fC=true->Own w.heap.size 9 1 W (ρ 23) ((pl++[s1]).map qi)/\∀q,av.ownBlock=some q->(ρ 23).ownBlock≠some q
 old:∀q,pv.ownBlock=some q->q<W.heap.size
def kD (X Y:Nat) (av:AB) (s1 s2:Bs) (W:AA):Prop:=W.cell? ⟨X,2,none⟩=some av/\Blk W Y #[.string (qb s1),.string (qb s2)] 222
def qoQ {W:AA} {Z:Nat} {s:Bs} (h:Blk W Z #[.string (qb s)] 9):Own 0 9 1 W (.slice (some ⟨Z,0,none⟩) 1 1) [qi s]:=Own.lit (sz:=1) (cs:=[qi s]) (by simpa [qi] using h) rfl (uf _) (by decide)
section
variable {base B X Y P j g b3:Nat} {w W0 W:AA} {tv nv nv3 a av pv v3:AB} {it:Bool} {L:List Tok} {xs:List NV} {s1 s2:Bs} {pl al:List Bs} {vs:List AB} {ρs ρ:qa} {fA fB fC fD:Bool} {K:qa->AA->Prop} {Q:Ks} {t:OT}
theorem qf3 (h:HdI base B X Y P j g b3 w W0 tv nv nv3 a av pv v3 it L xs s1 s2 pl al vs ρs fA fB fC fD ρ W):(kD X Y av s1 s2) W:=⟨(QO h.bX).2.2.1,h.bY⟩
theorem qvd {W':AA} {b:qa} (h:HdI base B X Y P j g b3 w W0 tv nv nv3 a av pv v3 it L xs s1 s2 pl al vs ρs fA fB fC fD ρ W) (c:qc W W') (n:∀d,d≠22->d≠31->b d=ρ d) {s o:Bool} (y:s=true->fC=false->Own 0 9 1 W' (b 22) [qi s1]) (z:o=true->Own 0 9 1 W' (b 31) [qi s2]/\∀q,(b 31).ownBlock=some q->pv.ownBlock≠some q):HdI base B X Y P j g b3 w W0 tv nv nv3 a av pv v3 it L xs s1 s2 pl al vs ρs fA s fC o b W':=
 ⟨h.cu.ext c,⟨h.bP.1.ext c,h.bP.2.trans (qj.ext c)⟩,h.o3.ext c,h.bX.ext c,h.bY.ext c,h.oa.ext c,(n _ (by decide) (by decide)).trans h.r14,(n _ (by decide) (by decide)).trans h.r15,(n _ (by decide) (by decide)).trans h.r18,(n _ (by decide) (by decide)).trans h.r21,(n _ (by decide) (by decide)).trans h.r28,(n _ (by decide) (by decide)).trans h.r30,
  fun d E=>(n d (by omega) (by omega)).trans (h.keep d E),fun e=>(n _ (by decide) (by decide)).trans (h.A e),y,z,fun e=>⟨(h.C0 e).1.ext c,(h.C0 e).2⟩,fun e=>by rw [n _ (by decide) (by decide)];exact ⟨(h.C1 e).1.ext c,(h.C1 e).2⟩,fun q u=>uT (h.old q u) c.size⟩
theorem qdY (h:HdI base B X Y P j g b3 w W0 tv nv nv3 a av pv v3 it L xs s1 s2 pl al vs ρs false fB fC fD ρ W) (k:∀b W',HdI base B X Y P j g b3 w W0 tv nv nv3 a av pv v3 it L xs s1 s2 pl al vs ρs true fB fC fD b W'->t.wp Tryz.prog Q (kD X Y av s1 s2) K b W'):(hdA t).wp Tryz.prog Q (kD X Y av s1 s2) K ρ W:=by
 have c5:=qzb h.bX;have c:=qf3 h;have e:HdI base B X Y P j g b3 w W0 tv nv nv3 a av pv v3 it L xs s1 s2 pl al vs ρs true fB fC fD (qx ρ 19 pv) W:=by
  refine ⟨h.cu,h.bP,h.o3,h.bX,h.bY,h.oa,by simp [h.r14],by simp [h.r15],by simp [h.r18],by simp [h.r21],by simp [h.r28],by simp [h.r30],fun d n=>?_,by simp,by simpa using h.B1,by simpa using h.D1,h.C0,by simpa using h.C1,h.old⟩;have:d≠19:=by omega
  simp [qx,this,h.keep d n]
 simp [hdA,h.r18,c5];exact ⟨c,k _ _ e⟩
theorem qdX (h:HdI base B X Y P j g b3 w W0 tv nv nv3 a av pv v3 it L xs s1 s2 pl al vs ρs fA false fC fD ρ W) (k:∀b W',HdI base B X Y P j g b3 w W0 tv nv nv3 a av pv v3 it L xs s1 s2 pl al vs ρs fA true fC fD b W'->t.wp Tryz.prog Q (kD X Y av s1 s2) K b W'):(hdB t).wp Tryz.prog Q (kD X Y av s1 s2) K ρ W:=by
 simp [hdB];refine jC kj (by decide) (by decide) (by simp [h.r21,Value.cells]) fun Z W1 s o n _=>?_;simp [h.r21,Value.cells] at n;have c:HdI base B X Y P j g b3 w W0 tv nv nv3 a av pv v3 it L xs s1 s2 pl al vs ρs fA true fC fD (qx ρ 22 (.slice (some ⟨Z,0,none⟩) 1 1)) W1:=qvd h o (fun d c _=>by simp [qx,c]) (fun _ _=>by simpa using qoQ n) (fun e=>by simpa using ⟨(h.D1 e).1.ext o,(h.D1 e).2⟩);exact ⟨qf3 c,k _ _ c⟩
theorem qbv (h:HdI base B X Y P j g b3 w W0 tv nv nv3 a av pv v3 it L xs s1 s2 pl al vs ρs fA fB fC false ρ W) (k:∀b W',HdI base B X Y P j g b3 w W0 tv nv nv3 a av pv v3 it L xs s1 s2 pl al vs ρs fA fB fC true b W'->t.wp Tryz.prog Q (kD X Y av s1 s2) K b W'):(Q4 t).wp Tryz.prog Q (kD X Y av s1 s2) K ρ W:=by
 simp [Q4];refine jC kj (by decide) (by decide) (by simp [h.r30,Value.cells]) fun Z W1 z s n _=>?_;simp [h.r30,Value.cells] at n;have c:HdI base B X Y P j g b3 w W0 tv nv nv3 a av pv v3 it L xs s1 s2 pl al vs ρs fA fB fC true (qx ρ 31 (.slice (some ⟨Z,0,none⟩) 1 1)) W1:=qvd h s (fun d _ c=>by simp [qx,c]) (fun e u=>by simpa using (h.B1 e u).ext s) (fun _=>by
  refine ⟨by simpa using qoQ n,fun q o e=>?_⟩;simp at o;have y:Z=q:=by simpa [Value.ownBlock] using o
  have:=h.old q e;omega)
 exact ⟨qf3 c,k _ _ c⟩
theorem qaN (V:pl.length<=1000000) (h:HdI base B X Y P j g b3 w W0 tv nv nv3 a av pv v3 it L xs s1 s2 pl al vs ρs true true false fD ρ W) (k:∀o W',HdI base B X Y P j g b3 w W0 tv nv nv3 a av pv v3 it L xs s1 s2 pl al vs ρs true true true fD o W'->t.wp Tryz.prog Q (kD X Y av s1 s2) K o W'):(Qj t).wp Tryz.prog Q (kD X Y av s1 s2) K ρ W:=by
 obtain ⟨op,n⟩:=h.C0 rfl;have o1:=h.B1 rfl rfl;have u:=h.A rfl;simp [Qj];refine yf qdi (base:=w.heap.size) (sv:=pv) (xv:=ρ 22) (xs:=pl.map qi) (news:=[qi s1]) h.cu.size (by simp [u]) (by simp) op (L01.jw o1) (by simp [qi,Value.oneCell']) (by simp;omega) (by simp;omega) fun R W1 S s I=>?_;have b:=qj.grown op s;have z:∀q,pv.ownBlock=some q->w.heap.size<=q:=fun q c=>(op.blk q c).1;have E:pv.ownBlock≠some X:=fun e=>by
  obtain ⟨cur,F⟩:=Own.row op e;rw [h.bX.heap] at F;cases F
 have H:HdI base B X Y P j g b3 w W0 tv nv nv3 a av pv v3 it L xs s1 s2 pl al vs ρs true true true fD (qx ρ 23 R) W1:=by
  refine ⟨h.cu.grownV op s (by simpa using h.cu.st.sep op (by decide)) (by decide) (by decide) (by decide) z,⟨h.bP.1.at' b (.inr (by decide)),h.bP.2.trans (b.mono fun _ _ e=> .inr (by rw [e];decide))⟩,h.o3.at' b fun _ _=> .inr (by decide),h.bX.at' b (.inr (by decide)),h.bY.at' b (.inr (by decide)),h.oa.at' b fun q c=> .inl (n q c),by simp [h.r14],by simp [h.r15],by simp [h.r18],by simp [h.r21],by simp [h.r28],by simp [h.r30],fun d J=>?_,by simpa using h.A,fun _ e=>(by cases e),fun e=>?_,fun e=>(by cases e),fun _=>?_,fun q c=>uT (h.old q c) s.size⟩
  ·have:d≠23:=by omega
   simp [qx,this,h.keep d J]
  ·have y:=h.D1 e;simp only [qx];exact ⟨y.1.at' b fun q c=> .inl (y.2 q c),y.2⟩
  ·refine ⟨by simpa using S,fun q c=>?_⟩;simp;rcases I with e|e
   ·rw [e];exact n q c
   ·rw [e];intro U;cases U;have:=(h.oa.blk _ c).2;omega
 exact ⟨qf3 H,k _ _ H⟩
structure HdF (base B X Y P j g b3:Nat) (w W0:AA) (tv nv nv3 a av pv v3:AB) (it:Bool) (L:List Tok) (xs:List NV) (s1 s2:Bs) (pl al:List Bs) (vs:List AB) (ρs:qa) (ρ:qa) (W:AA):Prop where
 cu:Cu base B w tv nv L xs W nv3 j g []
 bP:Blk W P #[.pointer (some ⟨B,0,none⟩)] 83/\qj (fun _ T=>T=66) W0 W
 o3:Own b3 222 2 W v3 vs
 bX:Blk W X (qP a it av [] (.slice none 0 0) [pv,.slice none 0 0]) 82
 bY:Blk W Y #[.string (qb s1),.string (qb s2)] 222
 r14:ρ 14=.pointer (some ⟨X,0,none⟩)
 r15:ρ 15=.pointer (some ⟨X,0,none⟩)
 keep:∀d,d<=10->ρ d=ρs d
 oP:Own w.heap.size 9 1 W (ρ 23) ((pl++[s1]).map qi)
 oA:Own w.heap.size 9 1 W (ρ 32) ((al++[s2]).map qi)
 ap:∀q,(ρ 32).ownBlock=some q->(ρ 23).ownBlock≠some q
theorem qaM (J:al.length<=1000000) (h:HdI base B X Y P j g b3 w W0 tv nv nv3 a av pv v3 it L xs s1 s2 pl al vs ρs fA fB true true ρ W) (k:∀o W',HdF base B X Y P j g b3 w W0 tv nv nv3 a av pv v3 it L xs s1 s2 pl al vs ρs o W'->t.wp Tryz.prog Q (kD X Y av s1 s2) K o W'):(Qi t).wp Tryz.prog Q (kD X Y av s1 s2) K ρ W:=by
 obtain ⟨oP,n⟩:=h.C1 rfl;have o1:=(h.D1 rfl).1;simp [Qi];refine yf qdi (base:=w.heap.size) (sv:=av) (xv:=ρ 31) (xs:=al.map qi) (news:=[qi s2]) h.cu.size (by simp [h.r28]) (by simp) h.oa (L01.jw o1) (by simp [qi,Value.oneCell']) (by simp;omega) (by simp;omega) fun F W1 H y z=>?_;have b:=qj.grown h.oa y;have s:∀q,av.ownBlock=some q->w.heap.size<=q:=fun q c=>(h.oa.blk q c).1;have u:HdF base B X Y P j g b3 w W0 tv nv nv3 a av pv v3 it L xs s1 s2 pl al vs ρs (qx ρ 32 F) W1:=by
  refine ⟨h.cu.grownV h.oa y (by simpa using h.cu.st.sep h.oa (by decide)) (by decide) (by decide) (by decide) s,⟨h.bP.1.at' b (.inr (by decide)),h.bP.2.trans (b.mono fun _ _ e=> .inr (by rw [e];decide))⟩,h.o3.at' b fun _ _=> .inr (by decide),h.bX.at' b (.inr (by decide)),h.bY.at' b (.inr (by decide)),by simp [h.r14],by simp [h.r15],fun d E=>?_, ?_,by simpa using H,fun q c=>?_⟩
  ·have:d≠32:=by omega
   simp [qx,this,h.keep d E]
  ·simp only [qx];exact oP.at' b fun q c=> .inl fun e=>n q e c
  ·simp at c⊢;rcases z with e|e
   ·rw [e] at c;exact n q c
   ·rw [e] at c;cases c;intro I;have:=(oP.blk _ I).2;omega
 exact ⟨⟨(QO u.bX).2.2.1,u.bY⟩,k _ _ u⟩
theorem qaL (H:w.heap.size<=X) (S:X≠Y) (F:P≠X) (h:HdF base B X Y P j g b3 w W0 tv nv nv3 a av pv v3 it L xs s1 s2 pl al vs ρs ρ W)
  (k:∀I W',Cu base B w tv nv L xs W' nv3 j g []->(Blk W' P #[.pointer (some ⟨B,0,none⟩)] 83/\qj (fun _ T=>T=66) W0 W')->Own b3 222 2 W' v3 vs->(∀d,d<=10->I d=ρs d)->(∃y z,Blk W' X (qP a it y [] (.slice none 0 0) [z,.slice none 0 0]) 82/\Own w.heap.size 9 1 W' y ((al++[s2]).map qi)/\Own w.heap.size 9 1 W' z ((pl++[s1]).map qi)/\∀q,y.ownBlock=some q->z.ownBlock≠some q)->K I W'):
  Qh.wp Tryz.prog Q (kD X Y av s1 s2) K ρ W:=by
 have E:=h.oP.isl;have i32:=h.oA.isl;simp [Qh,h.r14];refine qD (B:=X) (i:=5) (by simp) h.bX (by simp [qP]) (by simpa using qn E) (by simpa using jf E) qbU fun W1 o R=>?_;have s:Blk W1 X (qP a it av [] (.slice none 0 0) [ρ 23,.slice none 0 0]) 82:=by simpa [qP] using R
 have c:=qj.only o h.bX;refine ⟨⟨(QO s).2.2.1,o.blk h.bY (ub S)⟩, ?_⟩;simp [h.r15];refine qD (B:=X) (i:=2) (by simp) s (by simp [qP]) (by simpa using qn i32) (by simpa using jf i32) qbU fun W2 u U=>?_;have J:Blk W2 X (qP a it (ρ 32) [] (.slice none 0 0) [ρ 23,.slice none 0 0]) 82:=by simpa [qP] using U
 have n:=qj.only u s;have Z:∀{b:Nat} {v:AB} {V:List AB},Own b 9 1 W v V->Own b 9 1 W2 v V:=fun ho=>(ho.at' c fun _ _=> .inr (by decide)).at' n fun _ _=> .inr (by decide);refine k _ _ ((h.cu.putV h.bX (by decide) (by decide) (by decide) (by decide) H o).putV s (by decide) (by decide) (by decide) (by decide) H u) ⟨u.blk (o.blk h.bP.1 F) F,(h.bP.2.trans (c.mono fun _ _ e=> .inr (by rw [e];decide))).trans (n.mono fun _ _ e=> .inr (by rw [e];decide))⟩ ((h.o3.at' c fun _ _=> .inr (by decide)).at' n fun _ _=> .inr (by decide)) (fun d hd=>?_) ⟨ρ 32,ρ 23,J,Z h.oA,Z h.oP,h.ap⟩;have e1:d≠33:=by omega
 have e2:d≠34:=by omega
 have e3:d≠35:=by omega
 have e4:d≠36:=by omega
 have e5:d≠37:=by omega
 simp [qx,e1,e2,e3,e4,e5,h.keep d hd]
theorem qHC (c:w.heap.size<=X) (b:X≠Y) (n:P≠X) (o:pl.length<=1000000) (e:al.length<=1000000) (h:HdI base B X Y P j g b3 w W0 tv nv nv3 a av pv v3 it L xs s1 s2 pl al vs ρs false false false false ρ W)
  (k:∀y W',Cu base B w tv nv L xs W' nv3 j g []->(Blk W' P #[.pointer (some ⟨B,0,none⟩)] 83/\qj (fun _ T=>T=66) W0 W')->Own b3 222 2 W' v3 vs->(∀d,d<=10->y d=ρs d)->(∃u s,Blk W' X (qP a it u [] (.slice none 0 0) [s,.slice none 0 0]) 82/\Own w.heap.size 9 1 W' u ((al++[s2]).map qi)/\Own w.heap.size 9 1 W' s ((pl++[s1]).map qi)/\∀q,u.ownBlock=some q->s.ownBlock≠some q)->K y W'):
  hdR.wp Tryz.prog Q (kD X Y av s1 s2) K ρ W:=
 ⟨qdY h fun _ _ h=>⟨qdX h fun _ _ h=>⟨qaN o h fun _ _ h=>qbv h fun _ _ h=>qaM e h fun _ _ h=>qaL c b n h k,qbv h fun _ _ h=>qaN o h fun _ _ h=>qaM e h fun _ _ h=>qaL c b n h k⟩,qbv h fun _ _ h=>qdX h fun _ _ h=>qaN o h fun _ _ h=>qaM e h fun _ _ h=>qaL c b n h k⟩,⟨qdX h fun _ _ h=>⟨qdY h fun _ _ h=>⟨qaN o h fun _ _ h=>qbv h fun _ _ h=>qaM e h fun _ _ h=>qaL c b n h k,qbv h fun _ _ h=>qaN o h fun _ _ h=>qaM e h fun _ _ h=>qaL c b n h k⟩,qbv h fun _ _ h=>qdY h fun _ _ h=>qaN o h fun _ _ h=>qaM e h fun _ _ h=>qaL c b n h k⟩,qbv h fun _ _ h=>⟨qdY h fun _ _ h=>qdX h fun _ _ h=>qaN o h fun _ _ h=>qaM e h fun _ _ h=>qaL c b n h k,qdX h fun _ _ h=>qdY h fun _ _ h=>qaN o h fun _ _ h=>qaM e h fun _ _ h=>qaL c b n h k⟩⟩⟩
end
def qj.mono66 {X:Nat} {w w':AA} {cs:Array AB} (h:qj (QN X) w w') (n:Blk w X cs 82):qj (fun _ T=>T=66) w w':=fun k cs' T z c b=>h k cs' T z c ⟨by rw [b];decide,by rw [b];decide,fun e=>by
 subst e;rw [n.heap] at c;cases c;cases b⟩
theorem qoy {L:List Tok} (hL:jJ L) (n:Nat) {base B X:Nat} {w w1:AA} {tv nv nv1 a:AB} {it:Bool} {i f:Nat} {xs:List NV}
  (hC:Cu base B w tv nv L xs w1 nv1 i f []) (R:Blk w1 X (qP a it (.slice none 0 0) [] (.slice none 0 0) [.slice none 0 0,.slice none 0 0]) 82) (hXw:w.heap.size<=X) (hn:xs.length<=2*i+2) (ai:head L n it i f≠ .oof):
  Calls Tryz.prog 122 #[.pointer (some ⟨B,0,none⟩),.pointer (some ⟨X,0,none⟩)] w1 (PRx base B tv nv L xs w (fun b j g v w'=>v=.tuple #[]/\b.1.iter=it/\∃nv2 av sv pv,Cu base B w tv nv L xs w' nv2 j g []/\Blk w' X (qP a it av b.1.result sv [pv,.slice none 0 0]) 82/\
   Own w.heap.size 9 1 w' av (b.1.args.map qi)/\Own w.heap.size 9 1 w' sv (b.1.signals.map qi)/\Own w.heap.size 9 1 w' pv (b.2.map qi)/\qj (fun _ T=>T=66) w1 w') (head L n it i f)):=by
 generalize hr:head L n it i f=r at ai;have hr':bnd (vh L n (x7 L n)) (fun l=>bnd (xG L n it) fun b=>ret ((⟨it,l.map (·.2),b.1,b.2⟩:Sig),l.map (·.1))) i f=r:=hr;have cP:∀{W:AA} {P:Nat},Blk W P #[.pointer (some ⟨B,0,none⟩)] 83->W.cell? ⟨P,0,none⟩=some (.pointer (some ⟨B,0,none⟩)):=fun h=>by rw [h.cell];rfl
 generalize hV:(fun (b:Sig×List Bs) (j g:Nat) (v:AB) (w':AA)=>v=Value.tuple #[]/\b.1.iter=it/\∃nv2 av sv pv,Cu base B w tv nv L xs w' nv2 j g []/\Blk w' X (qP a it av b.1.result sv [pv,.slice none 0 0]) 82/\
   Own w.heap.size 9 1 w' av (b.1.args.map qi)/\Own w.heap.size 9 1 w' sv (b.1.signals.map qi)/\Own w.heap.size 9 1 w' pv (b.2.map qi)/\qj (fun _ T=>T=66) w1 w')=V
 refine qDc fun ρ r0 r1=>?_;simp [qpC];refine vC fun P w2 hP am F _=>?_;simp [Value.cells,r0] at F;have E:=hC.ext am;have hX2:=R.ext am;have hPX:P≠X:=by have:=R.lt;omega
 simp [cP F];refine wT (A:=pD.ansL 222 2) (A':=aX) (fun b a=>qo3 b a) (fun ho=>qBR (qHN hL n B P) (kg n) (qcZ (kg n)) qB5 n E.st (fun b hb=>by cases hb;exact F) (by simpa using hn) ho) E hr' ai (fun c w' hp=>by simpa using PR.toX hp) ?_;intro l j3 g3 v3 nv3 w3 hl aj ab z hr3;change Own _ _ _ _ _ _ at z;rw [qvy] at z;have hj3:=((wP (kg n) n).ok hl).1;have hX3:=E.st.var ab hX2 (by decide) (by decide);have hP3:=E.st.var ab F (by decide) (by decide);have H:=z.isl;have J:qm v3=l.length:=by
  have:=(L01.jw z).len;rw [qoi] at this;omega
 have hil3:=aj.st.il;have htl3:=aj.st.tl;have hll:=qk0 (kg n) hl;simp [H,J];have h66:qj (fun _ T=>T=66) w1 w3:=(qj.ext am).trans ((E.st.sameT ab).mono fun _ _ e=>⟨by rw [e];decide,.inl (by rw [e];decide)⟩);obtain ⟨I,hI⟩:∃I:Nat->qa->AA->Prop,∀k s w',I k s w'↔(s 0=.pointer (some ⟨B,0,none⟩)/\s 1=.pointer (some ⟨X,0,none⟩)/\s 2=.pointer (some ⟨P,0,none⟩)/\s 8=v3/\s 9=.int .i64 (l.length:Int)/\Cu base B w tv nv L xs w' nv3 j3 g3 []/\(Blk w' P #[.pointer (some ⟨B,0,none⟩)] 83/\qj (fun _ T=>T=66) w1 w')/\Own w2.heap.size 222 2 w' v3 (yE l)/\
   ∃av pv,Blk w' X (qP a it av [] (.slice none 0 0) [pv,.slice none 0 0]) 82/\Own w.heap.size 9 1 w' av (((l.take k).map (·.2)).map qi)/\Own w.heap.size 9 1 w' pv (((l.take k).map (·.1)).map qi)/\(∀q,av.ownBlock=some q->pv.ownBlock≠some q)):=⟨_,fun _ _ _=>Iff.rfl⟩
 refine zH 10 l.length I (by simp)
  ((hI _ _ _).2 ⟨by simp [r0],by simp [r1],by simp,by simp,by simp,aj,⟨hP3,h66⟩,z,_,_,hX3,Own.nil _ _ _ _,Own.nil _ _ _ _,fun q h=>by cases h⟩) ?_
 intro k s w' hk ah hIk;obtain ⟨r0,r1,r2,r8,r9,hC,⟨hP,Z⟩,hv,av,pv,R,ak,ag,hne⟩:=(hI _ _ _).1 hIk;by_cases ad:k<l.length
 ·have hsp:=qA1 l k ad;have hrow:=qCi (sz:=2) (k:=k) (by rw [<-hsp];exact hv) (by rw [qoi,uF];congr 1;omega) rfl;simp [qiA,qpA,ah,r9,ad,r8,H,J,hrow];refine vR qgJ (by simp) (by simp [Value.cells]) (by simp [Value.cells]) (by kernel_rfl) fun Y w4 hY u hb4 _=>?_;simp [Value.cells] at hb4;have hC4:=hC.ext u;have hX4:=R.ext u;have hP4:=hP.ext u;have hv4:=hv.ext u;have hav4:=ak.ext u;have aa:=ag.ext u;have hXY:X≠Y:=by have:=R.lt;omega
  simp;refine qnz qHl (kD X Y av l[k].1 l[k].2) fun W5 o _=>?_;have ac:=hC4.ext o;have hX5:=hX4.ext o;have hY5:=hb4.ext o;have hJ5:kD X Y av l[k].1 l[k].2 W5:=⟨(QO hX5).2.2.1,hY5⟩;refine ⟨hJ5, ?_⟩;have cJ:∀W,kD X Y av l[k].1 l[k].2 W->W.cell? ⟨X,2,none⟩=some av/\W.cell? ⟨Y,0,none⟩=some (.string (qb l[k].1))/\W.cell? ⟨Y,1,none⟩=some (.string (qb l[k].2)):=fun W h=>
   ⟨h.1,by rw [h.2.cell];rfl,by rw [h.2.cell];rfl⟩
  simp+contextual -implicitDefEqProofs [quN,cJ,hJ5,r1];have hlk:(l.take k).length<=1000000:=by rw [uF];omega
  refine qHC (base:=base) (B:=B) (P:=P) (j:=j3) (g:=g3) (b3:=w2.heap.size) (w:=w) (W0:=w1) (tv:=tv) (nv:=nv) (nv3:=nv3) (a:=a) (pv:=pv) (v3:=v3) (it:=it) (L:=L) (xs:=xs) (pl:=(l.take k).map (·.1)) (al:=(l.take k).map (·.2)) (vs:=yE l) hXw hXY hPX (by simpa using hlk) (by simpa using hlk)
   ⟨ac,⟨hP4.ext o,(Z.trans (qj.ext u)).trans (qj.ext o)⟩,hv4.ext o,hX5,hY5,hav4.ext o,by simp,by simp,by simp,by simp,by simp,by simp,fun d _=>rfl,by simp,by simp,by simp,fun _=>⟨aa.ext o,hne⟩,by simp,fun q hq=>((aa.ext o).blk q hq).2⟩ ?_
  ·intro ρ3 W6 af hP6 hv6 y ⟨av',pv',ae,S,U,hne6⟩;have e10:ρ3 10=.int .i64 (k:Int):=(y 10 (by decide)).trans (by simp [ah]);simp [qpB,e10,q7 (n:=(k:Int)+1) (by omega)];have h9:l.take (k+1)=l.take k++[l[k]]:=by rw [JQ,uj ad];rfl
   have et:∀f:Bs×Bs->Bs,((l.take k).map f++[f l[k]]).map qi=((l.take (k+1)).map f).map qi:=fun f=>by
    rw [h9];simp only [uy,List.map_cons,List.map_nil]
   rw [et (·.1)] at U;rw [et (·.2)] at S;exact (hI _ _ _).2 ⟨by simp [(y 0 (by decide)),r0],by simp [(y 1 (by decide)),r1],by simp [(y 2 (by decide)),r2],by simp [(y 8 (by decide)),r8],by simp [(y 9 (by decide)),r9],af,hP6,hv6,av',pv',ae,S,U,hne6⟩
 ·have hk':k=l.length:=by omega
  subst hk';rw [Jg] at ak ag;simp [qiA,ah,r9,qpz];refine js qDb (fun W=>Blk W P #[.pointer (some ⟨B,0,none⟩)] 83) fun W5 o _=>?_;have ac:=hC.ext o;have hP5:=hP.ext o;refine ⟨hP5, ?_⟩;have cPP:∀W,Blk W P #[.pointer (some ⟨B,0,none⟩)] 83->W.cell? ⟨P,0,none⟩=some (.pointer (some ⟨B,0,none⟩)):=fun W h=>cP h;simp+contextual -implicitDefEqProofs [qpy,cPP,hP5,r1,r2];refine qbY (A':=aX) (fun ho=>qoH hL n (by decide) (by decide) (by decide) (by decide) ac (R.ext o) hXw (by omega) ho) hr3 ai (fun c w' hp=>by simpa using PR.toX hp) ?_;rintro ⟨res,sl⟩ j6 g6 v6 w6 hb6 ⟨rfl,nv6,sv,af,ae,hsv,hsm⟩ hr6;rw [<-hr6,<-hV];have k9:∀{v:AB} {us:List AB},Own w.heap.size 9 1 w' v us->Own w.heap.size 9 1 w6 v us:=fun ho=>(ho.ext o).at' hsm fun q hq=>⟨by decide,by decide,fun e=>by
   obtain ⟨cur,hc⟩:=Own.row ho hq;rw [e,R.heap] at hc;cases hc⟩
  exact ⟨_,rfl,rfl,rfl,nv6,av,sv,pv,af,ae,k9 ak,hsv,k9 ag,(Z.trans (qj.ext o)).trans (hsm.mono66 (R.ext o))⟩
def xy (q:Nat->Prop) (w:AA) (nv:AB) (xs:List NV) (v:AB) (l:List Nd):Prop:=(v=nv/\l=xs.map (·.nd)/\∀x∈xs,∀k,x.kv.ownBlock=some k->q k)\/(ka q w v l/\∀k,v.ownBlock=some k->nv.ownBlock≠some k)
section
variable {base B X:Nat} {w w1 w2:AA} {tv nv nv1 nv2 v:AB} {L:List Tok} {i f j g:Nat} {xs xs1 ys:List NV} {l:List Nd}
theorem xy.at' {q:Nat->Prop} (h:xy q w nv xs v l) {p:Nat->TypeId->Prop} (o:qj p w w1) (e:∀k,p k 3) (b:∀k,nv.ownBlock≠some k->p k 44):xy q w1 nv xs v l:=by
 rcases h with h|⟨n,c⟩
 ·exact .inl h
 ·exact .inr ⟨n.at' o e fun k s=>b k (c k s),c⟩
end
section
variable {w w1:AA} {nv v:AB} {xs:List NV} {l:List Nd} {q q':Nat->Prop} {p:Nat->TypeId->Prop}
theorem xy.at2 (h:xy q w nv xs v l) (o:qj p w w1) (e:∀k,q k->p k 3) (b:∀k,nv.ownBlock≠some k->p k 44):xy q w1 nv xs v l:=by
 rcases h with h|⟨n,c⟩
 ·exact .inl h
 ·exact .inr ⟨n.at2 o e fun k s=>b k (c k s),c⟩
theorem xy.mono (h:xy q w nv xs v l) (u:∀x∈xs,∀k,x.kv.ownBlock=some k->k<w.heap.size) (n:∀k,k<w.heap.size->q k->q' k):xy q' w nv xs v l:=by
 rcases h with ⟨e,c,s⟩|⟨e,c⟩
 ·exact .inl ⟨e,c,fun x b k o=>n k (u x b k o) (s x b k o)⟩
 ·exact .inr ⟨e.mono n,c⟩
end
def PSt.kidLt {base B:Nat} {w:AA} {tv nv:AB} {L:List Tok} {i f:Nat} {xs:List NV} (h:PSt base B w tv nv L i f xs):∀x∈xs,∀k,x.kv.ownBlock=some k->k<w.heap.size:=fun x b k c=>((h.kid x b).blk k c).2
section
variable {base B X:Nat} {w w1 w2:AA} {tv nv nv1 nv2 v:AB} {L:List Tok} {i f j g:Nat} {xs xs1 ys:List NV} {l:List Nd}
structure Cm (base B:Nat) (w:AA) (tv nv:AB) (L:List Tok) (xs:List NV) (w1:AA) (nv1:AB) (i f:Nat) (xs1:List NV):Prop where
 st:PSt base B w1 tv nv1 L i f xs1
 ln:xs1.length<=2*i+2
 tn:TnW base B nv nv1 w w1
 nd:∀q v l,xy q w nv xs v l->xy q w1 nv1 xs1 v l
 b0:base<=w.heap.size
 fr:∀x∈xs1,x∈xs\/xW w x.kv
theorem Cm.start (h:PSt base B w tv nv L i f xs) (b:xs.length<=2*i+2):Cm base B w tv nv L xs w nv i f xs:=⟨h,b,Tn.toW (Tn.refl _ _ _ _),fun _ _ _ h=>h,h.bW,fun _ h=> .inl h⟩
theorem Cm.trans (h:Cm base B w tv nv L xs w1 nv1 i f xs1) (b:Cm base B w1 tv nv1 L xs1 w2 nv2 j g ys):Cm base B w tv nv L xs w2 nv2 j g ys:=
 ⟨b.st,b.ln,h.tn.trans b.tn,fun q v l e=>b.nd q v l (h.nd q v l e),h.b0,fun y n=>by
  rcases b.fr y n with c|c
  ·exact h.fr y c
  ·exact .inr fun k o=>Nat.le_trans h.tn.below.size (c k o)⟩
theorem Cm.ofCu (h:Cu base B w tv nv L xs w1 nv1 j g []) (b:PSt base B w tv nv L i f xs) (c:xs.length<=2*j+2):nv1=nv/\Cm base B w tv nv L xs w1 nv j g xs:=by
 obtain rfl:=h.nvSame b.nvLen;refine ⟨rfl,⟨by simpa using h.st,c,h.tn.toW,fun q v l e=>e.at' (b.sameT h.tn) (fun k=>⟨by decide,.inl (by decide)⟩) fun k n=>⟨by decide,.inr n⟩,h.b0,fun _ h=> .inl h⟩⟩
end
def vZ {β:Type} (base B:Nat) (tv nv:AB) (L:List Tok) (w:AA) (V:β->Nat->Nat->AB->AA->Prop):Rs β->Ending->AA->Prop
 | .oof,_,_=>False
 | .ok a j g,e,w'=>∃v,e=.returned v/\V a j g v w'
 | .no g,e,w'=>e=.panicked yr/\∃j nv' xs',PSt base B w' tv nv' L j g xs'/\TnW base B nv nv' w w'
section
variable {α β:Type} {A:Ans α} {A':Ans β} {L:List Tok} {m:M α} {k:α->M β} {r:Rs β} {base B X:Nat} {w w0 w1:AA} {tv nv nv0 nv1:AB} {i f i0 f0:Nat} {xs xs0 ys:List NV} {K:qa->AA->Prop} {Q:Ks} {ρ:qa} {d:Option Nat}
theorem PR.toM {V:β->Nat->Nat->AB->AA->Prop} {c:List PanicEntry} (s:Cm base B w tv nv L xs w0 nv0 i0 f0 xs0) (h:PR A' base B tv nv0 L xs0 w0 r (.panicked c) w1):vZ base B tv nv L w V r (.panicked c) w1:=by
 cases r with
 |oof=>exact h
 |ok a j g=>obtain ⟨v,_,_,e,_⟩:=h;cases e
 |no g=>
  obtain ⟨j,b,ys,e,o,n⟩:=h;exact ⟨e,j,b,_,o,s.tn.trans n.toW⟩
theorem qmJ {V:α->Nat->Nat->AB->AA->Prop} {V':β->Nat->Nat->AB->AA->Prop} {F:FuncId} {args:Array AB} (H:m i f≠ .oof->Calls Tryz.prog F args w1 (vZ base B tv nv L w V (m i f))) (s:bnd m k i f=r) (E:r≠ .oof)
  (hpn:∀c w',vZ base B tv nv L w V' r (.panicked c) w'->Q.pn ρ c w') (h:∀a j g v w2,m i f=.ok a j g->V a j g v w2->k a j g=r->K (qp ρ d v) w2):Calls Tryz.prog F args w1 (vL Q d K ρ):=by
 have n:m i f≠ .oof:=fun e=>E (by rw [<-s,vc e]);refine (H n).mono ?_;intro e w2 o;cases b:m i f with
 |oof=>exact absurd b n
 |no g=>
  rw [b] at o;obtain ⟨rfl,j,nv2,zs,y,u⟩:=o;rw [qkX];refine hpn _ _ ?_;rw [<-s,jT b];exact ⟨rfl,j,nv2,zs,y,u⟩
 |ok a j g=>
  rw [b] at o;obtain ⟨v,rfl,z⟩:=o;rw [qcC];exact h a j g v w2 b z (by rw [<-s,jS b])
end
def qoE {w:AA} {b:Nat} {v:AB} {l:List Bs} (I:Own b 9 1 w v (l.map qi)) (J:l.length<=1000000):Calls Tryz.prog 210 #[v] w fun e w'=>∃x,e=.returned x/\Own w.heap.size 9 1 w' x (l.map qi)/\qc w w':=by
 have h:qW w v l:=Own.sl I (by omega);refine qFV fun ρ E=>?_;simp [qsU,E];refine qvI (e:=9) (by kernel_rfl) (by simpa using h.is) ?_;simp;cases R:QZ v with
 |true=>
  have:l=[]:=by
   have S:=h.len;rcases xF h.is with ⟨b,o,n,c,rfl,_⟩|rfl|⟨b,o,s,rfl⟩
   rotate_left 2
   ·simp [QZ] at R
   ·simp [QZ] at R
   ·simp [qm] at S;exact uJ.1 S.symm
  subst this;simp;exact ⟨Own.nil _ _ _ _,jd _⟩
 |false=>
  simp [qsT,E];refine jC kj (by decide) (by decide) (by simp) fun B3 W3 F z y _=>?_;simp at y;simp [E];refine qkp qdi z (by rfl) (by rfl) (Own.lit (n:=0) (sz:=1) y (by simp) F (by decide)) (L01.jw (I.ext z)) (by simp [qi,Value.oneCell']) (by simp;omega) (by simp;omega) fun U W4 H u _ _=>?_;simp at u⊢;exact ⟨u,H⟩
theorem z80:jU Tryz.prog 80=some #[.bool false,.slice none 0 0,.string ⟨#[]⟩,.slice none 0 0]:=by kernel_rfl
def qoB {w:AA} {cs:List AB} {s:Sig} (h:yj w cs s) (h1:s.args.length<=1000000) (h2:s.signals.length<=1000000):
  Calls Tryz.prog 125 #[.agg cs.toArray] w fun e w'=>∃cs',e=.returned (.agg cs'.toArray)/\yj w' cs' s/\qc w w':=by
 obtain ⟨av,sv,rfl,ha,hs⟩:=h;have af:=qn ha.isl;have ag:=qn hs.isl;have cA:∀{W:AA} {X:Nat} {a b c d:AB},Blk W X #[a,b,c,d] 80->W.cell? ⟨X,1,none⟩=some b/\W.cell? ⟨X,3,none⟩=some d:=fun h=>⟨by rw [h.cell];rfl,by rw [h.cell];rfl⟩;refine qHg fun ρ r0=>?_;simp [quJ,r0];refine vC fun X w1 hX S F _=>?_;simp [r0,Value.cells,af,ag] at F;simp;refine qQ z80 fun Y w2 hY aa ai _=>?_;have ah:=F.ext aa;have ae:X≠Y:=by have:=F.lt;omega
 simp;refine js qHf (fun W=>Blk W X #[.bool s.iter,av,.string (qb s.result),sv] 80) fun w3 J _=>?_;have z:=ah.ext J;refine ⟨z, ?_⟩;have cX:∀W,Blk W X #[.bool s.iter,av,.string (qb s.result),sv] 80->W.cell? ⟨X,1,none⟩=some av/\W.cell? ⟨X,3,none⟩=some sv:=fun W h=>cA h;simp+contextual -implicitDefEqProofs [quF,cX,z];have n:=(S.trans' aa).trans' J;refine (qoE (ha.ext n) h1).mono ?_;rintro _ w4 ⟨x1,rfl,o1,u⟩;have ab:=z.ext u;simp -implicitDefEqProofs [ab];refine (qoE ((hs.ext n).ext u) h2).mono ?_;rintro _ w5 ⟨x2,rfl,o2,o⟩;have E:=ab.ext o;simp -implicitDefEqProofs [E];refine qD (B:=X) (i:=1) (by simp) E (by simp) (by simpa using qn o1.isl) (by simpa using jf o1.isl) qbU fun w6 H I=>?_;simp at I;simp -implicitDefEqProofs;refine qD (B:=X) (i:=3) (by simp) I (by simp) (by simpa using qn o2.isl) (by simpa using jf o2.isl) qbU fun w7 R U=>?_;simp at U;have ac:=R.blk (H.blk (((ai.ext J).ext u).ext o) (ub ae)) (ub ae);have y:=xc U;simp at y;simp -implicitDefEqProofs [quG,y];refine jg (B:=Y) (by simp) ac (by simp [Value.cells,qn o1.isl,qn o2.isl]) ?_ (by kernel_rfl) fun w8 V Z=>?_
 ·simp [Value.cells,qn o1.isl,qn o2.isl,jf o1.isl,jf o2.isl,QY o1.isl,QY o2.isl]
 simp [Value.cells,qn o1.isl,qn o2.isl] at Z;simp -implicitDefEqProofs;refine qY (by simp) Z (by simp) ?_;have k9:∀{b:Nat} {v:AB} {l:List Bs},Own b 9 1 w5 v (l.map qi)->Own 0 9 1 w8 v (l.map qi):=fun ho=>Own.down (((ho.at' (qj.only H E) fun k _=> .inr (by decide)).at' (qj.only R I) fun k _=> .inr (by decide)).at' (qj.only V ac) fun k _=> .inr (by decide)) (uf _);have ad:=(n.trans' u).trans' o;exact ⟨[.bool s.iter,x1,.string (qb s.result),x2],rfl,⟨x1,x2,rfl,k9 (o1.ext o),k9 o2⟩,V.ext (R.ext (H.ext ad hX) hX) (by have:=S.size;omega)⟩
section
variable {base B X:Nat} {w w1 w2:AA} {tv nv nv1:AB} {L:List Tok} {i f:Nat} {xs xs1:List NV}
theorem Cm.putV (h:Cm base B w tv nv L xs w1 nv1 i f xs1) {cs:Array AB} {T:TypeId} (e:Blk w1 X cs T) (o:T≠44) (z:T≠85) (n:T≠3) (y:T≠53) (s:w.heap.size<=X) (b:Only X w1 w2):Cm base B w tv nv L xs w2 nv1 i f xs1:=by
 have c:=h.tn;have I:=c.below.size;refine ⟨h.st.only (cs:=cs) (T:=T) b (fun _=>e.heap) o z n y,h.ln,⟨c.below.trans (kq b (Nat.le_trans h.b0 s)),fun k E H F=>?_,c.row⟩,fun q v l u=>(h.nd q v l u).at' (qj.only b e) (fun k=> .inr (ub n)) fun k _=> .inr (ub o),h.b0,h.fr⟩;rw [b.block k (by omega)];exact c.block k E H F
theorem Cm.ext (h:Cm base B w tv nv L xs w1 nv1 i f xs1) (b:qc w1 w2):Cm base B w tv nv L xs w2 nv1 i f xs1:=
 ⟨h.st.ext b,h.ln,h.tn.trans (Tn.toW (Tn.ext b h.st.bW)),fun q v l c=>(h.nd q v l c).at' (qj.ext (p:=fun _ _=>True) b) (fun _=>trivial) fun _ _=>trivial,h.b0,h.fr⟩
theorem Cm.reset (h:Cm base B w tv nv L xs w1 nv1 i f xs1) (n:Only B w1 w2) (u:Blk w2 B #[tv,.int .i64 (i:Int),.int .i64 (f:Int),.slice none 0 0] 85):Cm base B w tv nv L xs w2 (.slice none 0 0) i f []:=by
 have b:=h.st;have c:=qj.only n b.blk;refine ⟨⟨u,b.tok.at' c fun k _=> .inr (by decide),Own.nil _ _ _ _,by simp,b.bB,by rw [n.size];exact b.bW,b.tl,b.il,b.fl⟩,by simp,h.tn.trans ⟨kq n b.bB,fun k _ o _=>n.block k o,fun k E=>by cases E⟩,fun q v l y=>?_,h.b0,by simp⟩;refine .inr ⟨?_,fun k _ e=>by cases e⟩;rcases h.nd q v l y with ⟨rfl,rfl,z⟩|⟨F,_⟩
 ·exact ⟨xs1,rfl,Own.down (b.own.at' c fun k _=> .inr (by decide)) (uf _),fun x s=>⟨(b.kid x s).at' c fun k _=> .inr (by decide),z x s⟩⟩
 ·exact F.at' c (fun k=> .inr (by decide)) fun k _=> .inr (by decide)
theorem Cm.block {zs:List NV} {j g:Nat} {nv2:AB} (h:Cu base B w1 tv (.slice none 0 0) L [] w2 nv2 j g zs) (F:PSt base B w1 tv (.slice none 0 0) L i f []) (s:zs.length<=2*j+2):Cm base B w1 tv (.slice none 0 0) L [] w2 nv2 j g zs:=by
 refine ⟨by simpa using h.st,s,h.tn.toW,fun q v l u=> .inr ?_,h.b0,fun y z=> .inr (h.fr y z)⟩;have b:=F.sameT h.tn;rcases u with ⟨rfl,rfl,_⟩|⟨o,_⟩
 ·exact ⟨⟨[],rfl,Own.nil _ _ _ _,by simp⟩,fun k c=>by cases c⟩
 ·refine ⟨o.at' b (fun k=>⟨by decide,.inl (by decide)⟩) fun k _=>⟨by decide,.inr (by simp [Value.ownBlock])⟩,fun k c e=>?_⟩;obtain ⟨H,_,E,_⟩:=o;have I:=(E.blk k c).2;rcases h.tn.row k e with n|n
  ·cases n
  ·omega
end
def qoF {L:List Tok} (hL:jJ L) (aa:wO L) (n:Nat) {base B X:Nat} {w w1:AA} {tv nv nv1 a av sv pv:AB} {it:Bool} {s:Bs} {i0 f0 i f:Nat} {xs:List NV} (hS:PSt base B w tv nv L i0 f0 xs) (hn0:xs.length<=2*i0+2)
  (hC:Cu base B w tv nv L xs w1 nv1 i f []) (hX:Blk w1 X (qP a it av s sv [pv,.slice none 0 0]) 82) (hXw:w.heap.size<=X) (hn:xs.length<=2*i+2) (u:wI L n i f≠ .oof):
  Calls Tryz.prog 124 #[.pointer (some ⟨B,0,none⟩),.pointer (some ⟨X,0,none⟩)] w1 (vZ base B tv nv L w (fun l j g v w'=>v=.tuple #[]/\∃nv2 ys,Cm base B w tv nv L xs w' nv2 j g ys/\Blk w' X (qP a it av s sv [pv,nv2]) 82/\l=ys.map (·.nd)/\qj (QN X) w1 w'/\∀y∈ys,xW w y.kv) (wI L n i f)):=by
 generalize hr:wI L n i f=r at u;have hM0:=Cm.start hS hn0;generalize hV:(fun (l:List Nd) (j g:Nat) (v:AB) (w':AA)=>v=Value.tuple #[]/\∃nv2 ys,Cm base B w tv nv L xs w' nv2 j g ys/\Blk w' X (qP a it av s sv [pv,nv2]) 82/\l=ys.map (·.nd)/\qj (QN X) w1 w'/\∀y∈ys,xW w y.kv)=V;refine qHh fun ρ r0 r1=>?_;simp [quK,r0];refine jq hC [105,115] fun v2 w2 hE2 J hv2=>?_;simp;refine jz (A':=aX) J hv2 (by simp) hr u (fun c w' hp=>by simpa using PR.toM hM0 hp) ?_;intro j3 g3 nv3 w3 U hC3 S hr3;have hj3:=(jP _ _ _ _ _ U).1;have hX3:=J.st.var S (hX.ext hE2) (by decide) (by decide);obtain ⟨rfl,I⟩:=Cm.ofCu hC3 hS (by omega);simp [r0];refine qD (B:=B) (i:=3) (by simp) I.st.blk (by simp) (by simp [Value.cells]) (by simp) qbV fun w4 H hb4=>?_;simp at hb4;have b:=I.reset H hb4;have hBX:X≠B:=by have:=hS.blk.lt;omega
 have hX4:=H.blk hX3 hBX;simp [r0];refine vq (A:=aT) (A':=aX) (qBS hL aa n) (Cu.start b.st) (by simp) hr3 u (fun c w' hp=>by simpa using PR.toM b hp) ?_;intro t j5 g5 v5 nv5 zs w5 ht F e hT5 hv5 hr5;simp only [List.nil_append] at F e;change zs.map (·.nd)=t.flat 0 at e;have hz5:=qms n _ _ _ _ _ ht;have hzl:=vk e;have R:=b.trans (Cm.block F b.st (by omega));have z:=b.st.var hT5 hX4 (by decide) (by decide);have hi5:=R.st.own.isl;simp [r0,r1,R.st.blk.cell];refine qD (B:=X) (i:=6) (by simp [r1]) z (by simp [qP]) (by simpa using qn hi5) (by simpa using jf hi5) qbV fun w6 hO6 hb6=>?_;have hX6:Blk w6 X (qP a it av s sv [pv,nv5]) 82:=by simpa [qP] using hb6
 have o:=R.putV z (by decide) (by decide) (by decide) (by decide) hXw hO6;simp [r0];refine jq (Cu.start o.st) [101,110,100] fun v7 w7 ab E hv7=>?_;simp;refine jz (A':=aX) E hv7 (by simp) hr5 u (fun c w' hp=>by simpa using PR.toM o hp) ?_;intro j8 g8 nv8 w8 hne8 hC8 Z hr8;have hj8:=(jP _ _ _ _ _ hne8).1;have hln:=o.ln;obtain ⟨rfl,hM8⟩:=Cm.ofCu hC8 o.st (by omega);rw [<-hr8,<-hV];refine ⟨_,rfl,rfl,_,zs,o.trans hM8,E.st.var Z (hX6.ext ab) (by decide) (by decide),e.symm, ?_,fun y hy k hk=>Nat.le_trans b.tn.below.size (F.fr y hy k hk)⟩;exact ((((((qj.ext hE2).trans (J.sm S)).trans ((qj.only H I.st.blk).mono fun _ _ h=> .inr h.1)).trans ((b.st.sameT hT5).mono fun _ _ h=>⟨h.1,.inl h.2.1⟩)).trans (smO hO6 z)).trans (qj.ext ab)).trans (E.sm Z)
end Go.L02
