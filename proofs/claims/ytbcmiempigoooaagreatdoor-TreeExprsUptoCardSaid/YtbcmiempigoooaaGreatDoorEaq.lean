/- Lemmas for a claim about layer 2 (tree). No conditions but those they state. -/
import Derived.Test.YtbcmiempigoooaaGreatDoorEap
import Derived.Test.YtbcmiempigoooaaGreatDoorProg
import Derived.KernelRfl
set_option linter.all false
namespace Go.L02
open Go Go.Eng Go.RowKit
open Go.Proofs hiding encI
open Go.L01 (Bd Bs Own.same SlK Tok fV jA jX jY jZ jb jh qF qbG qi qp vc vu xb zz)
set_option maxRecDepth 100000
set_option maxHeartbeats 4000000
def qhi (L:List Tok):Prop:=∀t∈L,t.kind=3->Lib.atoiAll t.text=.ok (yW t.text)
@[simp] theorem qJS:qh Tryz.prog 273=true:=by kernel_rfl
@[simp] theorem qOq:qh Tryz.prog 217=true:=by kernel_rfl
@[simp] theorem qOM:qh Tryz.prog 139=true:=by kernel_rfl
def qpc {w:World} {s:Bs} {n:Int} (c:s.length<=20) (h:Lib.atoiAll s=.ok n):Calls Tryz.prog 273 #[.string (qb s)] w fun e w'=>qc w w'/\e=.returned (.tuple #[.int .i64 n,.nilIface]):=by
 refine (Tryz.atoi_ok (qb s) (by show s.length<=_;omega) n h w).mono ?_;rintro _ w' ⟨rfl,a⟩;refine ⟨?_,rfl⟩;rcases a with rfl|⟨t,rfl⟩
 ·exact qO _
 ·exact ⟨rfl,rfl,rfl,by rw [Lib.bytesWorld_size];omega,fun k b=>Lib.bytesWorld_at_old _ _ _ _ b⟩
section
variable {L:List Tok} {base B X:Nat} {w w1:World} {tv nv nv1:Value} {i f:Nat} {xs ys:List NV} {K:qa->World->Prop} {Q:Ks} {ρ:qa} {d:Option Nat}
theorem qej {t ty:TypeId} {p v:Operand} (a:Cu base B w tv nv L xs w1 nv1 i f ys) (E:i<L.length) (y:qe ρ p=.pointer (some ⟨B,1,none⟩)) (c:qe ρ v=.int .i64 (IntKind.i64.wrap ((i:Int)+1))) (z:jT Tryz.prog t 1=true)
  (h:∀W,Cu base B w tv nv L xs W nv1 (i+1) f ys->Tn base B nv1 nv1 w1 W->K (qn ρ d undef) W):qx Tryz.prog Q d (.store t p v) ty K ρ w1:=by
 have u:=a.st.tl;have F:IntKind.i64.wrap ((i:Int)+1)=((i+1:Nat):Int):=by rw [qH (by omega)];push_cast;rfl
 rw [F] at c;refine qW (B:=B) (i:=1) y a.st.blk (by simp) (by rw [c];simp [Value.cells]) (by rw [c];simp) z fun W H e=>?_;rw [c] at e;simp at e;have s:Blk W B #[tv,.int .i64 ((i+1:Nat):Int),.int .i64 (f:Int),nv1] 85:=by simpa using e
 obtain ⟨o,b⟩:=a.st.move H s E a.st.fl;exact h W ⟨o,a.tn.trans b,a.fr,a.b0⟩ b
theorem isB {v:Value} {ss:List Bs} (a:Cu base B w tv nv L xs w1 nv1 i f ys) (c:jb w1 v ss) (h:∀w2,qc w1 w2->Cu base B w tv nv L xs w2 nv1 i f ys->K (qn ρ d (.bool (qo L i ss))) w2):
  Calls Tryz.prog 141 #[.pointer (some ⟨B,0,none⟩),v] w1 (zD Q d K ρ):=by
 refine (qo8 a.st c).mono ?_;rintro _ w2 ⟨rfl,b⟩;rw [qed];exact h w2 b (a.ext b)
theorem qcx {r:Rs (T×Bool)} {t:T} {b:Bool} {v:Value} (c:Cu base B w tv nv L xs w1 nv1 i f ys) (a:ys.map (·.nd)=t.flat xs.length) (e:v=.int .i64 ((xs.length:Int)+t.size - 1)) (h:ret (t,b) i f=r):PR kQ base B tv nv L xs w r (.returned (.tuple #[v,.bool b])) w1:=by
 rw [<-h];exact ⟨_,nv1,ys,rfl,c.st,a,c.fr,c.tn,by rw [e];rfl⟩
theorem qck {r:Rs (T×Bool)} {x:NV} {d:D} {b:Bool} (c:Cu base B w tv nv L xs w1 nv1 i f [x]) (e:x.nd=⟨d,[]⟩) (a:ret (T.mk d [],b) i f=r):PR kQ base B tv nv L xs w r (.returned (.tuple #[.int .i64 (xs.length:Int),.bool b])) w1:=
 qcx c (by simpa using qd5 (ys:=[]) (ks:=[]) (b:=xs.length) rfl e) (by have:=qdl (ys:=[]) (xs:=xs) (d:=d) (ks:=[]) rfl;simpa using this) a
end
def Cu.turnO {base B O:Nat} {w w1 w2:World} {tv nv nv1 nv2:Value} {L:List Tok} {i f j g:Nat} {xs ys:List NV} (h:Cu base B w tv nv L xs w1 nv1 i f ys) (t:PSt base B w2 tv nv2 L j g (xs++ys)) (c:TnO base B O nv1 nv2 w1 w2) (z:w.heap.size<=O) (u:nv2=nv\/ql nv<ql nv2):Cu base B w tv nv L xs w2 nv2 j g ys:=by
 have y:=h.tn.size;refine ⟨t,⟨(h.tn.below).trans c.below,fun k b s o=>?_,fun k b=>?_,u⟩,h.fr,h.b0⟩
 ·refine (c.block k (by omega) s (fun e=>?_) (by omega)).trans (h.tn.block k b s o);rcases h.tn.row k e with a|a
  ·exact o a
  ·omega
 ·rcases c.row k b with a|a
  ·exact h.tn.row k a
  ·exact .inr (by omega)
def Cu.backO {base B O:Nat} {w w1 w2 u:World} {tv nv nv1 nv2 a:Value} {L:List Tok} {i f j g:Nat} {xs ys zs:List NV} (h:Cu base B w tv nv L xs w1 nv1 i f ys) (c:TnO base B O nv1 nv2 w1 w2) (J:w.heap.size<=O) (s:Cu base B w2 tv nv2 L xs u a j g zs) (E:ql nv<ql a):Cu base B w tv nv L xs u a j g zs:=by
 have I:=h.tn.size;have F:=c.below.size;refine ⟨s.st,TnW.full (TnW.trans (nv1:=nv2) (w1:=w2) ⟨(h.tn.below).trans c.below,fun k o z t=>?_,fun k o=>?_⟩ s.tn.toW) (.inr E),fun y H=>(s.fr y H).mono (by omega),h.b0⟩
 ·refine (c.block k (by omega) z (fun e=>?_) (by omega)).trans (h.tn.block k o z t);rcases h.tn.row k e with b|b
  ·exact t b
  ·omega
 ·rcases c.row k o with b|b
  ·exact h.tn.row k b
  ·exact .inr (by omega)
def PSt.nvLen {base B:Nat} {w:World} {tv nv:Value} {L:List Tok} {i f:Nat} {xs:List NV} (h:PSt base B w tv nv L i f xs):ql nv=xs.length:=by
 have:=(L01.jR h.own).len;rw [yV] at this;omega
def TnO.var {base B O X:Nat} {w1 w2:World} {tv nv1 nv2:Value} {L:List Tok} {i f:Nat} {xs:List NV} (o:TnO base B O nv1 nv2 w1 w2) (h:PSt base B w1 tv nv1 L i f xs) {cs:Array Value} {T:TypeId} (a:Blk w1 X cs T) (e:T≠44) (b:T≠85) (c:X≠O):Blk w2 X cs T:=
 ⟨(o.block X a.lt (h.blkNe a.heap b) (h.rowNe a.heap e) c).trans a.heap⟩
theorem qKj (n:Int):Tryz.prog.built 44 [(0,.int .u8 1),(4,.int .i64 n)]=some (qk (jv 1 [] [] [] n (.slice none 0 0) [])).toArray:=by kernel_rfl
theorem qKi:Tryz.prog.built 44 [(0,.int .u8 2),(4,.int .i64 1)]=some (qk (jv 2 [] [] [] 1 (.slice none 0 0) [])).toArray:=by kernel_rfl
theorem qKh:Tryz.prog.built 44 [(0,.int .u8 2)]=some (qk (jv 2 [] [] [] 0 (.slice none 0 0) [])).toArray:=by kernel_rfl
theorem qKg:Tryz.prog.built 44 [(0,.int .u8 3)]=some (qk (jv 3 [] [] [] 0 (.slice none 0 0) [])).toArray:=by kernel_rfl
theorem qKf:Tryz.prog.built 44 [(0,.int .u8 9)]=some (qk (jv 9 [] [] [] 0 (.slice none 0 0) [])).toArray:=by kernel_rfl
theorem qxa (s:Bs):Tryz.prog.built 44 [(0,.int .u8 4),(1,.string (qb s))]=some (qk (jv 4 s [] [] 0 (.slice none 0 0) [])).toArray:=by kernel_rfl
def qcb (b e sz:Nat) (w:World):Own b e sz w (.slice none 0 0) []:=Own.nil _ _ _ _
def qB2 {L:List Tok} (hL:xn L) (hNum:qhi L) {e:M T} (he:Mt aT L 62 me e) (hu:Up e) (hz:Sz T.size 0 e) (n:Nat):Mt kQ L 217 me (xi L n e):=by
 intro base B w tv nv i f xs hS hn ae;have hil:=hS.il;have htl:=hS.tl;generalize y:xi L n e i f=r at ae;refine qEd fun ρ r0=>?_;simp [qqg,r0];refine vO fun P W1 hPw hE1 hbP _=>?_;simp [Value.cells,r0] at hbP;have cP1:W1.cell? ⟨P,0,none⟩=some (.pointer (some ⟨B,0,none⟩)):=by rw [hbP.cell];rfl
 simp [cP1];refine (qbk (hS.ext hE1) 0 (by decide)).mono ?_;rintro _ w2 ⟨rfl,hE2⟩;simp;refine qd9 z53 (by simp) (by simp [Value.cells,kj]) (by simp [Value.cells,kj]) (by simpa [Value.cells] using qag) fun X W3 hX hE3 hbX _=>?_;simp [Value.cells,kj] at hbX;have hP3:=(hbP.ext hE2).ext hE3;have cP3:W3.cell? ⟨P,0,none⟩=some (.pointer (some ⟨B,0,none⟩)):=by rw [hP3.cell];rfl
 simp [cP3];refine (qbk (((hS.ext hE1).ext hE2).ext hE3) 1 (by decide)).mono ?_;rintro _ w4 ⟨rfl,hE4⟩;have hC:=(((((Cu.start hS).ext hE1).ext hE2).ext hE3).ext hE4);have hP:=hP3.ext hE4;have hX4:=hbX.ext hE4;obtain ⟨c0,c1,c2⟩:=kT hX4;have cP:w4.cell? ⟨P,0,none⟩=some (.pointer (some ⟨B,0,none⟩)):=by rw [hP.cell];rfl
 simp [kj,c0,c1,cP];unfold xi at y;by_cases h3:(tk L i).kind=3
 ·rw [if_pos h3] at y;have hlt:=Qw h3 (by decide);have h3':((tk L i).kind:Int)=3:=by omega
  simp [h3',hC.st.blk.cell];refine qej hC hlt (by simp) (by simp) vp fun w5 hC5 hT5=>?_;have hX5:=hC.st.var hT5 hX4 (by decide) (by decide);have cX5:=(kT hX5).2.1;have hP5:=hC.st.var hT5 hP (by decide) (by decide);have cP5:w5.cell? ⟨P,0,none⟩=some (.pointer (some ⟨B,0,none⟩)):=by rw [hP5.cell];rfl
  simp [cX5];refine (qpc (qm2 hL i) (hNum _ (by rw [kR hlt];exact wz hlt) h3)).mono ?_;rintro _ w6 ⟨hE6,rfl⟩;have hC6:=hC5.ext hE6;have cP6:=hE6.cell cP5;simp [cP6];rw [qKj];dsimp only [vt];refine yn hC6 (jv 1 [] [] [] (yW (tk L i).text) (.slice none 0 0) []) (qcb _ _ _ _) (by simp;omega) fun nv7 w7 V hT7=>?_;simp;exact qck V rfl y
 ·rw [if_neg h3] at y;have h3':¬((tk L i).kind:Int)=3:=by omega
  simp [h3',cP];have hC4:=hC;have hP4:=hP;refine QQ (s:=[116,114,117,101]) hC4 y (fun w5 hc5 hC5 hT5 y=>?_) (fun w5 hc5 hC5 hT5 y=>?_)
  ·have hP5:=hC4.st.var hT5 hP4 (by decide) (by decide);have cP5:w5.cell? ⟨P,0,none⟩=some (.pointer (some ⟨B,0,none⟩)):=by rw [hP5.cell];rfl
   simp [cP5];rw [qKi];dsimp only [vt];refine yn hC5 (jv 2 [] [] [] 1 (.slice none 0 0) []) (qcb _ _ _ _) (by simp;omega) fun nv7 w7 V hT7=>?_;simp;exact qck V rfl y
  have hP5:=hC4.st.var hT5 hP4 (by decide) (by decide);have hX5:=hC4.st.var hT5 hX4 (by decide) (by decide);have cP5:w5.cell? ⟨P,0,none⟩=some (.pointer (some ⟨B,0,none⟩)):=by rw [hP5.cell];rfl
  obtain ⟨cx5,cy5,_⟩:=kT hX5;simp [cP5,cx5,cy5];refine QQ (s:=[102,97,108,115,101]) hC5 y (fun w6 hc6 hC6 hT6 y=>?_) (fun w6 hc6 hC6 hT6 y=>?_)
  ·have hP6:=hC5.st.var hT6 hP5 (by decide) (by decide);have cP6:w6.cell? ⟨P,0,none⟩=some (.pointer (some ⟨B,0,none⟩)):=by rw [hP6.cell];rfl
   simp [cP6];rw [qKh];dsimp only [vt];refine yn hC6 (jv 2 [] [] [] 0 (.slice none 0 0) []) (qcb _ _ _ _) (by simp;omega) fun nv7 w7 V hT7=>?_;simp;exact qck V rfl y
  have hP6:=hC5.st.var hT6 hP5 (by decide) (by decide);have hX6:=hC5.st.var hT6 hX5 (by decide) (by decide);have cP6:w6.cell? ⟨P,0,none⟩=some (.pointer (some ⟨B,0,none⟩)):=by rw [hP6.cell];rfl
  obtain ⟨cx6,cy6,_⟩:=kT hX6;simp [cP6,cx6,cy6];refine QQ (s:=[110,105,108]) hC6 y (fun w7 hc7 V hT7 y=>?_) (fun w7 hc7 V hT7 y=>?_)
  ·have hP7:=hC6.st.var hT7 hP6 (by decide) (by decide);have cP7:w7.cell? ⟨P,0,none⟩=some (.pointer (some ⟨B,0,none⟩)):=by rw [hP7.cell];rfl
   simp [cP7];rw [qKg];dsimp only [vt];refine yn V (jv 3 [] [] [] 0 (.slice none 0 0) []) (qcb _ _ _ _) (by simp;omega) fun nv7 w7 V hT7=>?_;simp;exact qck V rfl y
  have hP7:=hC6.st.var hT7 hP6 (by decide) (by decide);have hX7:=hC6.st.var hT7 hX6 (by decide) (by decide);have cP7:w7.cell? ⟨P,0,none⟩=some (.pointer (some ⟨B,0,none⟩)):=by rw [hP7.cell];rfl
  obtain ⟨cx7,cy7,_⟩:=kT hX7;simp [cP7,cx7,cy7];refine jV yQ (by decide) (by decide) (by simp [Value.cells]) fun Z W8 hZ hE8 hb8 _=>?_;simp [Value.cells] at hb8;have hC8':=V.ext hE8;simp;refine isB (ss:=[[117,112],[100,111,119,110]]) hC8' (qeR (l:=[[117,112],[100,111,119,110]]) (by simpa [qi,qb] using hb8) (by decide)) fun w8 hE8' hC8=>?_;have hP8:=(hP7.ext hE8).ext hE8';have hX8:=(hX7.ext hE8).ext hE8';have cP8:w8.cell? ⟨P,0,none⟩=some (.pointer (some ⟨B,0,none⟩)):=by rw [hP8.cell];rfl
  obtain ⟨cx8,cy8,_⟩:=kT hX8;by_cases h8:qo L i [[117,112],[100,111,119,110]]=true
  ·simp only [h8,kk] at y;have hlt:=wQ h8;simp [h8];rw [qKf];dsimp only [vt];refine qd9 z44 (by simp) (by simp [Value.cells,qk]) (by simp [Value.cells,qk,jv]) (by kernel_rfl) fun Y w9 hY hE9 hb9 _=>?_;simp [Value.cells] at hb9;have hN9:=hC8.newN hY hE9 hb9;have H:=hC8.ext hE9;have ab:=hP8.ext hE9;have hYw:w.heap.size<=Y:=Nat.le_trans hC8.size hY;have cP9:w9.cell? ⟨P,0,none⟩=some (.pointer (some ⟨B,0,none⟩)):=by rw [ab.cell];rfl
   simp [cP9];have hr':bnd (needs L [[40]]) (fun _=>bnd e fun t=>bnd (needs L [[41]]) fun _=>ret (T.mk {kind:=if qo L i [[100,111,119,110]] then 10 else 9} [t],false)) (i+1) f=r:=by
    rw [<-y];show _=bnd (bnd _ _) _ (i+1) f;simp only [sq,wv,y9]
   have rest:∀(ρ2:qa) (k:Nat) I,Cu base B w tv nv L xs I nv i f []->NVr B Y nv I (jv k [] [] [] 0 (.slice none 0 0) [])->Blk I P #[.pointer (some ⟨B,0,none⟩)] 83->ρ2 1=.pointer (some ⟨P,0,none⟩)->ρ2 8=.pointer (some ⟨Y,0,none⟩)->
     bnd (needs L [[40]]) (fun _=>bnd e fun t=>bnd (needs L [[41]]) fun _=>ret (T.mk {kind:=k} [t],false)) (i+1) f=r->
     qju.wp ⟨Tryz.prog,157,qdQ,[]⟩ (qfQ.wp ⟨Tryz.prog,157,qdQ,[]⟩ (qB [.tmp 2,.tmp 3] (PR kQ base B tv nv L xs w r)) (ji [.tmp 2,.tmp 3] (PR kQ base B tv nv L xs w r))) ((ji [.tmp 2,.tmp 3] (PR kQ base B tv nv L xs w r)).blk 0 (qfQ.wp ⟨Tryz.prog,157,qdQ,[]⟩ (qB [.tmp 2,.tmp 3] (PR kQ base B tv nv L xs w r)) (ji [.tmp 2,.tmp 3] (PR kQ base B tv nv L xs w r)))) ρ2 I:=by
    intro ρ2 k I a hN10 u r1 r8 y;have cP10:I.cell? ⟨P,0,none⟩=some (.pointer (some ⟨B,0,none⟩)):=by rw [u.cell];rfl
    simp [qju,r1,r8,cP10,a.st.blk.cell];refine qej a hlt (by simp) (by simp) vp fun af o z=>?_;have E:=a.st.var z u (by decide) (by decide);have hN11:=hN10.turn z;have cP11:af.cell? ⟨P,0,none⟩=some (.pointer (some ⟨B,0,none⟩)):=by rw [E.cell];rfl
    simp [r1,r8,cP11];refine qay o [40] fun v12 w12 hE12 b J=>?_;simp;refine qbm (A':=kQ) b J (by simp) y ae (fun c w' hp=>by simpa using hp) ?_;intro j13 g13 nv13 w13 hne13 ad hT13 hr13;have hj13:=(qcE _ _ _ _ _ hne13).1;have hP13:=b.st.var hT13 (E.ext hE12) (by decide) (by decide);have hN13:=(hN11.ext hE12).turn hT13;have cP13:w13.cell? ⟨P,0,none⟩=some (.pointer (some ⟨B,0,none⟩)):=by rw [hP13.cell];rfl
    simp [r1,r8,cP13];refine Qm (A:=aT) (A':=kQ) he ad (by simp;omega) hr13 ae (fun c w' hp=>by simpa using hp) ?_;intro t j14 g14 v14 nv14 zs w14 ht hC14 hnd14 hT14 hv14 hr14;simp only [List.nil_append,uy] at hC14 hnd14 hv14;change v14=_ at hv14;subst hv14;change zs.map (·.nd)=t.flat xs.length at hnd14;have hz14:=hz _ _ _ _ _ ht;have hzl:zs.length=t.size:=by rw [<-T.flat_len t xs.length,<-hnd14,uh]
    have hjl14:=hC14.st.il;simp;refine jV QU (by decide) (by simp) (by simp [Value.cells]) fun Z w15 hZ hE15 hb15 _=>?_;simp [Value.cells] at hb15;have hC15:=hC14.ext hE15;have hk15:Own w.heap.size 3 1 w15 (.slice (some ⟨Z,0,none⟩) 1 1) ((qt xs.length [t]).map encI):=Own.lit (sz:=1) (cs:=(qt xs.length [t]).map encI) (by simpa [qt,encI] using hb15) (by simp [qt]) (Nat.le_trans hC14.size hZ) (by decide);simp [r1,r8];refine qdw (c:=5) (x':=jv k [] [] [] 0 (.slice (some ⟨Z,0,none⟩) 1 1) (qt xs.length [t])) hC15 ((hN13.turn hT14).ext hE15) hYw (by simp [r8]) (by simp [qk]) (by simp [Value.cells]) (by simp) qhY (by simp [qk,jv]) fun w16 hO16 hC16 hN16=>?_;have hk16:=qi7 ((hN13.turn hT14).ext hE15) hO16 hk15 (by decide);have hP16:Blk w16 P #[.pointer (some ⟨B,0,none⟩)] 83:=hO16.blk ((ad.st.var hT14 hP13 (by decide) (by decide)).ext hE15) (by have:=hP8.lt;omega);have cP16:w16.cell? ⟨P,0,none⟩=some (.pointer (some ⟨B,0,none⟩)):=by rw [hP16.cell];rfl
    simp [r1,r8,cP16];refine qay hC16 [41] fun v17 w17 hE17 hC17 hv17=>?_;simp;refine qbm (A':=kQ) hC17 hv17 (by simp) hr14 ae (fun c w' hp=>by simpa using hp) ?_;intro j18 g18 nv18 w18 hne18 hC18 hT18 hr18;have hk18:=hC17.keep hT18 (hk16.ext hE17) (by decide) (by decide);have hN18:=(hN16.ext hE17).turn hT18;have hP18:=hC17.st.var hT18 (hP16.ext hE17) (by decide) (by decide);have cP18:w18.cell? ⟨P,0,none⟩=some (.pointer (some ⟨B,0,none⟩)):=by rw [hP18.cell];rfl
    simp [r1,r8,cP18,hN18.row];refine yn hC18 (jv k [] [] [] 0 (.slice (some ⟨Z,0,none⟩) 1 1) (qt xs.length [t])) hk18 (by simp;omega) fun nv19 w19 hC19 hT19=>?_;simp;have hfl:zs.map (·.nd)=flats xs.length [t]:=by rw [hnd14];simp [flats]
    exact qcx hC19 (qd5 hfl rfl) (qdl hfl) hr18
   refine qay (L:=L) H [100,111,119,110] fun v10 I F a U=>?_;simp;refine isB (ss:=[[100,111,119,110]]) a (Own.sl U (by simp)) fun af hE11 o=>?_;have hN11:=(hN9.ext F).ext hE11;have E:=(ab.ext F).ext hE11;cases hd:qo L i [[100,111,119,110]] with
   |true=>
    rw [hd] at hr';simp;refine qdw (c:=0) (x':=jv 10 [] [] [] 0 (.slice none 0 0) []) o hN11 hYw (by simp) (by simp [qk]) (by simp [Value.cells]) (by simp) (by kernel_rfl) (by simp [qk,jv]) fun w12 hO12 b hN12=>?_;exact rest _ 10 w12 b hN12 (hO12.blk E (by have:=hP8.lt;omega)) (by simp) (by simp) hr'
   |false=>
    rw [hd] at hr';simp;exact rest _ 9 af o hN11 E (by simp) (by simp) hr'
  ·simp only [h8,uf,km] at y;have h8':qo L i [[117,112],[100,111,119,110]]=false:=by simpa using h8
   simp [h8',cP8];refine QQ (s:=[40]) hC8 y (fun w9 hc9 H hT9 y=>?_) (fun w9 hc9 H hT9 y=>?_)
   ·have ab:=hC8.st.var hT9 hP8 (by decide) (by decide);have cP9:w9.cell? ⟨P,0,none⟩=some (.pointer (some ⟨B,0,none⟩)):=by rw [ab.cell];rfl
    simp [cP9];have hr':bnd e (fun t=>bnd (needs L [[41]]) fun _=>ret (t,false)) (i+1) f=r:=by
     rw [<-y];show _=bnd (bnd _ _) _ (i+1) f;simp only [sq,wv,y9]
    refine Qm (A:=aT) (A':=kQ) he H (by simp;omega) hr' ae (fun c w' hp=>by simpa using hp) ?_;intro t j10 g10 v10 nv10 zs I ht a aa hT10 U hr10;simp only [List.nil_append,uy] at a aa U;have u:=H.st.var hT10 ab (by decide) (by decide);have cP10:I.cell? ⟨P,0,none⟩=some (.pointer (some ⟨B,0,none⟩)):=by rw [u.cell];rfl
    simp [cP10];refine qay a [41] fun v11 af hE11 o hv11=>?_;simp;refine qbm (A':=kQ) o hv11 (by simp) hr10 ae (fun c w' hp=>by simpa using hp) ?_;intro j12 g12 nv12 w12 hne12 b ac hr12;simp;exact qcx b aa U hr12
   have ab:=hC8.st.var hT9 hP8 (by decide) (by decide);have hX9:=hC8.st.var hT9 hX8 (by decide) (by decide);have cP9:w9.cell? ⟨P,0,none⟩=some (.pointer (some ⟨B,0,none⟩)):=by rw [ab.cell];rfl
   obtain ⟨cx9,cy9,_⟩:=kT hX9;simp [cP9,cx9,cy9];have e40:(⟨#[40]⟩:ByteArray)=qb [40]:=rfl;have e123:(⟨#[123]⟩:ByteArray)=qb [123]:=rfl;have e91:(⟨#[91]⟩:ByteArray)=qb [91]:=rfl;have e36:(⟨#[36]⟩:ByteArray)=qb [36]:=rfl;have hk:(((tk L i).kind:Int)=1)↔(tk L i).kind=1:=by omega
   simp only [e40,e123,jC,hk];unfold xq at y;by_cases h1:(tk L i).kind=1/\((tk L (i+1)).text=[40]\/(tk L (i+1)).text=[123])
   ·rw [if_pos h1] at y;rw [if_pos h1];refine Qm (A:=aT) (A':=kQ) (k:=fun x=>ret (x,true)) (qCg hL he hu hz n) H (by simpa using hn) y ae (fun c w' hp=>by simpa using hp) ?_;intro t j10 g10 v10 nv10 zs I ht a aa hT10 U hr10;simp only [List.nil_append,uy] at a aa U;simp;exact qcx a aa U hr10
   rw [if_neg h1] at y;rw [if_neg h1];simp [cP9,cx9,cy9,e91,jC,hk];by_cases h2:(tk L i).kind=1/\(tk L (i+1)).text=[91]
   ·rw [if_pos h2] at y;rw [if_pos h2];have hlt:=Qw h2.1 (by decide);refine qd9 z9 (by simp) (by simp [Value.cells]) (by simp [Value.cells]) (by kernel_rfl) fun O I hO F hb10 _=>?_;simp [Value.cells] at hb10;have a:=H.ext F;have u:=ab.ext F;have hX10:=hX9.ext F;have hOw:w.heap.size<=O:=Nat.le_trans H.size hO;have hPO:P≠O:=by have:=ab.lt;omega
    have hXO:X≠O:=by have:=hX9.lt;omega
    have cP10:I.cell? ⟨P,0,none⟩=some (.pointer (some ⟨B,0,none⟩)):=by rw [u.cell];rfl
    simp [cP10];have how:jF L n i f≠ .oof:=fun e2=>by rw [e2] at y;exact ae y.symm
    refine (qB1 hL n (xs:=xs) (by simpa using a.st) hn u hb10 (Nat.le_trans H.b0 hOw) how).mono ?_;intro e2 af hp;cases hm:jF L n i f with
    |oof=>exact absurd hm how
    |ok s j g=>
     rw [hm] at hp y;obtain ⟨rfl,nv11,hS11,z,hO11,hg11⟩:=hp;have o:=a.turnO (by simpa using hS11) z hOw (by
      rcases hg11 with e|e
      ·rw [e];exact a.tn.gr
      ·rcases a.tn.gr with e2|e2
       ·rw [e2] at e;exact .inr e
       ·exact .inr (by omega))
     have hj:=((qad n).ok hm).1;have E:=z.var a.st u (by decide) (by decide) hPO;have cP11:af.cell? ⟨P,0,none⟩=some (.pointer (some ⟨B,0,none⟩)):=by rw [E.cell];rfl
     have cO11:af.cell? ⟨O,0,none⟩=some (.string (qb s)):=by rw [hO11.cell];rfl
     simp [cP11,cO11];refine qb0 (A:=aT) (A':=kQ) (k:=fun x=>ret (x,true)) (fun ho=>qo4 hL he hu hz n s base B af tv nv11 j g (xs++[]) o.st (by simp;omega) ho) o y ae (fun c w' hp=>by simpa using hp) ?_;intro t j12 g12 v12 nv12 zs w12 ht b S ac J hr12;simp only [List.nil_append,uy] at b S J;simp;exact qcx b S J hr12
    |no g=>
     rw [hm] at hp y;obtain ⟨rfl,nv11,hS11,z⟩:=hp;have o:=Cu.start hS11;have E:=z.var a.st u (by decide) (by decide) hPO;have hX11:=z.var a.st hX10 (by decide) (by decide) hXO;have cP11:af.cell? ⟨P,0,none⟩=some (.pointer (some ⟨B,0,none⟩)):=by rw [E.cell];rfl
     simp [qqe,cP11,o.st.blk.cell];refine qej o hlt (by simp) (by simp) vp fun w12 b ac=>?_;have hP12:=o.st.var ac E (by decide) (by decide);have hX12:=o.st.var ac hX11 (by decide) (by decide);have cP12:w12.cell? ⟨P,0,none⟩=some (.pointer (some ⟨B,0,none⟩)):=by rw [hP12.cell];rfl
     simp [cP12,(kT hX12).2.1];rw [qxa];dsimp only [vt];refine yn b (jv 4 (tk L i).text [] [] 0 (.slice none 0 0) []) (qcb _ _ _ _) (by simp;omega) fun nv13 w13 ad hT13=>?_;simp;exact qck (a.backO z hOw ad (by have h1:=hS.nvLen;have h2:=ad.st.nvLen;simp at h2;omega)) rfl y
   rw [if_neg h2] at y;rw [if_neg h2];simp [cP9,cx9,cy9,e36,jC,hk];by_cases h4:(tk L i).kind=1/\(tk L (i+1)).text≠[36]
   ·rw [if_pos h4] at y;have hlt:=Qw h4.1 (by decide);simp [h4.1,h4.2,cP9,H.st.blk.cell];refine qej H hlt (by simp) (by simp) vp fun w12 b ac=>?_;have hP12:=H.st.var ac ab (by decide) (by decide);have hX12:=H.st.var ac hX9 (by decide) (by decide);have cP12:w12.cell? ⟨P,0,none⟩=some (.pointer (some ⟨B,0,none⟩)):=by rw [hP12.cell];rfl
    simp [cP12,(kT hX12).2.1];rw [qxa];dsimp only [vt];refine yn b (jv 4 (tk L i).text [] [] 0 (.slice none 0 0) []) (qcb _ _ _ _) (by simp;omega) fun nv13 w13 ad hT13=>?_;simp;exact qck ad rfl y
   ·rw [if_neg h4] at y;have h4':¬((tk L i).kind=1/\¬(tk L (i+1)).text=[36]):=h4;rw [if_neg h4'];have hr':bnd (jF L n) (fun s=>bnd (z7 L n e s) fun x=>ret (x,true)) i f=r:=by
     rw [<-y];show _=bnd (bnd _ _) _ i f;rw [wv]
    simp [qfQ];refine vZ qEc (fun W=>Blk W P #[.pointer (some ⟨B,0,none⟩)] 83) fun W10 F _=>?_;have u:=ab.ext F;have a:=H.ext F;refine ⟨u, ?_⟩;have cPP:∀W,Blk W P #[.pointer (some ⟨B,0,none⟩)] 83->W.cell? ⟨P,0,none⟩=some (.pointer (some ⟨B,0,none⟩)):=fun W h=>by rw [h.cell];rfl
    simp+contextual -implicitDefEqProofs [qqc,cPP,u];refine qCb (A':=kQ) (k:=fun x=>ret (x,true)) hL he hu hz n a (by simpa using hn) hr' ae (fun ρ c w' hp=>by simpa using hp) fun s af nv11 j11 g11 o z hgo=>?_;refine ⟨a.st.var z u (by decide) (by decide), ?_⟩;simp;refine hgo fun t j12 g12 v12 nv12 zs w12 b S J hr12=>?_;simp only [List.nil_append,uy] at b S J;simp [qqd];exact qcx b S J hr12
def rv (b:Nat) (t:T):Int:=(b:Int)+t.size - 1
theorem qol (b:Nat) (t:T):qt b [t]=[rv b t]:=rfl
theorem qok (b:Nat) (t u:T):qt b [t,u]=[rv b t,rv (b+t.size) u]:=rfl
def qv9 (b:Nat) (t:T):flats b [t]=t.flat b:=by simp [flats]
def qv8 (b:Nat) (t u:T):flats b [t,u]=t.flat b++u.flat (b+t.size):=by simp [flats]
section
variable {L:List Tok} {base B X:Nat} {w w1:World} {tv nv nv1:Value} {i f:Nat} {xs ys:List NV} {K:qa->World->Prop} {Q:Ks} {ρ:qa} {d:Option Nat}
theorem qfL {ty:TypeId} {ops:Array (Nat×Operand)} {n:Nat} (l:List Int) (e:Cu base B w tv nv L xs w1 nv1 i f ys) (s:n<=1000) (o:l.length=n) (u:ops.toList.map (·.1)=List.range n) (t:∀p∈ops.toList,(qe ρ p.2).cells.size=1)
  (a:(ops.toList.flatMap fun p=>(qe ρ p.2).cells.toList)=l.map encI) (h:∀Z w2,qc w1 w2->Cu base B w tv nv L xs w2 nv1 i f ys->Own w.heap.size 3 1 w2 (.slice (some ⟨Z,0,none⟩) n n) (l.map encI)->K (qn ρ d (.slice (some ⟨Z,0,none⟩) n n)) w2):
  qx Tryz.prog Q d (.buildSlice 40 n ops) ty K ρ w1:=by
 refine jV QU (by simpa using s) u t fun Z W y b c _=>?_;rw [a] at c;exact h Z W b (e.ext b) (Own.lit (sz:=1) c (by simp [o]) (Nat.le_trans e.size y) (by unfold maxLen;omega))
theorem qch {b:Nat} {t:T} (h:ys.map (·.nd)=t.flat b):ys.length=t.size:=by rw [<-T.flat_len t b,<-h,uh]
theorem qIO {r:Rs (T×Nat)} {t:T} {b:Nat} (c:Cu base B w tv nv L xs w1 nv1 i f ys) (a:ys.map (·.nd)=t.flat xs.length) (e:ret (t,b) i f=r):PR yI base B tv nv L xs w r (.returned (.tuple #[.int .i64 (rv xs.length t),.int .i64 (b:Int)])) w1:=by
 rw [<-e];exact ⟨_,nv1,ys,rfl,c.st,a,c.fr,c.tn,rfl⟩
end
theorem qKe (Z:Nat):Tryz.prog.built 44 [(0,.int .u8 7),(5,.slice (some ⟨Z,0,none⟩) 2 2)]=some (qk (jv 7 [] [] [] 0 (.slice (some ⟨Z,0,none⟩) 2 2) [])).toArray:=by kernel_rfl
theorem qKd (s:Bs) (Z:Nat):Tryz.prog.built 44 [(0,.int .u8 8),(1,.string (qb s)),(5,.slice (some ⟨Z,0,none⟩) 1 1)]=some (qk (jv 8 s [] [] 0 (.slice (some ⟨Z,0,none⟩) 1 1) [])).toArray:=by kernel_rfl
theorem qfB (k:Nat) (a b c:Bs) (n:Int) (kv:Value) (l:List Int):qk (jv k a b c n kv [])=qk (jv k a b c n kv l):=rfl
theorem qB7 {L:List Tok} (hL:xn L) (hNum:qhi L) {e:M T} (he:Mt aT L 62 me e) (hu:Up e) (hz:Sz T.size 0 e) (n:Nat):Mt yI L 139 me (wK L n e):=by
 intro base B w tv nv i f xs hS hn z;have hil:=hS.il;have htl:=hS.tl;generalize hr:wK L n e i f=r at z;refine qIb fun ρ r0=>?_;simp [qvA,r0];refine Qm (A:=kQ) (A':=yI) (qB2 hL hNum he hu hz n) (Cu.start hS) (by simpa using hn) hr z (fun c w' hp=>by simpa using hp) ?_;rintro ⟨t,b⟩ j g v nv1 zs w1 ht hC1 a hT1 hv1 hr1;simp only [List.nil_append,uy] at hC1 a hv1;change v=.tuple #[.int .i64 (rv xs.length t),.bool b] at hv1;subst hv1;change zs.map (·.nd)=t.flat xs.length at a;have hz1:=qnc hz n _ _ _ _ _ ht;have hzl:=qch a;have hz1':t.size+2*i<=2*j:=by simp only [x4] at hz1;omega
 simp;have go:∀I:qa,I 0=.pointer (some ⟨B,0,none⟩)->I 4=.int .i64 (rv xs.length t)->I 6=.int .i64 ((if b then 1 else 0:Nat):Int)->qkX.wp ⟨Tryz.prog,40,qvz,[]⟩ (qB [.tmp 2,.tmp 3] (PR yI base B tv nv L xs w r)) (ji [.tmp 2,.tmp 3] (PR yI base B tv nv L xs w r)) I w1:=by
  intro I r0 r4 r6;simp [qkX];refine Q4 (fun U w'=>∃i' f' nv' ys t fm n',U 0=.pointer (some ⟨B,0,none⟩)/\U 4=.int .i64 (rv xs.length t)/\U 6=.int .i64 ((fm:Nat):Int)/\Cu base B w tv nv L xs w' nv' i' f' ys/\ys.map (·.nd)=t.flat xs.length/\(xs++ys).length<=2*i'+2/\ya L e n' t fm i' f'=r) (fun _ w'=>L.length - atOf B w')
   ⟨j,g,nv1,zs,t,_,n,r0,r4,r6,hC1,a,by simp;omega,hr1⟩ ?_
  clear ht hC1 a hT1 hr1 hz1 hzl hz1' r0 r4 r6;rintro U w' ⟨i',f',nv',ys,t,fm,n',r0,r4,r6,hC,O,hcnt,hsp⟩;have hat:=hC.st.atOf;cases n' with
  |zero=>exact absurd hsp.symm z
  |succ n'=>
  have hyl:=qch O;have Y:(xs++ys).length=xs.length+t.size:=by rw [kh,hyl]
  have hjl:=hC.st.il;rw [kh] at hcnt;simp [qvy,r0];refine QQ (s:=[91]) hC hsp (fun w2 hc2 hC2 hT2 hr2=>?_) (fun w2 hc2 hC2 hT2 hr2=>?_)
  ·have hlt:=wQ hc2;simp [r0];refine Qm (A:=aT) (A':=yI) he hC2 (by simp;omega) hr2 z (fun c w' hp=>by simpa using hp) ?_;intro k j3 g3 v3 nv3 zs w3 hk y o hT3 S J;change v3=_ at S;rw [Y] at S;change v3=.int .i64 (rv (xs.length+t.size) k) at S;subst S;change zs.map (·.nd)=k.flat (xs++ys).length at o;rw [Y] at o;have hz3:=hz _ _ _ _ _ hk;have hzl:=qch o;have hjl3:=y.st.il;simp [r0];refine qay y [93] fun v4 w4 hE4 W V=>?_;simp;refine qbm (A':=yI) W V (by simp) J z (fun c w' hp=>by simpa using hp) ?_;intro j5 g5 nv5 w5 hne5 hC5 hT5 hr5;have hj5:=(qcE _ _ _ _ _ hne5).1;simp [r0,r4];refine qfL (qt xs.length [t,k]) hC5 (by decide) rfl (by decide) (by simp [r4,Value.cells]) (by simp [r4,Value.cells,qok,encI]) fun Z w6 hE6 aa hk6=>?_;simp;rw [qKe];dsimp only [vt];rw [qfB (l:=qt xs.length [t,k])];refine yn aa (jv 7 [] [] [] 0 (.slice (some ⟨Z,0,none⟩) 2 2) (qt xs.length [t,k])) hk6 (by simp;omega) fun nv7 w7 E hT7=>?_;have H:(ys++zs).map (·.nd)=flats xs.length [t,k]:=by rw [uP,O,o,qv8]
   have u:=qdl (xs:=xs) (ys:=ys++zs) (d:={kind:=7}) (ks:=[t,k]) H;simp [r0];refine ⟨⟨j5,g5,nv7,_,T.mk {kind:=7} [t,k], ?_,2,rfl,E,qd5 H rfl,by simp;omega,n',hr5⟩, ?_⟩
   ·simp only [kh] at u;push_cast at u;rw [<-Int.add_assoc] at u;simpa [rv,Int.add_assoc] using u
   ·rw [E.st.atOf,hat];omega
  ·simp [r0];refine QQ (s:=[46]) hC2 hr2 (fun w3 hc3 y hT3 J=>?_) (fun w3 hc3 y hT3 J=>?_)
   ·have hlt:=wQ hc3;simp [r0];refine qc6 (A:=aS) (A':=yI) (fun _ _=>rfl) (F:=120) (fun _ _ _ _ _ _ _ _ h _ _=>qca h) y (by simp;omega) J z (fun c w' hp=>by simpa using hp) ?_;intro s j4 g4 v4 nv4 w4 hna W hT4 V hr4;change v4=_ at V;subst V;have hj4:=qcF _ _ _ _ _ hna;have hjl4:=W.st.il;simp;refine qfL (qt xs.length [t]) W (by decide) rfl (by decide) (by simp [r4,Value.cells]) (by simp [r4,Value.cells,qol,encI]) fun Z w6 hE6 aa hk6=>?_;simp;rw [qKd];dsimp only [vt];rw [qfB (l:=qt xs.length [t])];refine yn aa (jv 8 s [] [] 0 (.slice (some ⟨Z,0,none⟩) 1 1) (qt xs.length [t])) hk6 (by simp;omega) fun nv7 w7 E hT7=>?_;have H:ys.map (·.nd)=flats xs.length [t]:=by rw [O,qv9]
    have u:=qdl (xs:=xs) (ys:=ys) (d:={kind:=8,name:=s}) (ks:=[t]) H;simp [r0];refine ⟨⟨j4,g4,nv7,_,T.mk {kind:=8,name:=s} [t], ?_,3,rfl,E,qd5 H rfl,by simp;omega,n',hr4⟩, ?_⟩
    ·simpa [rv] using u
    ·rw [E.st.atOf,hat];omega
   ·simp [r4,r6];exact qIO y O J
 cases b with
 |true=>
  simp;exact go _ (by simp [r0]) (by simp) (by simp)
 |false=>
  simp;exact go _ (by simp [r0]) (by simp) (by simp)
theorem qKc (Z:Nat):Tryz.prog.built 44 [(0,.int .u8 6),(1,.string (qb [110,111,116])),(5,.slice (some ⟨Z,0,none⟩) 1 1)]=some (qk (jv 6 [110,111,116] [] [] 0 (.slice (some ⟨Z,0,none⟩) 1 1) [])).toArray:=by kernel_rfl
theorem qKb (s:Bs) (Z:Nat):Tryz.prog.built 44 [(0,.int .u8 6),(1,.string (qb s)),(5,.slice (some ⟨Z,0,none⟩) 2 2)]=some (qk (jv 6 s [] [] 0 (.slice (some ⟨Z,0,none⟩) 2 2) [])).toArray:=by kernel_rfl
def qCt {L:List Tok} {p:M (T×Nat)} (F:Mt yI L 139 me p) (hz:Sz yO 0 p):Mt aT L 62 me (wu L p):=by
 intro base B w tv nv i f xs hS hn H;have hil:=hS.il;have htl:=hS.tl;generalize hr:wu L p i f=r at H;refine qE3 fun ρ r0=>?_;simp [qrD,r0];refine QQ (s:=[110,111,116]) (Cu.start hS) hr (fun w1 hc1 V ak J=>?_) (fun w1 hc1 V ak J=>?_)
 ·simp [r0];refine Qm (A:=yI) (A':=aT) F V (by simp;omega) J H (fun c w' F=>by simpa using F) ?_;rintro ⟨t,fm⟩ j g v nv2 zs w2 ht e a an b o;simp only [List.nil_append,uy] at e a b;change v=.tuple #[.int .i64 (rv xs.length t),.int .i64 (fm:Int)] at b;subst b;change zs.map (·.nd)=t.flat xs.length at a;have S:=hz _ _ _ _ _ ht;simp only [yO] at S;have ae:=qch a;have al:=e.st.il;simp [r0];refine qfL (qt xs.length [t]) e (by decide) rfl (by decide) (by simp [Value.cells]) (by simp [Value.cells,qol,encI]) fun Z w3 af U hk3=>?_;simp;have e1:(⟨#[110,111,116]⟩:ByteArray)=qb [110,111,116]:=rfl;rw [e1,qKc];dsimp only [vt];rw [qfB (l:=qt xs.length [t])];refine yn U (jv 6 [110,111,116] [] [] 0 (.slice (some ⟨Z,0,none⟩) 1 1) (qt xs.length [t])) hk3 (by simp;omega) fun nv4 w4 E hT4=>?_;have O:zs.map (·.nd)=flats xs.length [t]:=by rw [a,qv9]
  simp;exact qgG E O rfl o
 ·simp [qrB,r0];refine Qm (A:=yI) (A':=aT) F V (by simp;omega) J H (fun c w' F=>by simpa using F) ?_;rintro ⟨t,fm⟩ j g v nv2 zs w2 ht e a an b o;simp only [List.nil_append,uy] at e a b;change v=.tuple #[.int .i64 (rv xs.length t),.int .i64 (fm:Int)] at b;subst b;change zs.map (·.nd)=t.flat xs.length at a;have S:=hz _ _ _ _ _ ht;simp only [yO] at S;have ae:=qch a;have al:=e.st.il;simp [r0];refine jV yQ (by decide) (by decide) (by simp [Value.cells]) fun Z W3 hZ af ac _=>?_;simp [Value.cells] at ac;have U:=e.ext af;simp;refine isB (ss:=jU) U (qeR (l:=jU) (by simpa [jU,qi,qb] using ac) (by decide)) fun w4 hE4 E=>?_;by_cases z:qo L j jU=true
  ·simp only [z,kk] at o;have hlt:=wQ z;simp [z,qrC,r0];refine (qbk E.st 0 (by decide)).mono ?_;rintro _ w5 ⟨rfl,ah⟩;have W:=E.ext ah;simp [kj,r0,W.st.blk.cell];refine qej W hlt (by simp) (by simp) vp fun w6 ag hT6=>?_;simp [r0];refine Qm (A:=yI) (A':=aT) F ag (by simp;omega) o H (fun c w' F=>by simpa using F) ?_;rintro ⟨u,am⟩ j7 g7 v7 nv7 us w7 hu7 aa h hT7 ab aj;have I:(xs++zs).length=xs.length+t.size:=by rw [kh,ae]
   change v7=.tuple #[.int .i64 (rv (xs++zs).length u),.int .i64 (am:Int)] at ab;subst ab;change us.map (·.nd)=u.flat (xs++zs).length at h;rw [I] at h;have ai:=hz _ _ _ _ _ hu7;simp only [yO] at ai;have hul:=qch h;have hjl7:=aa.st.il;rw [I];simp [r0];refine qfL (qt xs.length [t,u]) aa (by decide) rfl (by decide) (by simp [Value.cells]) (by simp [Value.cells,qok,encI]) fun Y w8 hE8 hC8 hk8=>?_;simp;rw [qKb];dsimp only [vt];rw [qfB (l:=qt xs.length [t,u])];refine yn hC8 (jv 6 (tk L j).text [] [] 0 (.slice (some ⟨Y,0,none⟩) 2 2) (qt xs.length [t,u])) hk8 (by simp;omega) fun nv9 w9 hC9 hT9=>?_;have O:(zs++us).map (·.nd)=flats xs.length [t,u]:=by rw [uP,a,h,qv8]
   have y:=qgG hC9 O rfl aj;rw [kh] at y
   push_cast at y
   simp;exact y
  ·simp only [z,uf,km] at o;have ad:qo L j jU=false:=by simpa using z
   simp [ad];exact qwd E a rfl o
def qpa {L:List Tok} (b:xn L) (a:qhi L):∀n,Mt aT L 62 me (jj L n)
 |0=>fun _ _ _ _ _ _ _ _ _ _ h=>absurd rfl h
 |n+1=>qCt (qB7 b a (qpa b a n) (qex n) (qeL n) n) (qnd (qeL n) n)
section
variable {L:List Tok} {base B X:Nat} {w w1:World} {tv nv nv1:Value} {i f:Nat} {xs ys:List NV} {K:qa->World->Prop} {Q:Ks} {ρ:qa} {d:Option Nat}
end
structure NK (w:World) (B X:Nat) (nv:Value) (W:World) (x:NV) (all:List NV):Prop where
 var:NVr B X nv W x
 own:Own w.heap.size 3 1 W x.kv (x.nd.kids.map encI)
 sep:vQ x.kv all
section
variable {L:List Tok} {base B X:Nat} {w w1 w2:World} {tv nv nv1 nv2:Value} {i f:Nat} {xs ys zs:List NV} {x:NV} {K:qa->World->Prop} {Q:Ks} {ρ:qa} {d:Option Nat}
theorem NK.ext {all:List NV} (h:NK w B X nv1 w1 x all) (a:qc w1 w2):NK w B X nv1 w2 x all:=⟨h.var.ext a,h.own.ext a,h.sep⟩
theorem NK.turn (h:NK w B X nv1 w1 x (xs++ys)) (e:Cu base B w tv nv L xs w1 nv1 i f ys) (a:Tn base B nv1 nv2 w1 w2) (b:∀z∈zs,wW w1 z.kv):NK w B X nv2 w2 x (xs++(ys++zs)):=
 ⟨h.var.turn a,e.keep a h.own (by decide) (by decide),by rw [<-uB];exact h.sep.app (vQ.new b fun k c=>(h.own.blk k c).2)⟩
end
section
variable {α β:Type} {A:Ans α} {A':Ans β} {L:List Tok} {m:M α} {k:α->M β} {r:Rs β} {base B X:Nat} {w w1:World} {tv nv nv1:Value} {i f:Nat} {xs ys:List NV} {K:qa->World->Prop} {Q:Ks} {ρ:qa} {d:Option Nat}
end
section
variable {L:List Tok} {base B X:Nat} {w w1:World} {tv nv nv1:Value} {i f:Nat} {xs ys:List NV} {K:qa->World->Prop} {Q:Ks} {ρ:qa} {d:Option Nat}
theorem NK.add {w2:World} {nv2:Value} {x z:NV} (h:NK w B X nv1 w1 x (xs++ys)) (e:Cu base B w tv nv L xs w1 nv1 i f ys) (a:Tn base B nv1 nv2 w1 w2) (c:∀k,z.kv.ownBlock=some k->x.kv.ownBlock≠some k):NK w B X nv2 w2 x (xs++(ys++[z])):=
 ⟨h.var.turn a,e.keep a h.own (by decide) (by decide),by rw [<-uB];exact h.sep.app fun y o k b=>(by
  obtain rfl:y=z:=uH.1 o;exact c k b)⟩
end
theorem qlY (s:Bs):Tryz.prog.built 44 [(0,.int .u8 31),(1,.string (qb s))]=some (qk (jv 31 s [] [] 0 (.slice none 0 0) [])).toArray:=by kernel_rfl
def qz (p:Nat->TypeId->Prop) (w w':World):Prop:=∀k cs T z,w.heap[k]? =some (.cells cs T z)->p k T->w'.heap[k]? =w.heap[k]?
def qz.mono {p q:Nat->TypeId->Prop} {w w':World} (h:qz p w w') (a:∀k T,q k T->p k T):qz q w w':=fun k cs T z b c=>h k cs T z b (a k T c)
def qz.trans {p:Nat->TypeId->Prop} {w w' a:World} (h:qz p w w') (o:qz p w' a):qz p w a:=fun k cs T z b c=>by
 have e:=h k cs T z b c;exact (o k cs T z (e.trans b) c).trans e
def qz.ext {p:Nat->TypeId->Prop} {w w':World} (h:qc w w'):qz p w w':=fun k _ _ _ a _=>h.block k (uq.1 a).1
def qz.only {X:Nat} {w w':World} {cs:Array Value} {TX:TypeId} (h:Only X w w') (c:Blk w X cs TX):qz (fun k T=>k≠X\/T≠TX) w w':=fun k cs' T z b a=>by
 refine h.block k ?_;rintro rfl;have:=c.heap;rw [b] at this;cases this;rcases a with a|a<;>exact a rfl
def qz.grown {w w':World} {b e sz:Nat} {v:Value} {xs:List Value} (t:Own b e sz w v xs) (o:w.grownBy w' v.ownBlock):qz (fun k T=>v.ownBlock≠some k\/T≠e) w w':=fun k cs T z c a=>by
 refine o.block k (uq.1 c).1 fun h=>?_;obtain ⟨cur,s⟩:=Own.row t h.symm;rw [s] at c;cases c;rcases a with a|a
 ·exact a h.symm
 ·exact a rfl
def PSt.sameT {base B:Nat} {w w':World} {tv nv b:Value} {L:List Tok} {i f:Nat} {xs:List NV} (h:PSt base B w tv nv L i f xs) (s:Tn base B nv b w w'):qz (fun k T=>T≠85/\(T≠44\/nv.ownBlock≠some k)) w w':=fun k cs T z c o=>by
 refine s.block k (uq.1 c).1 (h.blkNe c o.1) fun e=>?_;rcases o.2 with a|a
 ·exact h.rowNe c a e
 ·exact a e
def _root_.Go.Eng.Own.at' {p:Nat->TypeId->Prop} {w w':World} {b e sz:Nat} {v:Value} {xs:List Value} (h:Own b e sz w v xs) (c:qz p w w') (o:∀k,v.ownBlock=some k->p k e):Own b e sz w' v xs:=Own.same h fun k a=>by
 obtain ⟨cur,s⟩:=Own.row h a;exact c k _ _ _ s (o k a)
def _root_.Go.Eng.Blk.at' {p:Nat->TypeId->Prop} {w w':World} {X:Nat} {cs:Array Value} {T:TypeId} (h:Blk w X cs T) (b:qz p w w') (a:p X T):Blk w' X cs T:=⟨(b X _ _ _ h.heap a).trans h.heap⟩
def zJ {α β:Type} (C:α->β->Prop):List α->List β->Prop
 |[],[]=>True
 |a::us,b::vs=>C a b/\zJ C us vs
 |_,_=>False
section
variable {α β:Type} {C C':α->β->Prop}
theorem zJ.imp (e:∀a b,C a b->C' a b):∀{c:List α} {vs:List β},zJ C c vs->zJ C' c vs
 |[],[],_=>trivial
 |_::_,_::_,h=>⟨e _ _ h.1,zJ.imp e h.2⟩
 |[],_::_,h=>h.elim
 |_::_,[],h=>h.elim
theorem zJ.len:∀{a:List α} {vs:List β},zJ C a vs->a.length=vs.length
 |[],[],_=>rfl
 |_::_,_::_,h=>by simp [zJ.len h.2]
 |[],_::_,h=>h.elim
 |_::_,[],h=>h.elim
theorem zJ.get:∀{a:List α} {vs:List β},zJ C a vs->∀(i:Nat) (b:i<a.length) (c:i<vs.length),C a[i] vs[i]
 |_::_,_::_,h,0,_,_=>h.1
 |_::_,_::_,h,i+1,b,c=>zJ.get h.2 i (by simpa using b) (by simpa using c)
theorem zJ.left {P:α->Prop} (o:∀a b,C a b->P a):∀{e:List α} {vs:List β},zJ C e vs->∀a∈e,P a
 |[],[],_,a,c=>by cases c
 |_::_,_::_,h,a,c=>by
  rcases wh.1 c with rfl|c
  ·exact o _ _ h.1
  ·exact zJ.left o h.2 a c
 |[],_::_,h,_,_=>h.elim
 |_::_,[],h,_,_=>h.elim
end
def QH {α:Type} (b T sz:Nat) (C:List Value->α->Prop) (w:World) (v:Value) (l:List α):Prop:=∃css:List (List Value),Own b T sz w v css.flatten/\zJ C css l
def qaT (w:World) (cs:List Value) (s:Sig):Prop:=∃av sv,cs=[.bool s.iter,av,.string (qb s.result),sv]/\Own 0 9 1 w av (s.args.map qi)/\Own 0 9 1 w sv (s.signals.map qi)
def qaW (w:World) (cs:List Value) (n:Need):Prop:=∃c,cs=.string (qb n.op)::c/\qaT w c n.sig
def qel (w:World) (cs:List Value) (o:Opn):Prop:=∃c,cs=.string (qb o.name)::c/\qaT w c o.sig
def yr (q:Nat->Prop) (w:World) (v:Value) (l:List Nd):Prop:=∃xs:List NV,xs.map (·.nd)=l/\Own 0 44 6 w v (jH xs)/\∀x∈xs,Own 0 3 1 w x.kv (x.nd.kids.map encI)/\∀k,x.kv.ownBlock=some k->q k
def qcM (N:Value->List Nd->Prop) (w:World) (cs:List Value) (r:Rout):Prop:=∃c pv ndv,cs=.string (qb r.name)::(c++[pv,ndv])/\qaT w c r.sig/\Own 0 9 1 w pv (r.params.map qi)/\N ndv r.nodes
def Ji (N:Value->List Nd->Prop) (w:World) (cs:List Value) (m:Mod):Prop:=∃needv opv rv,cs=[.string (qb m.face.name),.int .u8 (m.face.kind:Int),.bool m.face.param,needv,opv,.string (qb m.rep),rv]/\
 QH 0 132 5 (qaW w) w needv m.face.needs/\QH 0 135 5 (qel w) w opv m.face.ops/\QH 0 82 7 (qcM N w) w rv m.routs
section
variable {p:Nat->TypeId->Prop} {w w':World} {cs:List Value} {v:Value}
theorem QH.at' {α:Type} {b T sz:Nat} {C C':List Value->α->Prop} {l:List α} (h:QH b T sz C w v l) (s:qz p w w') (o:∀k,v.ownBlock=some k->p k T) (u:∀c a,C c a->C' c a):QH b T sz C' w' v l:=by
 obtain ⟨css,e,t⟩:=h;exact ⟨css,e.at' s o,t.imp u⟩
theorem qaT.at' {s:Sig} (h:qaT w cs s) (b:qz p w w') (a:∀k,p k 9):qaT w' cs s:=by
 obtain ⟨o,sv,e,t,c⟩:=h;exact ⟨o,sv,e,t.at' b fun k _=>a k,c.at' b fun k _=>a k⟩
theorem qaW.at' {s:Need} (h:qaW w cs s) (e:qz p w w') (b:∀k,p k 9):qaW w' cs s:=by
 obtain ⟨c,a,o⟩:=h;exact ⟨c,a,o.at' e b⟩
theorem qel.at' {s:Opn} (h:qel w cs s) (e:qz p w w') (b:∀k,p k 9):qel w' cs s:=by
 obtain ⟨c,a,o⟩:=h;exact ⟨c,a,o.at' e b⟩
theorem yr.at2 {q:Nat->Prop} {l:List Nd} (h:yr q w v l) (e:qz p w w') (t:∀k,q k->p k 3) (b:∀k,v.ownBlock=some k->p k 44):yr q w' v l:=by
 obtain ⟨xs,s,u,a⟩:=h;exact ⟨xs,s,u.at' e b,fun x c=>⟨(a x c).1.at' e fun k o=>t k ((a x c).2 k o),(a x c).2⟩⟩
theorem yr.at' {q:Nat->Prop} {l:List Nd} (h:yr q w v l) (c:qz p w w') (b:∀k,p k 3) (a:∀k,v.ownBlock=some k->p k 44):yr q w' v l:=h.at2 c (fun k _=>b k) a
theorem yr.mono {q q':Nat->Prop} {l:List Nd} (h:yr q w v l) (o:∀k,k<w.heap.size->q k->q' k):yr q' w v l:=by
 obtain ⟨xs,e,s,a⟩:=h;exact ⟨xs,e,s,fun x b=>⟨(a x b).1,fun k c=>o k ((a x b).1.blk k c).2 ((a x b).2 k c)⟩⟩
theorem qcM.at' {N N':Value->List Nd->Prop} {r:Rout} (h:qcM N w cs r) (e:qz p w w') (b:∀k,p k 9) (z:∀v l,N v l->N' v l):qcM N' w' cs r:=by
 obtain ⟨c,u,a,s,y,o,t⟩:=h;exact ⟨c,u,a,s,y.at' e b,o.at' e fun k _=>b k,z _ _ t⟩
end
section
variable {base B X:Nat} {w w1 w2:World} {tv nv nv1 nv2:Value} {L:List Tok} {i f j g:Nat} {xs ys zs:List NV}
theorem PSt.sep (h:PSt base B w1 tv nv1 L i f xs) {a:Value} {e sz b:Nat} {cs:List Value} (E:Own b e sz w1 a cs) (u:e≠3):vQ a xs:=fun x y k s t=>by
 obtain ⟨cur,z⟩:=Own.row (h.kid x y) s;obtain ⟨o,c⟩:=Own.row E t;rw [z] at c;cases c;exact u rfl
end
def PRx {β:Type} (base B:Nat) (tv nv:Value) (L:List Tok) (xs:List NV) (w:World) (V:β->Nat->Nat->Value->World->Prop):Rs β->Ending->World->Prop
 | .oof,_,_=>False
 | .ok a j g,e,w'=>∃v,e=.returned v/\V a j g v w'
 | .no g,e,w'=>∃j nv' ys,e=.panicked QR/\PSt base B w' tv nv' L j g (xs++ys)/\Tn base B nv nv' w w'
section
variable {α β:Type} {A':Ans β} {L:List Tok} {m:M α} {k:α->M β} {r:Rs β} {base B X:Nat} {w w1:World} {tv nv nv1:Value} {i f:Nat} {xs ys:List NV} {K:qa->World->Prop} {Q:Ks} {ρ:qa} {d:Option Nat}
theorem qnv {V:α->Nat->Nat->Value->World->Prop} {F:FuncId} {args:Array Value} (H:m i f≠ .oof->Calls Tryz.prog F args w1 (PRx base B tv nv L xs w V (m i f))) (t:bnd m k i f=r) (E:r≠ .oof)
  (hpn:∀c w',PR A' base B tv nv L xs w r (.panicked c) w'->Q.pn ρ c w') (h:∀a j g v w2,m i f=.ok a j g->V a j g v w2->k a j g=r->K (qn ρ d v) w2):Calls Tryz.prog F args w1 (zD Q d K ρ):=by
 have o:m i f≠ .oof:=fun e=>E (by rw [<-t,kM e]);refine (H o).mono ?_;intro e w2 s;cases b:m i f with
 |oof=>exact absurd b o
 |no g=>
  rw [b] at s;obtain ⟨j,nv2,zs,rfl,u,y⟩:=s;rw [qw3];refine hpn _ _ ?_;rw [<-t,xx b];exact ⟨j,nv2,zs,rfl,u,y⟩
 |ok a j g=>
  rw [b] at s;obtain ⟨v,rfl,z⟩:=s;rw [qed];exact h a j g v w2 b z (by rw [<-t,jq b])
end
def smX (X:Nat):Nat->TypeId->Prop:=fun k T=>T≠85/\T≠44/\k≠X
def Cu.sm {base B X:Nat} {w w1 w2:World} {tv nv nv1 nv2:Value} {L:List Tok} {i f:Nat} {xs ys:List NV} (h:Cu base B w tv nv L xs w1 nv1 i f ys) (a:Tn base B nv1 nv2 w1 w2):qz (smX X) w1 w2:=(h.st.sameT a).mono fun _ _ h=>⟨h.1,.inl h.2.1⟩
noncomputable def qjT:IR:=.cond (zv 24) (zq [za 4 (zQ false)] <| .ret) .skip
noncomputable def qrS:IR:=.reg [za 13 (zI .add (zv 13) (zK 1))]
noncomputable def qrR:IR:=.seq (.block 1 (zq [zm 5 13] <| .seq (.drw [za 24 (zI .neq (zl (zx 1 (zv 0) (zv 5))) (zl (zx 1 (zv 1) (zv 5))))]) (qjT))) (qrS)
noncomputable def qjS:IR:=zq [za 14 (zI .lss (zv 13) (zv 12))] <| .seq (.cond (zv 14) .skip (.exit 0)) (qrR)
noncomputable def qrQ:IR:=zq [za 4 (zQ true)] <| .ret
noncomputable def qrP:IR:=zq [za 12 (zL (zv 0)),za 13 (zK 0)] <| .seq (.block 0 (.loop qjS)) (qrQ)
noncomputable def qrT:IR:=zq [za 4 (zQ false),za 10 (zI .neq (zL (zv 0)) (zL (zv 1)))] <| .seq (.cond (zv 10) (zq [za 4 (zQ false)] <| .ret) .skip) (qrP)
def qFf:List Nat:=[0,1,4,5,10,12,13,14,24]
def qFe:C2 50 26 qFf qrT [.tmp 4]:=c2 [] Tryz.func50
noncomputable def qgs:IR:=zq [za 4 (zQ false),zm 5 0,zm 6 1,zc 7 229 #[zt 5,zt 6] #[51,9] 3,za 4 (zI .geq (zv 7) (zK 0))] <| .ret
def qkJ:List Nat:=zV 8 [2,3]
def quO:C2 160 9 qkJ qgs [.tmp 4]:=c2 [] Tryz.func160
noncomputable def qgk:IR:=.reg [za 8 (zI .add (zv 8) (zK 1))]
noncomputable def qgj:IR:=.seq (.block 1 (zq [zm 5 8,za 16 (zS .eql (zv 1) (zl (zx 1 (zv 0) (zv 5))))] <| .cond (zv 16) (zq [zm 4 5] <| .ret) .skip)) (qgk)
noncomputable def qdZ:IR:=zq [za 9 (zI .lss (zv 8) (zv 7))] <| .seq (.cond (zv 9) .skip (.exit 0)) (qgj)
noncomputable def qgi:IR:=zq [za 4 (.const (.int .i64 (-1)))] <| .ret
noncomputable def qgl:IR:=zq [za 4 (zK 0),za 7 (zL (zv 0)),za 8 (zK 0)] <| .seq (.block 0 (.loop qdZ)) (qgi)
def qkm:List Nat:=[0,1,4,5,7,8,9,16]
def qtA:C2 229 19 qkm qgl [.tmp 4]:=c2 [] Tryz.func229
def qxQ {cs:List Value} (h:∀c∈cs,c.cells=#[c]):(Value.agg cs.toArray).cells=cs.toArray:=by
 have:∀l:List Value,(∀c∈l,c.cells=#[c])->(l.flatMap fun c=>c.cells.toList)=l:=by
  intro l
  induction l with
  |nil=>intro _;rfl
  |cons a l b=>
   intro h;rw [JB,h a (by simp),b fun c e=>h c (by simp [e])];rfl
 apply y5.1;simp [Value.cells,Array.toList_flatMap,this cs h]
def qaW.len {w:World} {cs:List Value} {s:Need} (h:qaW w cs s):cs.length=5:=by
 obtain ⟨c,rfl,a,sv,rfl,_⟩:=h;rfl
def qk8 {n:Nat}:∀{css:List (List Value)},(∀c∈css,c.length=n)->css.flatten.length=css.length*n
 |[],_=>by simp
 |c::css,h=>by
  rw [List.flatten_cons,kh,h c (by simp),qk8 fun c a=>h c (by simp [a]),List.length_cons,uX];omega
def wg (q:Nat->Prop) (w:World) (nv:Value) (xs:List NV) (v:Value) (l:List Nd):Prop:=(v=nv/\l=xs.map (·.nd)/\∀x∈xs,∀k,x.kv.ownBlock=some k->q k)\/(yr q w v l/\∀k,v.ownBlock=some k->nv.ownBlock≠some k)
section
variable {base B X:Nat} {w w1 w2:World} {tv nv nv1 nv2 v:Value} {L:List Tok} {i f j g:Nat} {xs xs1 ys:List NV} {l:List Nd}
theorem wg.at' {q:Nat->Prop} (h:wg q w nv xs v l) {p:Nat->TypeId->Prop} (s:qz p w w1) (o:∀k,p k 3) (a:∀k,nv.ownBlock≠some k->p k 44):wg q w1 nv xs v l:=by
 rcases h with h|⟨e,b⟩
 ·exact .inl h
 ·exact .inr ⟨e.at' s o fun k c=>a k (b k c),b⟩
end
section
variable {w w1:World} {nv v:Value} {xs:List NV} {l:List Nd} {q q':Nat->Prop} {p:Nat->TypeId->Prop}
theorem wg.at2 (h:wg q w nv xs v l) (s:qz p w w1) (o:∀k,q k->p k 3) (a:∀k,nv.ownBlock≠some k->p k 44):wg q w1 nv xs v l:=by
 rcases h with h|⟨e,b⟩
 ·exact .inl h
 ·exact .inr ⟨e.at2 s o fun k c=>a k (b k c),b⟩
theorem wg.mono (h:wg q w nv xs v l) (t:∀x∈xs,∀k,x.kv.ownBlock=some k->k<w.heap.size) (o:∀k,k<w.heap.size->q k->q' k):wg q' w nv xs v l:=by
 rcases h with ⟨b,c,s⟩|⟨b,c⟩
 ·exact .inl ⟨b,c,fun x a k e=>o k (t x a k e) (s x a k e)⟩
 ·exact .inr ⟨b.mono o,c⟩
end
def PSt.kidLt {base B:Nat} {w:World} {tv nv:Value} {L:List Tok} {i f:Nat} {xs:List NV} (h:PSt base B w tv nv L i f xs):∀x∈xs,∀k,x.kv.ownBlock=some k->k<w.heap.size:=fun x b k a=>((h.kid x b).blk k a).2
section
variable {base B X:Nat} {w w1 w2:World} {tv nv nv1 nv2 v:Value} {L:List Tok} {i f j g:Nat} {xs xs1 ys:List NV} {l:List Nd}
structure Cm (base B:Nat) (w:World) (tv nv:Value) (L:List Tok) (xs:List NV) (w1:World) (nv1:Value) (i f:Nat) (xs1:List NV):Prop where
 st:PSt base B w1 tv nv1 L i f xs1
 ln:xs1.length<=2*i+2
 tn:TnW base B nv nv1 w w1
 nd:∀q v l,wg q w nv xs v l->wg q w1 nv1 xs1 v l
 b0:base<=w.heap.size
 fr:∀x∈xs1,x∈xs\/wW w x.kv
theorem Cm.trans (h:Cm base B w tv nv L xs w1 nv1 i f xs1) (a:Cm base B w1 tv nv1 L xs1 w2 nv2 j g ys):Cm base B w tv nv L xs w2 nv2 j g ys:=
 ⟨a.st,a.ln,h.tn.trans a.tn,fun q v l e=>a.nd q v l (h.nd q v l e),h.b0,fun y o=>by
  rcases a.fr y o with b|b
  ·exact h.fr y b
  ·exact .inr fun k c=>Nat.le_trans h.tn.below.size (b k c)⟩
end
section
variable {α β:Type} {A:Ans α} {A':Ans β} {L:List Tok} {m:M α} {k:α->M β} {r:Rs β} {base B X:Nat} {w w0 w1:World} {tv nv nv0 nv1:Value} {i f i0 f0:Nat} {xs xs0 ys:List NV} {K:qa->World->Prop} {Q:Ks} {ρ:qa} {d:Option Nat}
end
section
variable {base B X:Nat} {w w1 w2:World} {tv nv nv1:Value} {L:List Tok} {i f:Nat} {xs xs1:List NV}
theorem Cm.ext (h:Cm base B w tv nv L xs w1 nv1 i f xs1) (a:qc w1 w2):Cm base B w tv nv L xs w2 nv1 i f xs1:=
 ⟨h.st.ext a,h.ln,h.tn.trans (Tn.toW (Tn.ext a h.st.bW)),fun q v l b=>(h.nd q v l b).at' (qz.ext (p:=fun _ _=>True) a) (fun _=>trivial) fun _ _=>trivial,h.b0,h.fr⟩
theorem Cm.block {zs:List NV} {j g:Nat} {nv2:Value} (h:Cu base B w1 tv (.slice none 0 0) L [] w2 nv2 j g zs) (u:PSt base B w1 tv (.slice none 0 0) L i f []) (s:zs.length<=2*j+2):Cm base B w1 tv (.slice none 0 0) L [] w2 nv2 j g zs:=by
 refine ⟨by simpa using h.st,s,h.tn.toW,fun q v l z=> .inr ?_,h.b0,fun y E=> .inr (h.fr y E)⟩;have b:=u.sameT h.tn;rcases z with ⟨rfl,rfl,_⟩|⟨c,_⟩
 ·exact ⟨⟨[],rfl,Own.nil _ _ _ _,by simp⟩,fun k a=>by cases a⟩
 ·refine ⟨c.at' b (fun k=>⟨by decide,.inl (by decide)⟩) fun k _=>⟨by decide,.inr (by simp [Value.ownBlock])⟩,fun k a e=>?_⟩;obtain ⟨F,_,t,_⟩:=c;have H:=(t.blk k a).2;rcases h.tn.row k e with o|o
  ·cases o
  ·omega
end
def mdA (nm:Bs) (k:Int) (pr:Bool) (nd op:Value) (rep:Bs) (rv:Value):Array Value:=#[.string (qb nm),.int .u8 k,.bool pr,nd,op,.string (qb rep),rv]
theorem sz5:jT Tryz.prog 5 1=true:=by kernel_rfl
section
variable {base B X:Nat} {w w1 w2:World} {tv nv nv1 nv2:Value} {L:List Tok} {i f j g:Nat} {xs xs1 ys:List NV} {p:Nat->TypeId->Prop} {N N':Value->List Nd->Prop} {cs:List Value}
theorem Ji.at' {m:Mod} (h:Ji N w cs m) (b:qz p w w1) (t:∀k,p k 9) (c:∀k,p k 132) (o:∀k,p k 135) (u:∀k,p k 82) (F:∀v l,N v l->N' v l):Ji N' w1 cs m:=by
 obtain ⟨a,s,rv,e,E,y,z⟩:=h;exact ⟨a,s,rv,e,E.at' b (fun k _=>c k) fun _ _ h=>h.at' b t,y.at' b (fun k _=>o k) fun _ _ h=>h.at' b t,z.at' b (fun k _=>u k) fun _ _ h=>h.at' b t F⟩
theorem Cm.same (h:Cm base B w tv nv L xs w1 nv1 i f xs1) (c:PSt base B w tv nv L j g xs):qz (fun k T=>T≠85/\T≠44) w w1:=fun k cs T z a b=>
 h.tn.block k (uq.1 a).1 (c.blkNe a b.1) (c.rowNe a b.2)
theorem Cm.var (h:Cm base B w tv nv L xs w1 nv1 i f xs1) (e:PSt base B w tv nv L j g xs) {Y:Nat} {cs:Array Value} {T:TypeId} (b:Blk w Y cs T) (a:T≠44) (c:T≠85):Blk w1 Y cs T:=b.at' (h.same e) ⟨c,a⟩
end
section
variable {base B X:Nat} {w w1 w2:World} {tv nv nv1:Value} {L:List Tok} {i f:Nat} {xs xs1:List NV}
end
structure ClS (L:List Tok) (base B R X:Nat) (w:World) (tv nv v7 v8:Value) (xs:List NV) (nm rep:Bs) (pr:Bool) (names:List Bs) (ws:List Need) (i f:Nat) (nv' rv:Value) (ys:List NV) (css:List (List Value)) (rs:List Rout) (w':World):Prop where
 m:Cm base B w tv nv L xs w' nv' i f ys
 bR:Blk w' R (mdA [] 0 false (.slice none 0 0) (.slice none 0 0) [] (.slice none 0 0)) 66
 bX:Blk w' X (mdA nm 3 pr v8 (.slice none 0 0) rep rv) 66
 own:Own w.heap.size 82 7 w' rv css.flatten
 all:zJ (qcM (wg (fun k=>w.heap.size<=k) w' nv' ys) w') css rs
 bd:∀q∈rs,q.sig.args.length<=20001/\q.sig.signals.length<=20001
 nms:Own 0 9 1 w' v7 (names.map qi)
 nds:QH 0 132 5 (qaW w') w' v8 ws
 len:rs.length<=i
 Xw:w.heap.size<=X
 Rw:w.heap.size<=R
 RX:R≠X
 nl:names.length<=20001
section
variable {L:List Tok} {base B R X n:Nat} {w:World} {tv nv v7 v8:Value} {xs:List NV} {nm rep:Bs} {pr:Bool} {names:List Bs} {ws:List Need} {r:Rs Mod}
theorem ClS.ext {i f:Nat} {b rv:Value} {ys:List NV} {css:List (List Value)} {rs:List Rout} {w1 w2:World} (h:ClS L base B R X w tv nv v7 v8 xs nm rep pr names ws i f b rv ys css rs w1) (a:qc w1 w2):ClS L base B R X w tv nv v7 v8 xs nm rep pr names ws i f b rv ys css rs w2:=
 have c:qz (fun _ _=>True) w1 w2:=qz.ext a
 ⟨h.m.ext a,h.bR.ext a,h.bX.ext a,h.own.ext a,h.all.imp fun _ _ h=>h.at' c (fun _=>trivial) fun v l e=>e.at' c (fun _=>trivial) fun _ _=>trivial,h.bd,h.nms.ext a,h.nds.at' c (fun _ _=>trivial) fun _ _ h=>h.at' c fun _=>trivial,h.len,h.Xw,h.Rw,h.RX,h.nl⟩
structure ClN (L:List Tok) (base B R X:Nat) (w:World) (tv nv v7 v8:Value) (xs:List NV) (nm rep:Bs) (pr:Bool) (names:List Bs) (ws:List Need) (i f:Nat) (nv' rv:Value) (ys:List NV) (css:List (List Value)) (rs:List Rout) (k:Nat) (w':World):Prop where
 m:Cm base B w tv nv L xs w' nv' i f ys
 bR:Blk w' R (mdA [] 0 false (.slice none 0 0) (.slice none 0 0) [] (.slice none 0 0)) 66
 bX:∃opv cs2,Blk w' X (mdA nm 3 pr v8 opv rep rv) 66/\Own w.heap.size 135 5 w' opv (List.flatten cs2)/\zJ (qel w') cs2 ((qpl names rs).take k)
 own:Own w.heap.size 82 7 w' rv css.flatten
 all:zJ (qcM (wg (fun k=>w.heap.size<=k) w' nv' ys) w') css rs
 nms:Own 0 9 1 w' v7 (names.map qi)
 nds:QH 0 132 5 (qaW w') w' v8 ws
theorem ClN.ext {L:List Tok} {base B R X:Nat} {w:World} {tv nv v7 v8:Value} {xs:List NV} {nm rep:Bs} {pr:Bool} {names:List Bs} {ws:List Need} {i f k:Nat} {b rv:Value} {ys:List NV} {css:List (List Value)} {rs:List Rout} {w1 w2:World} (h:ClN L base B R X w tv nv v7 v8 xs nm rep pr names ws i f b rv ys css rs k w1) (a:qc w1 w2):ClN L base B R X w tv nv v7 v8 xs nm rep pr names ws i f b rv ys css rs k w2:=by
 have c:qz (fun _ _=>True) w1 w2:=qz.ext a;obtain ⟨e,o,y,s,t⟩:=h.bX;exact ⟨h.m.ext a,h.bR.ext a,⟨e,o,y.ext a,s.ext a,t.imp fun _ _ h=>h.at' c fun _=>trivial⟩,h.own.ext a,h.all.imp fun _ _ h=>h.at' c (fun _=>trivial) fun v l u=>u.at' c (fun _=>trivial) fun _ _=>trivial,h.nms.ext a,h.nds.at' c (fun _ _=>trivial) fun _ _ h=>h.at' c fun _=>trivial⟩
end
def Ji.row {N:Value->List Nd->Prop} {w:World} {cs:List Value} {m:Mod} (h:Ji N w cs m):cs.length=7/\∀c∈cs,c.cells=#[c]/\c.oneCell=true:=by
 obtain ⟨a,t,rv,rfl,⟨_,e,_⟩,⟨_,s,_⟩,⟨_,b,_⟩⟩:=h;refine ⟨rfl, ?_⟩;intro c o;simp only [wh,uI,wm] at o;rcases o with rfl|rfl|rfl|rfl|rfl|rfl|rfl
 ·exact ⟨rfl,rfl⟩
 ·exact ⟨rfl,rfl⟩
 ·exact ⟨rfl,rfl⟩
 ·exact ⟨vN e.isl,xS e.isl⟩
 ·exact ⟨vN s.isl,xS s.isl⟩
 ·exact ⟨rfl,rfl⟩
 ·exact ⟨vN b.isl,xS b.isl⟩
def qwq {P:Program} {Q:Ks} {d:Option Nat} {ty:TypeId} {K:qa->World->Prop} {ρ:qa} {w:World} {a b:Operand} {k:IntKind} {x y:Int} {o:Array TypeId} (e:qe ρ a=.int k x) (c:qe ρ b=.int k y) (h:K (qn ρ d (.int k (if y<x then y else x))) w):
  qx P Q d (.call {callee:=.builtin .min,args:=#[a,b],argTypes:=o}) ty K ρ w:=by
 show vK P Q d _ ty K ρ w;refine jQ (v:=.int k (if y<x then y else x)) (w':=w) ?_ h;simp [execOp,qN,resolve,invoke,builtin,e,c,Builtin.min_,Builtin.min2]
def qCk {L:List Tok} {w:World} {b:Nat} {tv:Value} {f:Nat} (u:Own b 53 3 w tv (qF L)) (F:L.length<=20000) (H:f<=L.length):
  Calls Tryz.prog 57 #[tv,.int .i64 (f:Int)] w fun e w'=>e=.returned (.int .i64 (qbo L f))/\w'=w:=by
 have z:=L01.jR u;have h:=u.isl;have c:ql tv=L.length:=by have:=z.len;rw [jA] at this;omega
 refine qE9 fun ρ r0 r1=>?_;simp -implicitDefEqProofs [qrI,r0,r1,h,c];by_cases s:L.length=0
 ·obtain rfl:=uU.1 s;simp [qbo]
 ·have t:L≠[]:=fun e=>s (by rw [e];rfl);simp -implicitDefEqProofs [t,qrH,r0,r1,h,c,qH (n:=(L.length:Int) - 1) (by omega)];refine qwq (k:=.i64) (x:=(f:Int)) (y:=(L.length:Int) - 1) (by simp) (by simp) ?_;have e:(if ((L.length:Int) - 1)<(f:Int) then ((L.length:Int) - 1) else (f:Int))=((min f (L.length - 1):Nat):Int):=by
   split<;>omega
  rw [e];have o:min f (L.length - 1)<L.length:=by omega
  simp only [qbo,s,km];generalize min f (L.length - 1)=k at o⊢;have a:=z.cell (k*3+2) (by rw [jA];omega);have E:=(jX L k o).2.2;rw [ug (by rw [jA];omega)] at E;rw [Jp E] at a;simp -implicitDefEqProofs [r0,h,c,o,a,tk]
def qeD (_:Nat) (T:TypeId):Prop:=T=3\/T=4\/T=83
def qbN (B:Nat) (tv:Value) (W:World) (ok:Bool) (g:Nat) (Ok:World->Prop) (e:Ending) (w2:World):Prop:=
 qz qeD W w2/\Below B W w2/\((ok=true/\e=.returned (.tuple #[])/\Ok w2)\/(ok=false/\e=.panicked QR/\∃(j:Nat) (nv2:Value),Blk w2 B #[tv,.int .i64 (j:Int),.int .i64 (g:Int),nv2] 85/\qu nv2=true/\Ok w2))
def qxT (B:Nat) (w:World) (tv:Value) (ok:Bool) (g:Nat) (Ok:World->Prop) (e:Ending) (w':World):Prop:=
 e=.returned (.bool ok)/\Below B w w'/\∃w2,Ok w2/\qz (fun _ T=>T≠4/\(ok=true\/T≠85)) w2 w'/\(ok=false->∃a b,Blk w' B #[tv,a,.int .i64 (g:Int),b] 85)
def qlf {B:Nat} {w w':World} (h:qc w w') (b:B<=w.heap.size):Below B w w':=⟨h.os,h.tape,h.output,h.size,fun k a=>h.block k (by omega)⟩
def qo2 {L:List Tok} {base B:Nat} {w:World} {tv nv:Value} {i f g:Nat} (hS:PSt base B w tv nv L i f []) {ok:Bool} {F:FuncId} {caps:Array Value} {Ok:World->Prop} (hcb:qh Tryz.prog F=true) (ab:∀W,qc w W->Calls Tryz.prog F caps W (qbN B tv W ok g Ok)):
  Calls Tryz.prog 54 #[.pointer (some ⟨B,0,none⟩),.func (.func F) #[] caps] w (qxT B w tv ok g Ok):=by
 generalize hR:qxT B w tv ok g Ok=R;refine qjR fun ρ r0 r1 rg=>?_;simp [qdV,r0];refine vO fun A W1 hA ai hbA _=>?_;simp [Value.cells,r0] at hbA;simp;refine qX z4 fun Y W2 hY af hbY _=>?_;simp;have hS2:=hS.ext (ai.trans' af);have hA2:=hbA.ext af;refine vZ (hpn:=qhG (by decide)) qjQ (fun W=>Blk W A #[.pointer (some ⟨B,0,none⟩)] 83/\Blk W B #[tv,.int .i64 (i:Int),.int .i64 (f:Int),nv] 85) fun W3 U _=>?_;have u:=hS2.ext U;have o:=hA2.ext U;have hJ:Blk W3 A #[.pointer (some ⟨B,0,none⟩)] 83/\Blk W3 B #[tv,.int .i64 (i:Int),.int .i64 (f:Int),nv] 85:=⟨o,u.blk⟩;refine ⟨hJ, ?_⟩;have cA:∀W,(Blk W A #[.pointer (some ⟨B,0,none⟩)] 83/\Blk W B #[tv,.int .i64 (i:Int),.int .i64 (f:Int),nv] 85)->W.cell? ⟨A,0,none⟩=some (.pointer (some ⟨B,0,none⟩))/\W.cell? ⟨B,1,none⟩=some (.int .i64 (i:Int))/\W.cell? ⟨B,3,none⟩=some nv:=fun W h=>⟨by rw [h.1.cell];rfl,by rw [h.2.cell];rfl,by rw [h.2.cell];rfl⟩;have hisl:=hS.own.isl;simp+contextual -implicitDefEqProofs [qf5,cA,hJ,hisl];have rest:∀(y:qa) (W4:World) (X5 X6:Nat),qc W3 W4->Blk W4 X5 #[.int .i64 (i:Int)] 3->Blk W4 X6 #[.int .i64 (0:Int)] 3->y 1=ρ 1->y 2=.pointer (some ⟨A,0,none⟩)->y 4=.pointer (some ⟨Y,0,none⟩)->y 5=.pointer (some ⟨X5,0,none⟩)->y 6=.pointer (some ⟨X6,0,none⟩)->y gS=.tuple #[]->qbr.wp ⟨Tryz.prog,19,qbs,y6⟩ (vz Tryz.prog [.cell1 4] R .returning) (xj Tryz.prog [.cell1 4] R) y W4:=by
  intro y W4 X5 X6 a H s e1 e2 e4 e5 e6 eg;have hA4:=o.ext a;have hY4:=(hbY.ext U).ext a;have aa:qc w W4:=((ai.trans' af).trans' U).trans' a;have hBw:=hS.blk.lt;have hBY:B<=Y:=by have:=ai.size;omega
  have Z:Below B w W4:=qlf aa (by omega);simp [qbr];refine qgL (f:=116) (caps:=#[.pointer (some ⟨X5,0,none⟩),.pointer (some ⟨A,0,none⟩),.pointer (some ⟨X6,0,none⟩),.pointer (some ⟨Y,0,none⟩)]) (by simp [e2,e4,e5,e6]) trivial ?_;have eg':y 1000000000=.tuple #[]:=eg;simp [gS,e1,r1,eg'];refine kL (f:=F) hcb (fs:=#[]) (caps:=caps) (by simp) ?_;simp;refine (ab W4 aa).mono ?_;rintro e w5 ⟨I,V,h|h⟩
  ·obtain ⟨rfl,rfl,ak⟩:=h;have E:=hY4.at' I (.inr (.inl rfl));simp;refine qW (B:=Y) (i:=0) (by simp [e4]) E (by simp) (by simp [Value.cells]) (by simp) sz4 fun W6 c s=>?_;simp at s;simp [xj,vz,gS,e4];refine vu (by simp) qcH (qlN.mono ?_);rintro e u' w' ⟨⟨v,rfl⟩,rfl,rfl⟩;refine qaA ?_;have cY:w'.cell? ⟨Y,0,none⟩=some (.bool true):=by rw [s.cell];rfl
   simp [qB,vY,RV.val,e4,cY,yu,<-hR];exact ⟨rfl,(Z.trans V).trans (yh c hBY),w5,ak,(qz.only c E).mono fun _ _ h=> .inr h.1,by simp⟩
  ·obtain ⟨rfl,rfl,j,nv2,S,hsl,ak⟩:=h;have E:=hY4.at' I (.inr (.inl rfl));have h55:=H.at' I (.inl rfl);have h56:=s.at' I (.inl rfl);have hA5:=hA4.at' I (.inr (.inr rfl));simp [xj,vz,gS,e4];refine vu (by simp) qcH ((qlM (n:=0) h55 hA5 h56 (.inr E) S hsl (uz _)).mono ?_);rintro e u' w' ⟨⟨v,rfl⟩,hu,W6,W7,O,t,z,ah,hb8⟩;show vB _ _ _ _ [] (settle u') w';rw [hu];refine qaA ?_;have cY:w'.cell? ⟨Y,0,none⟩=some (.bool false):=by rw [hb8.cell];rfl
   simp [qB,vY,RV.val,e4,cY,yu,<-hR];have bYB:B≠Y:=fun e=>by
    subst e;have:=S.heap;rw [E.heap] at this;cases this
   have hY7:=t.blk (E.ext O) (Ne.symm bYB);have hB8:=ah.blk z bYB;refine ⟨rfl,(((Z.trans V).trans (qlf O (by have:=S.lt;omega))).trans (yh t (j1 _))).trans (yh ah hBY),w5,ak, ?_,fun _=>⟨_,_,hB8⟩⟩;exact ((qz.ext O).trans ((qz.only t (S.ext O)).mono fun _ _ h=> .inr (by simpa using h.2))).trans ((qz.only ah hY7).mono fun _ _ h=> .inr h.1)
 have nvl:ql nv=0:=by
  have:=(L01.jR hS.own).len;rw [yV] at this;simp at this;omega
 refine ⟨?_, ?_⟩
 ·refine qX z3 fun X5 W4 ae a ag hs4=>⟨⟨o.ext a,(u.ext a).blk⟩, ?_⟩;refine qX z3 fun X6 W5 hX6 b H hs5=>⟨⟨(o.ext a).ext b,((u.ext a).ext b).blk⟩, ?_⟩;have ad:=(u.ext a).ext b;have l5:W3.heap.size<=X5:=ae;have J:X5≠X6:=by omega
  refine qW (B:=X5) (i:=0) (by simp) (ag.ext b) (by simp) (by simp [Value.cells]) (by simp) vp fun W6 c s=>?_;simp at s;have ac:=c.blk ((o.ext a).ext b) (by have:=o.lt;omega);have aj:=c.blk ad.blk (by have:=u.blk.lt;omega);refine ⟨⟨ac,aj⟩, ?_⟩;refine qW (B:=X6) (i:=0) (by simp) (c.blk H (Ne.symm J)) (by simp) (by simp [Value.cells]) (by simp) vp fun W7 t z=>?_;simp [nvl] at z;exact rest _ W7 X5 X6 (t.ext (c.ext (a.trans' b) l5) (by have:=a.size;omega)) (t.blk s J) z (by simp) (by simp) (by simp) (by simp) (by simp) (by simp [gS] at rg⊢;exact rg)
 ·refine qX z3 fun X6 W4 hX6 a ag hs4=>⟨⟨o.ext a,(u.ext a).blk⟩, ?_⟩;refine qX z3 fun X5 W5 ae b H hs5=>⟨⟨(o.ext a).ext b,((u.ext a).ext b).blk⟩, ?_⟩;have ad:=(u.ext a).ext b;have l5:W3.heap.size<=X5:=Nat.le_trans a.size ae;have J:X6≠X5:=by omega
  refine qW (B:=X5) (i:=0) (by simp) H (by simp) (by simp [Value.cells]) (by simp) vp fun W6 c s=>?_;simp at s;have ac:=c.blk ((o.ext a).ext b) (by have:=o.lt;omega);have aj:=c.blk ad.blk (by have:=u.blk.lt;omega);refine ⟨⟨ac,aj⟩, ?_⟩;refine qW (B:=X6) (i:=0) (by simp) (c.blk (ag.ext b) J) (by simp) (by simp [Value.cells]) (by simp) vp fun W7 t z=>?_;simp [nvl] at z;exact rest _ W7 X5 X6 (t.ext (c.ext (a.trans' b) l5) hX6) (t.blk s (Ne.symm J)) z (by simp) (by simp) (by simp) (by simp) (by simp) (by simp [gS] at rg⊢;exact rg)
def qyd:∀t∈L01.xA,t.length<=20:=by decide
def qzF:∀t∈L01.jf,t.length<=20:=by decide
def qid {L:List Tok} (h:xe L):xn L:=fun t a=>by
 have:=h t a;unfold L01.right at this;split at this
 ·unfold L01.qg at this;simp only [j0,kr] at this;omega
 ·split at this
  ·exact qyd _ (Jl.1 this)
  ·split at this
   ·unfold L01.jm at this;simp only [j0,uE,yt,uS] at this;omega
   ·split at this
    ·exact qzF _ (Jl.1 this)
    ·cases this
def qpx:∀(l:Bs) (a:Nat),(∀c∈l,L01.qD c=true)->l.foldl (fun n c=>10*n+((c.toNat:Int) - 48)) (a:Int)=(L01.xg a l:Int)
 |[],a,_=>rfl
 |c::l,a,h=>by
  have b:=h c (by simp);simp [L01.qD] at b;have o:=b.1;rw [List.foldl_cons,L01.qcV,<-qpx l _ fun x e=>h x (by simp [e])];congr 1;omega
def qKA {s:Bs} (h:L01.jm s=true):Lib.atoiAll s=.ok (yW s):=by
 unfold L01.jm at h;simp only [j0,uE,yt,Jr,uS,uk,kr] at h;obtain ⟨⟨⟨⟨z,u⟩,o⟩,I⟩,y⟩:=h;have a:=L01.qgQ.1 (Decidable.of_not_not o);have F:L01.xg 0 s<=1000000000:=by
  rcases y with h|h
  ·have H:=L01.qhx s 0 a;have E:(10:Nat)^s.length<=10^9:=VU (by decide) (by omega);omega
  ·rw [h];decide
 have b:s≠[]:=fun e=>z (by rw [e];rfl);have e:yW s=(L01.xg 0 s:Int):=qpx s 0 a;rw [e];obtain ⟨c,r,rfl⟩:∃c r,s=c::r:=by cases s with|nil=>exact absurd rfl b|cons c r=>exact ⟨c,r,rfl⟩
 have t:=a c (by simp);simp [L01.qD] at t;unfold Lib.atoiAll;simp only [];rw [if_neg (by omega),Lib.parseMag,if_neg (by simp),L01.qiX _ 0 a (by omega)];simp only [];rw [if_neg (by omega),if_neg (by omega),if_neg (by omega)]
def qDn {L:List Tok} (h:xe L):qhi L:=fun t b a=>by
 have:=h t b;rw [a] at this;exact qKA this
section
variable {α:Type} {A:Ans α} {L:List Tok} {m:M α} {B P:Nat} {w:World} {tv nv:Value} {g:Nat}
def zr (L:List Tok) (m:M α):Bool:=match bnd m (fun a=>bnd (fin L) fun _=>ret a) 0 0 with| .ok _ _ _=>true|_=>false
def qmi (A:Ans α) (L:List Tok) (B:Nat) (tv:Value) (m:M α) (w2:World):Prop:=∃(i f:Nat) (nv2:Value) (ys:List NV),PSt B B w2 tv nv2 L i f ys/\∀a j g,zr L m=true->m 0 0=.ok a j g->ys.map (·.nd)=A.nodes 0 a/\j<=L.length
def xG (L:List Tok) (m:M α):Nat:=match bnd m (fun a=>bnd (fin L) fun _=>ret a) 0 0 with| .no g=>g| .ok _ _ g=>g| .oof=>0
end
def qCF {L:List Tok} {m:M T} (hm:Mt aT L 62 me m) (U:m 0 0≠ .oof) {B P:Nat} {w:World} {tv:Value} (hS:PSt B B w tv (.slice none 0 0) L 0 0 []) (hP:Blk w P #[.pointer (some ⟨B,0,none⟩)] 83):
  Calls Tryz.prog 61 #[.pointer (some ⟨P,0,none⟩)] w (qbN B tv w (zr L m) (xG L m) (qmi aT L B tv m)):=by
 refine qE5 fun ρ r0=>?_;have cP:w.cell? ⟨P,0,none⟩=some (.pointer (some ⟨B,0,none⟩)):=by rw [hP.cell];rfl
 simp [qrE,r0,cP];have sm:∀{nv2:Value} {w2:World},Tn B B (.slice none 0 0) nv2 w w2->qz qeD w w2:=fun hT=>(hS.sameT hT).mono fun k T h=>by
  rcases h with rfl|rfl|rfl<;>exact ⟨by decide,.inl (by decide)⟩
 refine (hm B B w tv _ 0 0 [] hS (by simp) U).mono ?_;intro e w2 V;cases h:m 0 0 with
 |oof=>exact absurd h U
 |no g=>
  rw [h] at V;obtain ⟨j,nv2,ys,rfl,c,b⟩:=V;have H:zr L m=false:=by simp [zr,bnd,h,Rs.andThen]
  have O:xG L m=g:=by simp [xG,bnd,h,Rs.andThen]
  rw [H,O];refine ⟨sm b,b.below,.inr ⟨rfl,rfl,j,nv2,c.blk,c.own.isl,j,g,nv2,_,c,fun a j g _ F=>?_⟩⟩;cases h.symm.trans F
 |ok t j g=>
  rw [h] at V;obtain ⟨v,nv2,ys,rfl,c,Z,_,b,hv⟩:=V;have aa:=hP.at' (sm b) (.inr (.inr rfl));have Y:w2.cell? ⟨P,0,none⟩=some (.pointer (some ⟨B,0,none⟩)):=by rw [aa.cell];rfl
  simp [r0,Y];refine ⟨by kernel_rfl,(qpb c).mono ?_⟩;intro e w3 o;cases E:fin L j g with
  |oof=>rw [E] at o;exact o.elim
  |no S=>
   rw [E] at o;obtain ⟨W,z,J,rfl,y,s⟩:=o;have H:zr L m=false:=by simp [zr,bnd,h,E,Rs.andThen]
   have O:xG L m=S:=by simp [xG,bnd,h,E,Rs.andThen]
   rw [H,O];simp;exact ⟨sm (b.trans s),(b.trans s).below,.inr ⟨rfl,rfl,W,z,y.blk,y.own.isl,W,S,z,_,y,fun a j g F=>by rw [H] at F;cases F⟩⟩
  |ok u W S=>
   rw [E] at o;obtain ⟨v3,z,J,rfl,y,I,_,s,hv3⟩:=o;have H:zr L m=true:=by simp [zr,bnd,h,E,ret,Rs.andThen]
   have O:xG L m=S:=by simp [xG,bnd,h,E,ret,Rs.andThen]
   rw [H,O];obtain rfl:J=[]:=by simpa [aU] using I
   simp;refine ⟨sm (b.trans s),(b.trans s).below,.inl ⟨rfl,rfl,W,S,z,ys,by simpa using y,fun a j g _ F=>?_⟩⟩;obtain ⟨rfl,rfl,_⟩:t=a/\_/\_:=by simpa using h.symm.trans F
   exact ⟨Z,c.il⟩
def qCE {L:List Tok} {m:M Unit} (hm:Mt aU L 72 me m) (U:m 0 0≠ .oof) {B P:Nat} {w:World} {tv:Value} (hS:PSt B B w tv (.slice none 0 0) L 0 0 []) (hP:Blk w P #[.pointer (some ⟨B,0,none⟩)] 83):
  Calls Tryz.prog 71 #[.pointer (some ⟨P,0,none⟩)] w (qbN B tv w (zr L m) (xG L m) (qmi aU L B tv m)):=by
 refine qET fun ρ r0=>?_;have cP:w.cell? ⟨P,0,none⟩=some (.pointer (some ⟨B,0,none⟩)):=by rw [hP.cell];rfl
 simp [qrv,r0,cP];have sm:∀{nv2:Value} {w2:World},Tn B B (.slice none 0 0) nv2 w w2->qz qeD w w2:=fun hT=>(hS.sameT hT).mono fun k T h=>by
  rcases h with rfl|rfl|rfl<;>exact ⟨by decide,.inl (by decide)⟩
 refine (hm B B w tv _ 0 0 [] hS (by simp) U).mono ?_;intro e w2 V;cases h:m 0 0 with
 |oof=>exact absurd h U
 |no g=>
  rw [h] at V;obtain ⟨j,nv2,ys,rfl,c,b⟩:=V;have H:zr L m=false:=by simp [zr,bnd,h,Rs.andThen]
  have O:xG L m=g:=by simp [xG,bnd,h,Rs.andThen]
  rw [H,O];refine ⟨sm b,b.below,.inr ⟨rfl,rfl,j,nv2,c.blk,c.own.isl,j,g,nv2,_,c,fun a j g _ F=>?_⟩⟩;cases h.symm.trans F
 |ok t j g=>
  rw [h] at V;obtain ⟨v,nv2,ys,rfl,c,Z,_,b,hv⟩:=V;have aa:=hP.at' (sm b) (.inr (.inr rfl));have Y:w2.cell? ⟨P,0,none⟩=some (.pointer (some ⟨B,0,none⟩)):=by rw [aa.cell];rfl
  simp [r0,Y];refine ⟨by kernel_rfl,(qpb c).mono ?_⟩;intro e w3 o;cases E:fin L j g with
  |oof=>rw [E] at o;exact o.elim
  |no S=>
   rw [E] at o;obtain ⟨W,z,J,rfl,y,s⟩:=o;have H:zr L m=false:=by simp [zr,bnd,h,E,Rs.andThen]
   have O:xG L m=S:=by simp [xG,bnd,h,E,Rs.andThen]
   rw [H,O];simp;exact ⟨sm (b.trans s),(b.trans s).below,.inr ⟨rfl,rfl,W,z,y.blk,y.own.isl,W,S,z,_,y,fun a j g F=>by rw [H] at F;cases F⟩⟩
  |ok u W S=>
   rw [E] at o;obtain ⟨v3,z,J,rfl,y,I,_,s,hv3⟩:=o;have H:zr L m=true:=by simp [zr,bnd,h,E,ret,Rs.andThen]
   have O:xG L m=S:=by simp [xG,bnd,h,E,ret,Rs.andThen]
   rw [H,O];obtain rfl:J=[]:=by simpa [aU] using I
   simp;refine ⟨sm (b.trans s),(b.trans s).below,.inl ⟨rfl,rfl,W,S,z,ys,by simpa using y,fun a j g _ F=>?_⟩⟩;obtain ⟨_,rfl,_⟩:=Rs.ok.inj (h.symm.trans F);exact ⟨Z,c.il⟩
@[simp] theorem qM6:qh Tryz.prog 53=true:=by kernel_rfl
@[simp] theorem qM5:qh Tryz.prog 57=true:=by kernel_rfl
@[simp] theorem qM4:qh Tryz.prog 64=true:=by kernel_rfl
@[simp] theorem qM3:qh Tryz.prog 76=true:=by kernel_rfl
def qdf:∀(n:Nat) (s:Bs) (l e m:Int),L01.yA n s l=.bad e m->e≠0
 |0,_,_,_,_,h=>by cases h
 |_+1,[],_,_,_,h=>by cases h
 |n+1,c::r,l,e,m,h=>by
  have add:∀{o c:_} {x:L01.Res},x.add o c=.bad e m->x=.bad e m:=fun {o c x} h=>by cases x<;>simpa [L01.Res.add] using h
  unfold L01.yA at h;split at h
  ·exact qdf n _ _ _ _ h
  ·split at h
   ·exact qdf n _ _ _ _ h
   ·split at h
    ·exact qdf n _ _ _ _ (add h)
    ·split at h
     ·rename_i a;simp only [L01.Res.bad.injEq] at h;rw [<-h.1];exact a
     ·exact qdf n _ _ _ _ (add h)
def qij {s:Bs} {e l:Int} (h:qp s=.bad e l):e≠0:=by
 unfold L01.qp at h;split at h
 ·simp only [L01.Res.bad.injEq] at h;rw [<-h.1];decide
 ·exact qdf _ _ _ _ _ h
def qw9 {v:Value} (h:qu v=true):Tryz.prog.built 85 [(0,v)]=some #[v,.int .i64 0,.int .i64 0,.slice none 0 0]:=by
 rcases xT h with ⟨b,o,n,c,rfl,_⟩|rfl|⟨b,o,s,rfl⟩<;>kernel_rfl
theorem z83:zR Tryz.prog 83=some #[.pointer none]:=by kernel_rfl
theorem qnj:jT Tryz.prog 83 1=true:=by kernel_rfl
def qle {B:Nat} {w w1 w2:World} (h:qc w w1) (a:Below B w1 w2) (c:w.heap.size<=B):qc w w2:=⟨a.os.trans h.os,a.tape.trans h.tape,a.output.trans h.output,Nat.le_trans h.size a.size,fun k b=>(a.block k (by omega)).trans (h.block k b)⟩
theorem qfq {w:World} (hG:L01.G w) (s:Bs) (hs:s.length<4611686018427387904):Calls Tryz.prog 22 #[.string (qb s)] w fun e w'=>e=.returned (.bool (qI s))/\qc w w':=by
 refine qGE fun ρ r0=>?_;simp -implicitDefEqProofs [qtS,r0];refine (L01.qhT hG s hs).mono ?_;rintro _ w1 ⟨v,rfl,hv,hE1⟩;simp -implicitDefEqProofs [fV];refine qX L01.z31 fun F w2 hF J hb2 _=>?_;simp -implicitDefEqProofs;refine jx (B:=F) (by simp) hb2 (by simp [Value.cells]) (by simp [Value.cells]) (by simpa [Value.cells] using L01.yw) fun w3 O ab=>?_;simp [Value.cells] at ab;have y:qc w w3:=(O.ext J hF)|>hE1.trans'
 have hc0:w3.cell? ⟨F,0,none⟩=some (.int .i64 (qp s).err):=by rw [ab.cell];rfl
 simp -implicitDefEqProofs [hc0,r0];by_cases b:(qp s).err=0/\s.length<=100
 ·obtain ⟨H,Y⟩:=b;have I:¬(100:Int)<(s.length:Int):=by omega
  obtain ⟨a,cs,o⟩:∃a cs,qp s=.ok a cs:=by
   cases h:qp s with
   |ok a cs=>exact ⟨a,cs,rfl⟩
   |bad e l=>rw [h] at H;exact absurd H (qij h)
  rw [o] at hv;have S:Own w.heap.size 53 3 w1 v (qF a):=hv;have V:=Q7 o;have ad:a.length<=20000:=by have:=(L01.qih s).1;rw [o] at this;exact this
  have ae:=S.isl;have hic:=vN ae;simp -implicitDefEqProofs [H,I,qtz,qw9 ae];refine vO fun B w4 hB hE4 ac _=>?_;simp -implicitDefEqProofs [Value.cells,hic] at ac⊢;refine qX z83 fun P w5 hP hE5 hb5 _=>?_;simp -implicitDefEqProofs;refine jx (B:=P) (by simp) hb5 (by simp [Value.cells]) (by simp [Value.cells]) (by simpa [Value.cells] using qnj) fun w6 hO6 U=>?_;simp -implicitDefEqProofs [Value.cells] at U;have cP:w6.cell? ⟨P,0,none⟩=some (.pointer (some ⟨B,0,none⟩)):=by rw [U.cell];rfl
  have E:qc w4 w6:=hO6.ext hE5 hP;have z:qc w3 w6:=hE4.trans' E;have ag:=((S.ext ((O.ext J hF))).ext z);have ah:=ac.ext E;have hS:PSt B B w6 v (.slice none 0 0) a 0 0 []:=⟨ah,Own.down ag (uz _),Own.nil _ _ _ _,by simp,j1 _,J0 ah.lt,ad,uz _,uz _⟩;simp -implicitDefEqProofs [cP];have hkn:kind a (a.length+3) 0 0≠ .oof:=qp2 (j1 _) 0;refine (qo2 hS (by kernel_rfl) fun W hE=>qCE (qi0 (a.length+3)) hkn (hS.ext hE) (U.ext hE)).mono ?_;rintro _ w7 ⟨rfl,af,w8,_,hsm,_⟩;have hB3:w3.heap.size<=B:=hB;have Z:qc w w7:=by
   exact qle (y.trans' z) af (by have:=y.size;omega)
  have aa:zr a (kind a (a.length+3))=(match kind a (a.length+3) 0 0 with| .ok _ j _=>decide (a.length<=j)|_=>false):=by
   unfold zr bnd;cases h:kind a (a.length+3) 0 0 with
   |oof=>rfl
   |no g=>rfl
   |ok u j g=>
    simp only [Rs.andThen,bnd,fin];by_cases hj:j<a.length
    ·simp [hj,Rs.andThen]
    ·simp [hj,Rs.andThen,ret];omega
  have t:qI s=(zr a (kind a (a.length+3))&&decide (ja a=s)):=by
   unfold qI;rw [o,aa];simp [Y];rfl
  cases hk:zr a (kind a (a.length+3)) with
  |false=>
   rw [hk] at t;simp -implicitDefEqProofs [t];exact Z
  |true=>
   rw [hk] at t hsm;have hv7:Own w.heap.size 53 3 w7 v (qF a):=Own.same ag fun k hk=>af.block k (by have:=(S.blk k hk).2;have:=J.size;have:=O.size;omega);simp -implicitDefEqProofs [t];refine (qo6 (SlK.own hv7 (by omega)) (qid V) ad).mono ?_;rintro _ w9 ⟨rfl,hE9⟩;simp -implicitDefEqProofs [r0];exact ⟨jC,Z.trans' hE9⟩
 ·have c:qI s=false:=by
   unfold qI;split
   ·rename_i a cs h;have:¬s.length<=100:=fun h1=>b ⟨by rw [h];rfl,h1⟩;simp [this]
   ·rfl
  rw [c];have hor:((qp s).err=0->(100:Int)<s.length):=fun h=>by
   have:¬s.length<=100:=fun h1=>b ⟨h,h1⟩;omega
  by_cases H:(qp s).err=0
  ·have:=hor H;simp -implicitDefEqProofs [H,this];exact y
  ·simp -implicitDefEqProofs [H];exact y
end Go.L02
