/- Lemmas for a claim about layer 2 (tree). No conditions but those they state. -/
import Derived.Test.YtbcmiempigoooaaGreatDoorVau
import Derived.Shelf.Strings.Split
set_option linter.all false
namespace Go.Proofs
open Go.Shelf
def Tryz.lays221_ren:Go.Shelf.Ren:=⟨fun|221=>114|268=>197|138=>198|143=>199|195=>263|197=>264|218=>265|219=>230|260=>302|217=>282|225=>283|224=>284|267=>285|266=>330|314=>331|n=>n,fun|9=>9|3=>3|31=>51|4=>4|0=>0|105=>267|21=>21|5=>5|46=>266|119=>314|139=>317|138=>316|146=>300|51=>285|n=>n,fun|1=>0|3=>1|4=>2|n=>n⟩
def Tryz.lays221:Go.Proofs.Lays.n221 Tryz.prog Tryz.lays221_ren:={
 mixed:=by kernel_rfl
 f138:=fT Tryz.func198 (by kernel_rfl)
 f143:=fT Tryz.func199 (by kernel_rfl)
 f195:=fT Tryz.func263 (by kernel_rfl)
 f197:=fT Tryz.func264 (by kernel_rfl)
 f217:=fT Tryz.func282 (by kernel_rfl)
 f218:=fT Tryz.func265 (by kernel_rfl)
 f219:=fT Tryz.func230 (by kernel_rfl)
 f221:=fT Tryz.func114 (by kernel_rfl)
 f224:=fT Tryz.func284 (by kernel_rfl)
 f225:=fT Tryz.func283 (by kernel_rfl)
 f260:=fT Tryz.func302 (by kernel_rfl)
 f266:=fT Tryz.func330 (by kernel_rfl)
 f267:=fT Tryz.func285 (by kernel_rfl)
 f268:=fT Tryz.func197 (by kernel_rfl)
 f314:=fT Tryz.func331 (by kernel_rfl)
 t0:=Tryz.underlying0
 a0:=Tryz.isAgg0
 z0:=Tryz.sizeOf0
 v0:=Tryz.zeroValue0
 t3:=Tryz.underlying3
 a3:=Tryz.isAgg3
 z3:=Tryz.sizeOf3
 v3:=Tryz.zeroValue3
 t4:=Tryz.underlying4
 a4:=Tryz.isAgg4
 z4:=Tryz.sizeOf4
 v4:=Tryz.zeroValue4
 t5:=Tryz.underlying5
 a5:=Tryz.isAgg5
 z5:=Tryz.sizeOf5
 v5:=Tryz.zeroValue5
 t9:=Tryz.underlying9
 a9:=Tryz.isAgg9
 z9:=Tryz.sizeOf9
 v9:=Tryz.zeroValue9
 t21:=Tryz.underlying21
 a21:=Tryz.isAgg21
 z21:=Tryz.sizeOf21
 v21:=Tryz.zeroValue21
 t31:=Tryz.underlying51
 a31:=Tryz.isAgg51
 z31:=Tryz.sizeOf51
 v31:=Tryz.zeroValue51
 t46:=Tryz.underlying266
 a46:=Tryz.isAgg266
 z46:=Tryz.sizeOf266
 v46:=Tryz.zeroValue266
 t51:=Tryz.underlying285
 a51:=Tryz.isAgg285
 z51:=Tryz.sizeOf285
 v51:=Tryz.zeroValue285
 t105:=Tryz.underlying267
 a105:=Tryz.isAgg267
 z105:=Tryz.sizeOf267
 v105:=Tryz.zeroValue267
 t119:=Tryz.underlying314
 a119:=Tryz.isAgg314
 z119:=Tryz.sizeOf314
 t138:=Tryz.underlying316
 a138:=Tryz.isAgg316
 z138:=Tryz.sizeOf316
 v138:=Tryz.zeroValue316
 t139:=Tryz.underlying317
 a139:=Tryz.isAgg317
 z139:=Tryz.sizeOf317
 v139:=Tryz.zeroValue317
 t146:=Tryz.underlying300
 a146:=Tryz.isAgg300
 z146:=Tryz.sizeOf300
 v146:=Tryz.zeroValue300
 g1:=by kernel_rfl
 g3:=by kernel_rfl
 g4:=by kernel_rfl}
def Tryz.genSplit (s sep:ByteArray) (sv:Nat) (n:Int) (N:Nat) (m:Int) (w:AA)
  (g:s.size<4294967281) (j:w.cell? ⟨0,0,none⟩=some (.int .i64 m)) (i:1<=sep.size) (c:sv<=sep.size)
  (b:n≠0) (a:n<=9223372036854775807) (h:(N:Int)=min (if n<0 then (Lib.countB s sep:Int)+1 else n) ((s.size:Int)+1)):
  Calls Tryz.prog 114 #[.string s,.string sep,.int .i64 sv,.int .i64 n] w fun e w'=>
   e=.returned (.slice (some ⟨w.heap.size,0,none⟩) (Lib.splitB sep sv (N - 1) s).length N)/\w'=w.alloc (.cells (Lib.cellsOf (Lib.splitB sep sv (N - 1) s) N) 9):=Any.strings_genSplit Tryz.lays221 (by kernel_rfl) s sep sv n N m w g j i c b a h
end Go.Proofs
namespace Go.L02
open Go Go.Eng Go.RowKit
open Go.Proofs hiding encI
open Go.L01 (Bs Own.same Tok fV jp qC qH qO qW qi)
set_option maxRecDepth 100000
set_option maxHeartbeats 2000000
noncomputable def qqF:IR:=zq [za 4 (.const (.slice none 0 0)),zm 5 0,zm 6 1,za 8 (zT (zv 1)),zc 9 114 #[zt 5,zt 6,zt 8,(.const (.int .i64 (-1)))] #[9,9,3,3] 51,zm 4 9] <| .ret
def qDZ:List Nat:=zV 10 [2,3,7]
def qDY:C2 52 10 qDZ qqF [.tmp 4]:=c2 [] Tryz.func52
@[simp] theorem qMa:qk Tryz.prog 114=true:=by kernel_rfl
def qvV (s:Bs):Lib.countB (qb s) (qb [10])=qO s:=by
 show Lib.count s [10]=_;rw [Lib.count_one];unfold qO;rw [List.count_eq_length_filter];congr 1
def qBW {w:AA} (h:xI w) (s:Bs) (i:s.length<4294967281):Calls Tryz.prog 52 #[.string (qb s),.string (qb [10])] w fun e w'=>
  ∃B xs,e=.returned (.slice (some ⟨B,0,none⟩) xs.length xs.length)/\qgI xs s/\Blk w' B (xs.map qi).toArray 9/\w.heap.size<=B/\qc w w':=by
 obtain ⟨m,j⟩:=h;refine qDY fun ρ r0 r1=>?_;simp -implicitDefEqProofs [qqF,r0,r1];have k:qO s<=s.length:=List.length_filter_le _ _;have b:=qpi (qO s) s rfl;have g:(Lib.splitB (qb [10]) 1 (qO s) (qb s)).map (·.data.toList)=Lib.splitK [10] 1 (qO s) s:=Lib.splitB_data _ _ _ _;have a:(Lib.splitB (qb [10]) 1 (qO s) (qb s)).length=qO s+1:=Lib.splitB_all _ (by decide) 1 _ _ (qvV s);have c:=Tryz.genSplit (qb s) (qb [10]) 1 (-1) (qO s+1) m w i j (by decide) (by decide) (by decide) (by decide) (by rw [qvV,j0 (by decide),qCH];omega);rw [Nat.add_sub_cancel] at c;refine c.mono ?_;rintro _ _ ⟨rfl,rfl⟩;simp -implicitDefEqProofs;refine ⟨w.heap.size,Lib.splitK [10] 1 (qO s) s,⟨rfl, ?_, ?_⟩,b, ?_,kh _,yK _ _⟩
 ·rw [b.2.1,a]
 ·rw [b.2.1]
 ·rw [<-a,Lib.cellsOf_full,<-g,List.map_map];exact qcE _ _ _
@[simp] theorem qMh:qk Tryz.prog 33=true:=by kernel_rfl
@[simp] theorem qMg:qk Tryz.prog 52=true:=by kernel_rfl
def qoh {s:Bs} {c:List Mod} {l:Int} (h:zr s=(c,20,l)):∃a cs g,qC s=.ok a cs/\jL a (a.length+3) (a.length+3) 0 0=.no g/\l=vO a g:=by
 unfold zr at h;split at h
 ·rename_i e k b;cases h;exact absurd rfl (qzh b)
 ·rename_i a cs b;split at h
  ·unfold qbj at h;split at h
   ·cases h
   ·split at h
    ·cases h
    ·cases h
  ·rename_i g i;simp -implicitDefEqProofs only [uD,true_and] at h;exact ⟨a,cs,g,b,i,h.2.symm⟩
  ·cases h
theorem qCZ {w:AA} (hG:L01.G w) (hM:xI w) (s:Bs):Calls Tryz.prog 13 #[.string (qb s)] w (okR w):=by
 generalize hRR:okR w=R;have rd:∀{W:AA},qc w W->Calls Tryz.prog 14 #[] W fun e w'=>e=.returned (.bool true)/\qc W w':=fun {W} o=>(qxb (hG.ext o) (hM.ext o)).mono fun e w' h=>⟨h.1,h.2⟩;have fin:∀W,qc w W->R (.returned (.bool true)) W:=fun W o=>by rw [<-hRR];exact ⟨rfl,o⟩
 refine qG4 fun ρ r0=>?_;by_cases hlong:1500<s.length
 ·have J:(1500:Int)<(s.length:Int):=by omega
  simp -implicitDefEqProofs [qj4,r0,J];refine (rd (jd _)).mono ?_;rintro _ w1 ⟨rfl,o⟩;simp -implicitDefEqProofs;exact fin _ o
 have J:¬(1500:Int)<(s.length:Int):=by omega
 have hs:s.length<=1500:=by omega
 simp -implicitDefEqProofs [qj4,r0,J,quq];refine (qoM hG hM s (by omega)).mono ?_;rintro _ w1 ⟨va,rfl,hva,hmd,hE1⟩;obtain ⟨ms,O,e2,hp⟩:∃ms O e2,zr s=(ms,O,e2):=⟨_,_,_,rfl⟩;rw [hp];dsimp only;simp -implicitDefEqProofs [qf4];refine qQ z26 fun A w2 hA hE2 hb2 _=>?_;simp -implicitDefEqProofs;refine jg (B:=A) (by simp -implicitDefEqProofs) hb2 (by simp -implicitDefEqProofs [Value.cells]) (by simp -implicitDefEqProofs [Value.cells]) (by simpa [Value.cells] using QH) fun w3 hO3 H=>?_;simp -implicitDefEqProofs [Value.cells] at H;have x:qc w w3:=hE1.trans' (hO3.ext hE2 hA);have cA0:∀W,qc w3 W->W.cell? ⟨A,0,none⟩=some (.int .i64 O):=fun W o=>by rw [(H.ext o).cell];rfl
 have cA1:∀W,qc w3 W->W.cell? ⟨A,1,none⟩=some (.int .i64 e2):=fun W o=>by rw [(H.ext o).cell];rfl
 simp -implicitDefEqProofs [cA0 w3 (jd _)];by_cases u:O=20
 case neg=>
  simp -implicitDefEqProofs [u];refine (rd x).mono ?_;rintro _ w4 ⟨rfl,z⟩;simp -implicitDefEqProofs;exact fin _ (x.trans' z)
 subst u;simp -implicitDefEqProofs [qur,r0];obtain ⟨L,cs,F,K,hF,rfl⟩:=qoh hp;refine (qBW (hM.ext x) s (by omega)).mono ?_;rintro _ w4 ⟨B,xs,rfl,hL,hbB,hB,z⟩;obtain ⟨k,hk,hkn⟩:∃k:Nat,vO L F=(k:Int)+1/\k<=qO s:=by
  obtain ⟨h1,h2⟩:=qCU K F;exact ⟨(vO L F - 1).toNat,by omega,by omega⟩
 rw [hk] at cA1;have hxl:=hL.2.1;have V:=x.trans' z;have n1:¬((k:Int)+1<1):=by omega
 have n2:¬((xs.length:Int)<(k:Int)+1):=by omega
 have hsl:qA (.slice (some ⟨B,0,none⟩) xs.length xs.length)=true:=by simp -implicitDefEqProofs [qA]
 have S:(qI (.slice (some ⟨B,0,none⟩) xs.length xs.length))=xs.length:=rfl;have hln:qO s<=s.length:=List.length_filter_le _ _;have hk1:IntKind.i64.wrap (k:Int)=k:=q7 (by omega);have hki:(k:Int)<=(xs.length:Int):=by omega
 have hkx:k<=xs.length:=by omega
 simp -implicitDefEqProofs [cA1 w4 z,n1,n2,hsl,qm,qus,hk1,S,hkx,hki];have Q:q8 (.slice (some ⟨B,0,none⟩) xs.length xs.length) 1 0 k xs.length=.slice (some ⟨B,0,none⟩) k xs.length:=by simp -implicitDefEqProofs [q8,Addr.add]
 have hcel:Cells w4 (.slice (some ⟨B,0,none⟩) k xs.length) 1 ((xs.take k).map qi):=by
  refine ⟨by simp -implicitDefEqProofs [qA,hkx],by simp -implicitDefEqProofs [qm];omega,fun j hj=>?_⟩;simp -implicitDefEqProofs only [qN];have hjx:j<xs.length:=by simp -implicitDefEqProofs at hj;omega
  rw [hbB.cell];simp -implicitDefEqProofs;exact ⟨_,uj hjx,rfl⟩
 obtain ⟨b,n⟩:∃b,b=(xs.take k).flatten:=⟨_,rfl⟩;have hpl:b.length<=1500/\∃a cs',qC b=.ok a cs'/\∀g,jL a (a.length+3) (a.length+3) 0 0=.no g->vO a g=vO a a.length:=by
  cases k with
  |zero=>
   have:b=[]:=by rw [n];simp -implicitDefEqProofs
   subst this;exact ⟨by simp,[],[],by decide,fun g _=>rfl⟩
  |succ m=>
   obtain ⟨one,two,h1,h2,h3⟩:=hL.two (m:=m) (by omega);rw [h1] at n;subst n;have h4:=congrArg List.length h3;simp -implicitDefEqProofs only [ky,List.length_cons,List.length_nil] at h4⊢;rw [h3] at K;exact ⟨by omega,qxn K hF (by rw [hk,h2];omega)⟩
 obtain ⟨hbl,a,cs',l,hw⟩:=hpl;have ej:kA [] (xs.take k)=b:=by rw [qpE,n]
 rw [Q];refine (qoN [] hcel (by rw [uF];omega) (by rw [ej];omega)).mono ?_;rintro _ w5 ⟨rfl,hE5⟩;rw [ej];have P:=V.trans' hE5;simp -implicitDefEqProofs;refine (L01.qAt b (by omega)).mono ?_;rintro _ w6 ⟨vt,rfl,hvt,hE6⟩;have af:=P.trans' hE6;rw [l] at hvt;simp -implicitDefEqProofs [fV,l,L01.Res.err,L01.Res.at];refine qQ z26 fun C w7 hC hE7 hb7 _=>?_;simp -implicitDefEqProofs;refine jg (B:=C) (by simp -implicitDefEqProofs) hb7 (by simp -implicitDefEqProofs [Value.cells]) (by simp -implicitDefEqProofs [Value.cells]) (by simpa [Value.cells] using QH) fun w8 hO8 ac=>?_;simp -implicitDefEqProofs [Value.cells] at ac;have E:qc w6 w8:=hO8.ext hE7 hC;have q:=af.trans' E;have rC:Eng.q4 w8 ⟨C,0,none⟩ 0 2=some [.int .i64 0,.int .i64 0]:=xc ac;simp -implicitDefEqProofs [rC,qwk];refine qvC (xs:=#[.int .i64 0,.int .i64 0]) (ys:=#[.int .i64 0,.int .i64 0]) (by simp -implicitDefEqProofs) (by simp -implicitDefEqProofs) g26 (qvA 0 0 0 0 _) ?_;simp -implicitDefEqProofs [qut];refine (qoM (hG.ext q) (hM.ext q) b (by omega)).mono ?_;rintro _ w9 ⟨vb,rfl,hvb,hmb,hE9⟩;obtain ⟨mb,f1,f2,ab⟩:∃ms O e2,zr b=(ms,O,e2):=⟨_,_,_,rfl⟩;rw [ab];dsimp only;simp -implicitDefEqProofs [qf4];refine qQ z26 fun D w10 hD Y ae _=>?_;simp -implicitDefEqProofs;refine jg (B:=D) (by simp -implicitDefEqProofs) ae (by simp -implicitDefEqProofs [Value.cells]) (by simp -implicitDefEqProofs [Value.cells]) (by simpa [Value.cells] using QH) fun p hO11 v=>?_;simp -implicitDefEqProofs [Value.cells] at v;have t:qc w9 p:=hO11.ext Y hD;have c:=(q.trans' hE9).trans' t;have cD0:∀W,qc p W->W.cell? ⟨D,0,none⟩=some (.int .i64 f1):=fun W o=>by rw [(v.ext o).cell];rfl
 have cD1:∀W,qc p W->W.cell? ⟨D,1,none⟩=some (.int .i64 f2):=fun W o=>by rw [(v.ext o).cell];rfl
 simp -implicitDefEqProofs [cD0 p (jd _)];by_cases u:f1=20
 case neg=>
  simp -implicitDefEqProofs [u];refine (rd c).mono ?_;rintro _ ad ⟨rfl,i⟩;simp -implicitDefEqProofs;exact fin _ (c.trans' i)
 subst u;obtain ⟨xK,cs2,g,X,hg,rfl⟩:=qoh ab;rw [l] at X;cases X;have I:=hw g hg;have htl:a.length<=20000:=by have:=(L01.qhy b).1;rw [l] at this;exact this
 have Z:L01.SlK p vt a:=L01.SlK.own ((hvt.ext E).ext (hE9.trans' t)) (by omega);have key:∀(y:qa),y 10=.pointer (some ⟨D,0,none⟩)->y 11=.int .i64 (vO a a.length)->qj2.wp ⟨Tryz.prog,77,quu,[]⟩ (qz [.tmp 2] R) (qM [.tmp 2] R) y p:=fun y U h11=>by
  simp -implicitDefEqProofs [qj2,U,h11];refine (rd c).mono ?_;rintro _ ad ⟨rfl,i⟩;simp -implicitDefEqProofs [U,h11,cD1 ad i,I];exact fin _ (c.trans' i)
 by_cases h0:a.length=0
 ·have el:vO a a.length=1:=by unfold vO;rw [j0 h0]
  simp -implicitDefEqProofs [qj1,Z.is,Z.len,h0];refine key _ (by simp -implicitDefEqProofs) (by simp -implicitDefEqProofs [el])
 ·have aa:0<a.length:=by omega
  have el:vO a a.length=(a[a.length - 1]'(by omega)).line:=by
   unfold vO;rw [q3 h0,show min a.length (a.length - 1)=a.length - 1 by omega];unfold tk;simp -implicitDefEqProofs [uj (show a.length - 1<a.length by omega)]
  have hc:=(Z.cell (a.length - 1) (by omega)).2.2;have hw1:IntKind.i64.wrap ((a.length:Int) - 1)=((a.length - 1:Nat):Int):=by rw [q7 (by omega)];omega
  have hlt:a.length - 1<a.length:=by omega
  simp -implicitDefEqProofs [qj1,Z.is,Z.len,aa,hw1,hlt,hc];refine key _ (by simp -implicitDefEqProofs) (by simp -implicitDefEqProofs [el])
end Go.L02
