/- Lemmas for a claim about layer 2 (tree). No conditions but those they state. -/
import Derived.Test.YtbcmiempigoooaaGreatDoorGar
set_option linter.all false
namespace Go.L02
open Go Go.Eng Go.RowKit
open Go.Proofs hiding encI
open Go.L01 (Bs Tok qh qi)
set_option maxRecDepth 100000
set_option maxHeartbeats 2000000
@[simp] theorem qHd:qg Tryz.prog 149=true:=by kernel_rfl
@[simp] theorem qHh:qg Tryz.prog 104=true:=by kernel_rfl
theorem quv:xo Tryz.prog 182=some (99,1):=by kernel_rfl
theorem qvZ:xG Tryz.prog 182=some (99,1,24):=by kernel_rfl
structure RdT (w:World) (v:Value) (ts:List T) (vs:List Value):Prop where
 cells:Cells w v 1 vs
 len:vs.length=ts.length
 rd:∀j (h:j<ts.length),∃xs:List NV,Rd w (vs[j]'(by omega)) xs∧xs.map (·.nd)=ts[j].flat 0
theorem RdT.ext {w w':World} {v:Value} {a:List T} {vs:List Value} (h:RdT w v a vs) (b:qb w w'):RdT w' v a vs:=⟨h.cells.ext b,h.len,fun j e=>by obtain ⟨xs,c,g⟩:=h.rd j e;exact ⟨xs,c.ext b,g⟩⟩
theorem qrI {t:T} {b:Nat} {x:Nd} (e:x∈t.flat b):∀k∈x.kids,(b:Int)≤k∧k<(b:Int)+t.size - 1:=fun k c=>by
 have a:0<(ko (t.flat b)).count k:=List.count_pos_iff.2 (List.mem_flatMap.2 ⟨x,e,c⟩);rw [qsl] at a;unfold vy at a;split at a<;>omega
theorem qlh {b e sz:Nat} {w:World} {v:Value} {ys:List Value} (h:Own b e sz w v ys) {k:Nat} (c:k<b):some k≠v.ownBlock:=fun a=>by have:=(h.blk k a.symm).1;omega
theorem qsH {w w':World} {X T:Nat} {cs:Array Value} (b:Blk w X cs T) {row:Option Nat} (c:w.grownBy w' row) (a:some X≠row):Blk w' X cs T:=⟨(c.block X b.lt a).trans b.heap⟩
section
variable {w:World}
theorem qwt {x:NV} (hx:qn x.kv=true) {kv:Value} {g:List T} {vs:List Value} (hT:RdT w kv g vs) (hsz:sizes g≤1000000) (htl:g.length≤1000000):
  Calls Tryz.prog 149 #[jf x,kv] w fun e w'=>∃v ys,e= .returned v∧OwnN w.heap.size w' v ys∧qb w w'∧ys.map (·.nd)=(T.mk x.nd.d g).flat 0:=by
 generalize hRR:(fun (e:Ending) (w':World)=>∃v ys,e= .returned v∧OwnN w.heap.size w' v ys∧qb w w'∧ys.map (·.nd)=(T.mk x.nd.d g).flat 0)=R;have V:=hT.cells.is;have hkl:qk kv=g.length:=by have:=hT.cells.len;have:=hT.len;omega
 refine qBF fun ρ r0 r1=> ?_;simp -implicitDefEqProofs [qqv];refine vz fun N w1 hN hE1 hb1 hs1=> ?_;rw [show qd ρ (.tmp 0)=jf x by simp [r0],zP hx] at hb1;simp -implicitDefEqProofs;refine qP (B:=N) (i:=5) (by simp) hb1 (by simp [qe]) (by simp [Value.cells]) (by simp) qe0 fun w2 hO2 hb2=> ?_;have hb2':Blk w2 N (qe ⟨⟨x.nd.d,[]⟩, .slice none 0 0⟩).toArray 44:=xd hb2 (by simp [qe]);have hE2:qb w w2:=hO2.ext hE1 hN;obtain ⟨bs,hbs⟩:∃bs,bs=w1.heap.size:=⟨_,rfl⟩;have hNb:N<bs:=by have:=hb1.lt;omega
 have hwb:w.heap.size≤bs:=by have:=hE1.size;omega
 have hb2s:bs≤w2.heap.size:=by have:=hO2.size;omega
 simp -implicitDefEqProofs;obtain ⟨I,hI⟩:∃I:Nat→qa→World→Prop,∀i ag W,I i ag W↔(ag 1=kv∧ag 2= .pointer (some ⟨N,0,none⟩)∧qb w W∧bs≤W.heap.size∧∃nk ys,Blk W N (qe ⟨⟨x.nd.d,qx 0 (g.take i)⟩,nk⟩).toArray 44∧Own bs 3 1 W nk ((qx 0 (g.take i)).map encI)∧OwnN bs W (ag 5) ys∧ys.map (·.nd)=flats 0 (g.take i)∧∀z∈ys,z.kv.ownBlock=none∨z.kv.ownBlock≠nk.ownBlock):=⟨_,fun _ _ _=>Iff.rfl⟩;refine js 6 g.length I (by simp) ((hI _ _ _).2 ⟨by simp [r1],by simp,hE2,hb2s,_,[],by simpa [qx] using hb2',by simpa [qx] using Own.nil _ _ _ _,by simpa using OwnN.nil _ _,by simp [flats],by simp⟩) ?_;clear r0 r1 hb1 hb2 hb2';rintro i ag W hi ri hIw;obtain ⟨r1,r2,hE,hbW,nk,ys,K,E,j,l,af⟩:=(hI _ _ _).1 hIw;have hwi:IntKind.i64.wrap ((i:Int)+1)=(i:Int)+1:=qr (by omega);generalize C:ag 5=ov at j;by_cases ac:i<g.length
 ·have H:(i:Int)<(g.length:Int):=by omega
  have hivs:i<vs.length:=by have:=hT.len;omega
  have hct:=hT.cells.cell i hivs;obtain ⟨xs,hxs,hxm⟩:=hT.rd i ac;have htk:g.take (i+1)=g.take i++[g[i]]:=List.take_succ_eq_append_getElem ac;generalize hst:g.take i=tp at*;have hsz2:sizes tp+(g[i]).size≤1000000:=by
   have h1:=congrArg sizes (List.take_append_drop (i+1) g);rw [xp,htk,xp] at h1;simp only [sizes] at h1;omega
  have htv:vs[i]'hivs=vs[i]:=rfl;generalize vs[i]'hivs=tv at hct hxs;generalize g[i]=t at hxm htk hsz2;have hxl:xs.length=t.size:=by rw [←List.length_map (f:=fun x:NV=>x.nd),hxm,T.flat_len]
  have htl2:qk tv=t.size:=by rw [hxs.len,hxl]
  have hyl:ys.length=sizes tp:=by rw [←List.length_map (f:=fun x:NV=>x.nd),l,flats_len]
  simp -implicitDefEqProofs [qhq,ri,r1,V,hkl,H,ac,qqm];obtain ⟨J,hJ⟩:∃J:Nat→qa→World→Prop,∀k L W2,J k L W2↔(L 1=kv∧L 2= .pointer (some ⟨N,0,none⟩)∧L 6= .int .i64 (i:Int)∧qb w W2∧bs≤W2.heap.size∧∃ys,Blk W2 N (qe ⟨⟨x.nd.d,qx 0 tp⟩,nk⟩).toArray 44∧Own bs 3 1 W2 nk ((qx 0 tp).map encI)∧OwnN bs W2 (L 5) ys∧ys.map (·.nd)=flats 0 tp++(t.flat (sizes tp)).take k∧∀z∈ys,z.kv.ownBlock=none∨z.kv.ownBlock≠nk.ownBlock):=⟨_,fun _ _ _=>Iff.rfl⟩;refine js 7 t.size J (by simp) ((hJ _ _ _).2 ⟨by simp [r1],by simp [r2],by simp [ri],hE,hbW,ys,K,E,by simpa [C] using j,by simpa using l,af⟩) ?_;clear r1 r2 ri hE hbW K E j l af hyl C ov;clear ys;rintro k L W2 hk rk hJw;obtain ⟨r1,r2,r6,hE,hbW,ys,K,E,j,l,af⟩:=(hJ _ _ _).1 hJw;have hwk:IntKind.i64.wrap ((k:Int)+1)=(k:Int)+1:=qr (by omega);have hyl:ys.length=sizes tp+k:=by rw [←List.length_map (f:=fun x:NV=>x.nd),l,List.length_append,flats_len,List.length_take,T.flat_len];omega
  have hct2:=hE.cell hct;have S:=hxs.ext hE;generalize C:L 5=ov at j;by_cases hkt:k<t.size
  ·have hkt':(k:Int)<(t.size:Int):=by omega
   have hkx:k<xs.length:=by omega
   have F:=S.row hkx;have O:=S.kids xs[k] (List.getElem_mem _);have hmem:xs[k].nd∈t.flat 0:=by rw [←hxm];exact List.mem_map_of_mem (List.getElem_mem _)
   have hgk:(t.flat (sizes tp))[k]? =some (qF (· +((sizes tp:Nat):Int)) xs[k].nd):=by
    have:=yZ t 0 (sizes tp);rw [Nat.zero_add] at this;rw [←this,←hxm,List.getElem?_map,List.getElem?_map,List.getElem?_eq_getElem hkx];rfl
   have htkk:(t.flat (sizes tp)).take (k+1)=(t.flat (sizes tp)).take k++[qF (· +((sizes tp:Nat):Int)) xs[k].nd]:=by
    have hkf:k<(t.flat (sizes tp)).length:=by rw [T.flat_len];exact hkt
    rw [List.take_succ_eq_append_getElem hkf];rw [List.getElem?_eq_getElem hkf,Option.some.injEq] at hgk;rw [hgk]
   have hkb:=qrI hmem;have hkn:=qdj t 0 _ hmem;generalize xs[k]=z at F O hkb hkn htkk;have hkc:=jR O.is;have hko:=vI O.is;have hkl2:qk z.kv=z.nd.kids.length:=by simpa using O.len.symm
   simp -implicitDefEqProofs [qho,rk,r1,r6,V,hkl,H,ac,hct2,S.cells.is,htl2,hkt',hkt,qqp,F];refine qT wk fun X w3 hX hE3 hb3 _=> ?_;simp -implicitDefEqProofs;refine jn (B:=X) (by simp) hb3 (by simp [Value.cells,qe,hkc]) (by simp [Value.cells,qe,hkc,hko]) (by simpa [Value.cells,qe,hkc] using wv) fun w4 hO4 hb4=> ?_;have hE4:qb W2 w4:=hO4.ext hE3 hX;have hb4':Blk w4 X (qe z).toArray 44:=by simpa [Value.cells,qe,hkc] using hb4
   have hX4:X<w4.heap.size:=hb4'.lt;simp -implicitDefEqProofs;obtain ⟨J2,hJ2⟩:∃J2:Nat→qa→World→Prop,∀m n W3,J2 m n W3↔(n 1=kv∧n 2= .pointer (some ⟨N,0,none⟩)∧n 5=ov∧n 6= .int .i64 (i:Int)∧n 7= .int .i64 (k:Int)∧n 8= .pointer (some ⟨X,0,none⟩)∧qb w4 W3∧Own w4.heap.size 3 1 W3 (n 9) ((z.nd.kids.take m).map fun q=> .int .i64 (q+((sizes tp:Nat):Int)))):=⟨_,fun _ _ _=>Iff.rfl⟩;refine js 10 z.nd.kids.length J2 (by simp) ((hJ2 _ _ _).2 ⟨by simp [r1],by simp [r2],by simp [C],by simp [r6],by simp [rk],by simp,qA _,by simpa using Own.nil _ _ _ _⟩) ?_;clear r1 r2 r6 rk C;rintro m n W3 hm rm hJw;obtain ⟨r1,r2,r5,r6,r7,r8,hE7,ad⟩:=(hJ2 _ _ _).1 hJw;have hwm:IntKind.i64.wrap ((m:Int)+1)=(m:Int)+1:=qr (by omega);have hb7:=hb4'.ext hE7;have c5:W3.cell? ⟨X,5,none⟩=some z.kv:=by rw [hb7.cell];rfl
   generalize hkv9:n 9=kv9 at ad;have Z:=j.ext (hE4.trans' hE7);have hol:qk ov=sizes tp+k:=by have:=Z.rd.len;omega
   by_cases ae:m<z.nd.kids.length
   ·have hml':(m:Int)<(z.nd.kids.length:Int):=by omega
    have P:=(O.ext (hE4.trans' hE7)).cell m (by simpa using ae);simp only [List.getElem_map,encI] at P;have htq:z.nd.kids.take (m+1)=z.nd.kids.take m++[z.nd.kids[m]]:=List.take_succ_eq_append_getElem ae;have hq:=hkb _ (List.getElem_mem ae);generalize z.nd.kids[m]=q at P htq hq;have hwq1:IntKind.i64.wrap (q+((sizes tp:Nat)+(k:Nat):Int))=q+((sizes tp:Nat)+(k:Nat):Int):=qr (by omega);have hwq2:IntKind.i64.wrap (q+((sizes tp:Nat)+(k:Nat):Int) - (k:Int))=q+((sizes tp:Nat):Int):=by rw [qr (by omega)];omega
    simp -implicitDefEqProofs [qhp,rm,r8,c5,O.is,hkl2,hml',ae,qqt,hkv9,P,r5,r7,Z.own.isl,hol,hwq1,hwq2];refine jz yB (by decide) (by decide) (by simp [Value.cells]) fun B5 W5 hB5 s hb5 _=> ?_;simp [Value.cells] at hb5;simp -implicitDefEqProofs;refine ku yG (W0:=w4) (hE7.trans' s) (sv:=kv9) (xv:= .slice (some ⟨B5,0,none⟩) 1 1) (by simp [hkv9]) (by simp) (ad.ext s) (Blk.cells (cs:=[.int .i64 (q+((sizes tp:Nat):Int))]) hb5 (by simp)) (by simp [Value.oneCell']) (by simp;omega) (by simp;omega) fun v' W6 hE6 ho6 _ _=> ?_;simp -implicitDefEqProofs [qqu,rm,hwm,ae];refine (hJ2 _ _ _).2 ⟨by simp [r1],by simp [r2],by simp [r5],by simp [r6],by simp [r7],by simp [r8],hE6, ?_⟩;rw [htq,List.map_append];simpa using ho6
   ·have hml':¬(m:Int)<(z.nd.kids.length:Int):=by omega
    rw [List.take_of_length_le (by omega)] at ad;simp -implicitDefEqProofs [qhp,rm,r8,c5,O.is,hkl2,hml',ae,qqr,hkv9];have hkvc:=jR ad.isl;refine qP (B:=X) (i:=5) (by simp) hb7 (by simp [qe]) (by simp [hkvc]) (by simp [vI ad.isl]) qe0 fun w8 hO8 hb8=> ?_;obtain ⟨y,hy⟩:∃y:NV,y=⟨qF (· +((sizes tp:Nat):Int)) z.nd,kv9⟩:=⟨_,rfl⟩;have hb8':Blk w8 X (qe y).toArray 44:=xd hb8 (by subst hy;simp [qe,qF]);have hrow8:Eng.jk w8 ⟨X,0,none⟩ 0 6=some (qe y):=by have:=xr hb8';simpa [qe] using this
    have hE8:qb W2 w8:=hO8.ext (hE4.trans' hE7) hX;have Q:Own w4.heap.size 3 1 w8 y.kv (y.nd.kids.map encI):=by
     have:=ad.only hO8 hX4;subst hy;simpa [qF,encI,Function.comp_def] using this
    have hyc:(jf y).cells=(qe y).toArray:=zP Q.isl;have eA:Value.agg (qe y).toArray=jf y:=rfl;simp -implicitDefEqProofs [r5,r8,hrow8,eA];refine jz qjJ (by decide) (by decide) (by simp [hyc,qe]) fun Y w9 hY A hb9 _=> ?_;simp [hyc] at hb9;have p:=hE8.trans' A;have a:=j.ext p;have hnk9:=E.ext p;have hbN9:=K.ext p;have o:=Q.ext A;have hbs9:bs≤w9.heap.size:=by have:=p.size;omega
    have hbs4:bs≤w4.heap.size:=by have:=hE4.size;omega
    have hap9:y.kv.ownBlock=none∨y.kv.ownBlock≠nk.ownBlock:=by
     cases hyo:y.kv.ownBlock with
     |none=>exact .inl rfl
     |some q=>
      refine .inr fun e1=> ?_;have h1:=(o.blk q hyo).1;have h2:=(E.blk q e1.symm).2;have:=hE4.size;omega
    simp -implicitDefEqProofs [r5];refine qed qks (base:=bs) hbs9 (sv:=ov) (xv:= .slice (some ⟨Y,0,none⟩) 1 1) (by simp [r5]) (by simp) a.own (Blk.cells (cs:=qe y) hb9 (by simp [qe])) (qaf Q.isl) (by rw [z6];simp [qe];omega) (by rw [z6];simp [qe];omega) fun v' w10 ho10 b _=> ?_;have hE10:qb w w10:=(hE.trans' p).grown b (hE.trans' p).size fun q hq=>by have:=(a.own.blk q hq).1;omega
    simp -implicitDefEqProofs [qqq,r7,hwk,hkt];refine (hJ _ _ _).2 ⟨by simp [r1],by simp [r2],by simp [r6],hE10,by have:=b.size;omega,ys++[y],qsH hbN9 b (qlh a.own hNb),Own.kept hnk9 b (xw hnk9 a.own (by decide)), ?_, ?_, ?_⟩
    ·refine ⟨by rw [qc9];simpa [qZ] using ho10,fun u c=> ?_⟩;rcases List.mem_append.1 c with c|c
     ·exact Own.kept (a.kid u c) b (xw (a.kid u c) a.own (by decide))
     ·rw [List.mem_singleton.1 c];exact Own.kept (Own.le o hbs4) b (xw o a.own (by decide))
    ·rw [List.map_append,l,htkk,hy];simp
    ·intro u c;rcases List.mem_append.1 c with c|c
     ·exact af u c
     ·rw [List.mem_singleton.1 c];exact hap9
  ·have hkt':¬(k:Int)<(t.size:Int):=by omega
   rw [List.take_of_length_le (by rw [T.flat_len];omega)] at l;have hflat:flats 0 (g.take (i+1))=flats 0 tp++t.flat (sizes tp):=by rw [htk,qbO];simp [flats]
   have ab:qx 0 (g.take (i+1))=qx 0 tp++[((sizes tp:Nat):Int)+t.size - 1]:=by rw [htk,qcE];simp [qx]
   have hpos:=t.size_pos;have c5:W2.cell? ⟨N,5,none⟩=some nk:=by rw [K.cell];rfl
   have hol:qk ov=sizes tp+t.size:=by have:=j.rd.len;omega
   have hwl:IntKind.i64.wrap (((sizes tp:Nat):Int)+(t.size:Nat) - 1)=((sizes tp:Nat):Int)+t.size - 1:=qr (by omega);simp -implicitDefEqProofs [qho,rk,r1,r6,V,hkl,H,ac,hct2,S.cells.is,htl2,hkt',hkt,qqo,r2,c5,C,j.own.isl,hol,hwl];refine jz yB (by decide) (by decide) (by simp [Value.cells]) fun B5 W5 hB5 s hb5 _=> ?_;simp [Value.cells] at hb5;have U:=E.ext s;have aa:=j.ext s;have hbN5:=K.ext s;have hbs5:bs≤W5.heap.size:=by have:=s.size;omega
   have hrl:=roots_sizes tp 0;simp -implicitDefEqProofs;refine qed yG (base:=bs) hbs5 (sv:=nk) (xv:= .slice (some ⟨B5,0,none⟩) 1 1) (by simp) (by simp) U (Blk.cells (cs:=[.int .i64 (((sizes tp:Nat):Int)+t.size - 1)]) hb5 (by simp)) (by simp [Value.oneCell']) (by simp;omega) (by simp;omega) fun nk' W6 ho6 hg6 hf6=> ?_;have hE6:qb w W6:=(hE.trans' s).grown hg6 (hE.trans' s).size fun q hq=>by have:=(U.blk q hq).1;omega
   have hys6:OwnN bs W6 ov ys:=⟨Own.kept aa.own hg6 (xw aa.own U (by decide)),fun u c=>Own.kept (aa.kid u c) hg6 (af u c)⟩;have hbN6:=qsH hbN5 hg6 (qlh U hNb);have hnkc:=jR ho6.isl;simp -implicitDefEqProofs [r2];refine qP (B:=N) (i:=5) (by simp) hbN6 (by simp [qe]) (by simp [hnkc]) (by simp [vI ho6.isl]) qe0 fun w7 hO7 hb7=> ?_;simp -implicitDefEqProofs [qqn,r6,hwi,ac];refine (hI _ _ _).2 ⟨by simp [r1],by simp [r2],hO7.ext hE6 hN,by have:=hO7.size;have:=hg6.size;omega,nk',ys, ?_, ?_, ?_, ?_, ?_⟩
   ·rw [ab];exact xd hb7 (by simp [qe])
   ·rw [ab,List.map_append];have:=ho6.only hO7 hNb;simpa [encI] using this
   ·have Z:OwnN bs w7 ov ys:=⟨hys6.own.only hO7 hNb,fun u c=>(hys6.kid u c).only hO7 hNb⟩;simpa [C] using Z
   ·rw [hflat];exact l
   ·intro u c;cases huo:u.kv.ownBlock with
    |none=>exact .inl rfl
    |some q=>
     refine .inr fun e1=> ?_;rcases hf6 with hf|hf
     ·rw [hf] at e1;rcases af u c with h|h
      ·rw [huo] at h;cases h
      ·rw [huo] at h;exact h e1
     ·rw [hf] at e1;have h1:=((aa.kid u c).blk q huo).2;cases e1;omega
 ·have H:¬(i:Int)<(g.length:Int):=by omega
  rw [List.take_of_length_le (by omega)] at K E l;have F:Eng.jk W ⟨N,0,none⟩ 0 6=some (qe ⟨⟨x.nd.d,qx 0 g⟩,nk⟩):=by have:=xr K;simpa [qe] using this
  obtain ⟨y,hy⟩:∃y:NV,y=⟨⟨x.nd.d,qx 0 g⟩,nk⟩:=⟨_,rfl⟩;rw [←hy] at F;have Q:Own bs 3 1 W y.kv (y.nd.kids.map encI):=by subst hy;exact E
  have hyc:(jf y).cells=(qe y).toArray:=zP Q.isl;have eA:Value.agg (qe y).toArray=jf y:=rfl;have hyl:ys.length=sizes g:=by rw [←List.length_map (f:=fun x:NV=>x.nd),l,flats_len]
  simp -implicitDefEqProofs [qhq,ri,r1,V,hkl,H,qqs,r2,F,eA,C];refine jz qjJ (by decide) (by decide) (by simp [hyc,qe]) fun Y w9 hY A hb9 _=> ?_;simp [hyc] at hb9;have a:=j.ext A;have o:=Q.ext A;simp -implicitDefEqProofs;refine qed qks (base:=bs) (by have:=A.size;omega) (sv:=ov) (xv:= .slice (some ⟨Y,0,none⟩) 1 1) (by simp) (by simp) a.own (Blk.cells (cs:=qe y) hb9 (by simp [qe])) (qaf Q.isl) (by rw [z6];simp [qe];omega) (by rw [z6];simp [qe];omega) fun v' w10 ho10 b _=> ?_;have hE10:qb w w10:=(hE.trans' A).grown b (hE.trans' A).size fun q hq=>by have:=(a.own.blk q hq).1;omega
  simp -implicitDefEqProofs;rw [←hRR];refine ⟨v',ys++[y],rfl,OwnN.le ⟨by rw [qc9];simpa [qZ] using ho10,fun u c=> ?_⟩ hwb,hE10, ?_⟩
  ·rcases List.mem_append.1 c with c|c
   ·exact Own.kept (a.kid u c) b (xw (a.kid u c) a.own (by decide))
   ·rw [List.mem_singleton.1 c];exact Own.kept o b (xw o a.own (by decide))
  ·rw [List.map_append,l,hy];rfl
end
end Go.L02
namespace Go.L02
open Go.Eng
open Go.L01 (Bs Tok)
mutual
def T.repl:T→Nat→T→Nat→T
 | .mk d ks,i,tb,c=>if c+sizes ks=i then tb else .mk d (repls i tb ks c)
def repls (i:Nat) (tb:T):List T→Nat→List T
 |[],_=>[]
 |t::ts,c=>t.repl i tb c::repls i tb ts (c+t.size)
end
mutual
theorem T.repl_out {i:Nat} {tb:T}:∀(t:T) (c:Nat),(i<c∨c+t.size≤i)→t.repl i tb c=t
 | .mk d ks,c,h=>by
  simp only [T.size] at h;rw [T.repl,if_neg (by omega),repls_out ks c (by omega)]
theorem repls_out {i:Nat} {tb:T}:∀(a:List T) (c:Nat),(i<c∨c+sizes a≤i)→repls i tb a c=a
 |[],_,_=>rfl
 |t::a,c,h=>by
  simp only [sizes] at h;rw [repls,T.repl_out t c (by omega),repls_out a (c+t.size) (by omega)]
end
theorem qCH (a:List T) (b c:Nat):flats c a=(flats b a).map (qF fun k=>k - (b:Int)+(c:Int)):=by
 have e:=flats_shift a 0 b;have g:=flats_shift a 0 c;rw [Nat.zero_add] at e g;rw [←e,←g,List.map_map];refine List.map_congr_left fun x _=> ?_;simp only [Function.comp_apply,qjM];congr 1;funext k;omega
theorem qvt (a:List T) (b c:Nat):qx c a=(qx b a).map fun k=>k - (b:Int)+(c:Int):=by
 have e:=roots_shift a 0 b;have g:=roots_shift a 0 c;rw [Nat.zero_add] at e g;rw [←e,←g,List.map_map];refine List.map_congr_left fun x _=> ?_;simp only [Function.comp_apply];omega
theorem qCI {a:List T} {b:Nat} {x:Nd} (g:x∈flats b a):∀k∈x.kids,(b:Int)≤k:=fun k e=>by
 have h:0<(ko (flats b a)).count k:=List.count_pos_iff.2 (List.mem_flatMap.2 ⟨x,g,e⟩);have i:=cnt_flats a b k;have c:vy (b:Int) (b+sizes a) k≠0:=by omega
 unfold vy at c;split at c<;>omega
theorem qkm:∀(a:List T) (b:Nat),∀k∈qx b a,(b:Int)≤k
 |[],_,_,h=>by cases h
 |t::a,b,k,h=>by
  have c:=t.size_pos;rcases List.mem_cons.1 h with h|h
  ·omega
  ·have:=qkm a (b+t.size) k h;omega
mutual
theorem qcJ {i:Nat}:∀(t:T) (c:Nat),c≤i→i<c+t.size→∃(u:T) (a post:List Nd),t.flat c=a++(u.flat (c+a.length)++post)∧c+a.length+u.size=i+1∧
  ∀tb:T,(t.repl i tb c).flat c=a++(tb.flat (c+a.length)++post.map (qF (z8 (c+a.length) u.size tb.size)))∧(t.repl i tb c).size+u.size=t.size+tb.size∧(QF (t.repl i tb c)=true→QF tb=true)
 | .mk d ks,c,m,o=>by
  simp only [T.size] at o;by_cases b:c+sizes ks=i
  ·refine ⟨.mk d ks,[],[],by simp,by simp [T.size];omega,fun tb=> ?_⟩;rw [T.repl,if_pos b];exact ⟨by simp,by omega,fun h=>h⟩
  ·obtain ⟨u,a,post,k,g,n⟩:=repls_dec ks c m (by omega);refine ⟨u,a,post++[⟨d,qx c ks⟩],by rw [T.flat,k];simp,g,fun tb=> ?_⟩;obtain ⟨l,e,p,j⟩:=n tb;rw [T.repl,if_neg b];refine ⟨?_,by simp only [T.size];omega,fun h=>j ?_⟩
   ·rw [T.flat,l,e];simp [qF]
   ·unfold QF at h;simp only [Bool.and_eq_true] at h;exact h.2
theorem repls_dec {i:Nat}:∀(b:List T) (c:Nat),c≤i→i<c+sizes b→∃(u:T) (a post:List Nd),flats c b=a++(u.flat (c+a.length)++post)∧c+a.length+u.size=i+1∧
  ∀tb:T,flats c (repls i tb b c)=a++(tb.flat (c+a.length)++post.map (qF (z8 (c+a.length) u.size tb.size)))∧qx c (repls i tb b c)=(qx c b).map (z8 (c+a.length) u.size tb.size)∧sizes (repls i tb b c)+u.size=sizes b+tb.size∧(okTs (repls i tb b c)=true→QF tb=true)
 |[],c,A,s=>by simp [sizes] at s;omega
 |t::b,c,A,s=>by
  simp only [sizes] at s;by_cases z:i<c+t.size
  ·obtain ⟨u,a,post,m,l,o⟩:=qcJ t c A z;have B:=u.size_pos;refine ⟨u,a,post++flats (c+t.size) b,by rw [flats,m];simp,l,fun tb=> ?_⟩;obtain ⟨n,v,y⟩:=o tb;have e:=repls_out (i:=i) (tb:=tb) b (c+t.size) (.inl z);rw [repls,e];have g:∀k:Int,((c+t.size:Nat):Int)≤k→z8 (c+a.length) u.size tb.size k=k - ((c+t.size:Nat):Int)+((c+(t.repl i tb c).size:Nat):Int):=fun k j=>by
    unfold z8;rw [if_neg (by omega)];omega
   refine ⟨?_, ?_,by simp only [sizes];omega,fun h=> ?_⟩
   ·rw [flats,n,qCH b (c+t.size)];simp only [List.append_assoc,List.map_append];congr 3;refine List.map_congr_left fun x E=> ?_;unfold qF;congr 1;exact List.map_congr_left fun k j=>(g k (qCI E k j)).symm
   ·rw [qx,qx,qvt b (c+t.size),List.map_cons];congr 1
    ·unfold z8;rw [if_neg (by omega)];omega
    ·exact List.map_congr_left fun k j=>(g k (qkm b _ k j)).symm
   ·unfold okTs at h;simp only [Bool.and_eq_true] at h;exact y h.1
  ·obtain ⟨u,a,post,m,l,o⟩:=repls_dec (i:=i) b (c+t.size) (by omega) (by omega);have B:=u.size_pos;have p:c+(t.flat c++a).length=c+t.size+a.length:=by rw [List.length_append,T.flat_len];omega
   refine ⟨u,t.flat c++a,post,by rw [flats,m,p];simp,by rw [p];exact l,fun tb=> ?_⟩;obtain ⟨n,v,y,C⟩:=o tb;have e:=T.repl_out (i:=i) (tb:=tb) t c (.inr (by omega));rw [repls,e,p];refine ⟨by rw [flats,n];simp, ?_,by simp only [sizes];omega,fun h=> ?_⟩
   ·rw [qx,qx,v,List.map_cons];congr 1;unfold z8;rw [if_pos (by omega)]
   ·unfold okTs at h;simp only [Bool.and_eq_true] at h;exact C h.2
end
theorem qrw {t tb u:T} {i:Nat} (e:jo (t.flat 0) i u):kp (t.flat 0) (i+1 - u.size) i u.size (tb.flat 0)=(t.repl i tb 0).flat 0∧(QF (t.repl i tb 0)=true→QF tb=true)∧(t.repl i tb 0).size+u.size=t.size+tb.size:=by
 have p:=e.lt;rw [T.flat_len] at p;obtain ⟨o,a,post,b,h,j⟩:=qcJ t 0 (Nat.zero_le i) (by omega);simp only [Nat.zero_add] at b h j;have c:jo (t.flat 0) i o:=⟨a,post,b,h.symm⟩;obtain rfl:=jo.uniq _ (Nat.le_refl _) e c;obtain ⟨s,l,n⟩:=j tb;refine ⟨?_,n,l⟩;have v:i+1 - u.size=a.length:=by omega
 unfold kp;rw [s,b,v,T.flat_len];have y:(a++(u.flat a.length++post)).take a.length=a:=by simp
 have z:(a++(u.flat a.length++post)).drop (i+1)=post:=by
  rw [←List.append_assoc];have:i+1=(a++u.flat a.length).length:=by rw [List.length_append,T.flat_len];omega
  rw [this,List.drop_left]
 rw [y,z];have m:a.map (qF fun k=>k)=a:=by
  conv=>rhs;rw [←List.map_id a]
  exact List.map_congr_left fun x _=>qcv fun _ _=>rfl
 have g:=yZ tb 0 a.length;rw [Nat.zero_add] at g;rw [m,g]
end Go.L02
namespace Go.L02
open Go Go.Eng Go.RowKit
open Go.Proofs hiding encI
open Go.L01 (Bs Tok qK qh qi)
set_option maxRecDepth 100000
set_option maxHeartbeats 2000000
@[simp] theorem qGU:qg Tryz.prog 42=true:=by kernel_rfl
theorem qky {i:Nat} {tb:T}:∀(a b:List T) (c:Nat),repls i tb (a++b) c=repls i tb a c++repls i tb b (c+sizes a)
 |[],b,c=>by simp [repls,sizes]
 |t::a,b,c=>by simp [repls,sizes,qky a b,Nat.add_assoc]
theorem qfA {i:Nat} {tb:T}:∀(a:List T) (c:Nat),(repls i tb a c).length=a.length
 |[],_=>rfl
 |t::a,c=>by simp [repls,qfA a]
theorem qfB (i:Nat) (tb t:T) (c:Nat):(t.repl i tb c).size≤t.size+tb.size:=by
 by_cases h:c≤i∧i<c+t.size
 ·obtain ⟨u,b,post,_,_,a⟩:=qcJ t c h.1 h.2;have:=(a tb).2.1;omega
 ·rw [T.repl_out t c (by omega)];omega
def kf (b:Nat) (bv:Value) (bs:List NV) (W:World) (v:Value) (t:T):Prop:=∃ys,(OwnN b W v ys∨(v=bv∧ys=bs))∧ys.map (·.nd)=t.flat 0
theorem kf.ext {b:Nat} {bv:Value} {bs:List NV} {W W':World} {v:Value} {t:T} (h:kf b bv bs W v t) (c:qb W W'):kf b bv bs W' v t:=by
 obtain ⟨ys,a,e⟩:=h;exact ⟨ys,a.imp (fun h=>h.ext c) id,e⟩
theorem kf.kept {b c:Nat} {bv:Value} {bs:List NV} {W W':World} {v kv:Value} {t:T} {vs:List Value} (h:kf b bv bs W v t) (e:Own c 99 1 W kv vs) (g:W.grownBy W' kv.ownBlock):kf b bv bs W' v t:=by
 obtain ⟨ys,i,j⟩:=h;exact ⟨ys,i.imp (fun h=>⟨Own.kept h.own g (xw h.own e (by decide)),fun y a=>Own.kept (h.kid y a) g (xw (h.kid y a) e (by decide))⟩) id,j⟩
theorem kf.le {b c:Nat} {bv:Value} {bs:List NV} {W:World} {v:Value} {t:T} (h:kf c bv bs W v t) (e:b≤c):kf b bv bs W v t:=by
 obtain ⟨ys,a,g⟩:=h;exact ⟨ys,a.imp (fun h=>h.le e) id,g⟩
section
variable {w:World} {lv bv:Value} {xs bs:List NV}
theorem kf.rd {b:Nat} {W:World} {v:Value} {t:T} (h:kf b bv bs W v t) (e:Rd W bv bs):∃ys,Rd W v ys∧ys.map (·.nd)=t.flat 0:=by
 obtain ⟨ys,a,c⟩:=h;rcases a with a|⟨rfl,rfl⟩
 ·exact ⟨ys,a.rd,c⟩
 ·exact ⟨_,e,c⟩
theorem qkF (hR:Rd w lv xs) (ae:xs.length≤100000) (hB:Rd w bv bs) {tb:T} (ad:bs.map (·.nd)=tb.flat 0) (hbl:tb.size≤100000) (i:Nat) (hi:i<100000):∀(n:Nat) (u:T) (a:Nat) (W:World),qb w W→u.size≤n→jo (xs.map (·.nd)) a u→
  Calls Tryz.prog 104 #[lv, .int .i64 (a:Int), .int .i64 (i:Int),bv] W fun e w'=>∃v,e= .returned v∧kf W.heap.size bv bs w' v (u.repl i tb (a+1 - u.size))∧qb W w'
 |0,u,_,_,_,hn,_=>by have:=u.size_pos;omega
 |n+1,u,a,W,K,hn,J=>by
  have p:a<xs.length:=by have:=J.lt;rwa [List.length_map] at this
  have hl:=hR.len;have his:=hR.cells.is;have S:=hR.ext K;have F:=J.node;rw [List.getElem?_map,List.getElem?_eq_getElem p] at F;simp only [Option.map_some,Option.some.injEq] at F;have b:=S.kids xs[a] (List.getElem_mem _);have hkk:xs[a].nd.kids=qx (a+1 - u.size) u.kids:=by rw [F]
  have hdd:xs[a].nd.d=u.d:=by rw [F]
  rw [hkk] at b;have X:qk xs[a].kv=u.kids.length:=by have:=b.len;simpa [zX] using this.symm
  have c5:W.cell? (qJ lv (a*6+5))=some xs[a].kv:=by rw [S.cell p (by omega)];rfl
  have L:=S.row p;have hle:=J.le;generalize xs[a]=x at b X c5 L hkk hdd;have hsz:=u.size_eq;obtain ⟨c,hc⟩:∃c,c=a+1 - u.size:=⟨_,rfl⟩;rw [←hc];have l:u.repl i tb c=if a=i then tb else .mk u.d (repls i tb u.kids c):=by
   obtain ⟨d,ks⟩:=u;simp only [T.size,T.kids,T.d] at*;rw [T.repl];by_cases h:a=i
   ·rw [if_pos (by omega),if_pos h]
   ·rw [if_neg (by omega),if_neg h]
  generalize aa:(fun (e:Ending) (w':World)=>∃v,e= .returned v∧kf W.heap.size bv bs w' v (u.repl i tb c)∧qb W w')=R;refine qCh fun ρ r0 r1 r2 r3=> ?_;have O:(a:Int)<(xs.length:Int):=by omega
  by_cases H:a=i
  ·have P:((a:Int)==(i:Int))=true:=by simp [H]
   simp -implicitDefEqProofs [qhI,r1,r2,P,r3];rw [←aa];refine ⟨bv,rfl,⟨bs, .inr ⟨rfl,rfl⟩, ?_⟩,qA _⟩;rw [l,if_pos H];exact ad
  ·have P:((a:Int)==(i:Int))=false:=by simp;omega
   simp -implicitDefEqProofs [qhI,r1,r2,P,qrf];have hul:u.kids.length≤sizes u.kids:=by have:=roots_sizes u.kids 0;rwa [zX] at this
   obtain ⟨I,hI⟩:∃I:Nat→qa→World→Prop,∀j k w',I j k w'↔(k 0=lv∧k 1= .int .i64 (a:Int)∧k 2= .int .i64 (i:Int)∧k 3=bv∧qb W w'∧∃vs,Own W.heap.size 99 1 w' (k 9) vs∧vs.length=j∧(∀v∈vs,qn v=true)∧∀q (Z:q<vs.length),∃t,(repls i tb (u.kids.take j) c)[q]? =some t∧kf W.heap.size bv bs w' vs[q] t):=⟨_,fun _ _ _=>Iff.rfl⟩;refine js 10 u.kids.length I (by simp) ((hI _ _ _).2 ⟨by simp [r0],by simp [r1],by simp [r2],by simp [r3],qA _,[],by simpa using Own.nil _ _ _ _,rfl,by simp,fun q Z=>absurd Z (by simp)⟩) ?_;clear r0 r1 r2 r3;rintro j k w' hj rj hIw;obtain ⟨r0,r1,r2,r3,E,vs,B,U,hvs,V⟩:=(hI _ _ _).1 hIw;have hwj:IntKind.i64.wrap ((j:Int)+1)=(j:Int)+1:=qr (by omega);have c5':=E.cell c5;generalize o:k 9=kv at B;by_cases g:j<u.kids.length
   ·have A:(j:Int)<(u.kids.length:Int):=by omega
    have s:=(b.ext E).cell j (by simpa [zX] using g);have hka:=J.kid g;have hg:=qa9 u.kids (a+1 - u.size) j g;have hjr:j<(qx (a+1 - u.size) u.kids).length:=by simpa [zX] using g
    rw [List.getElem?_eq_getElem hjr,Option.some.injEq] at hg;have e1:sizes (u.kids.take (j+1))=sizes (u.kids.take j)+u.kids[j].size:=by rw [List.take_succ_eq_append_getElem g,xp];simp [sizes]
    have hpos:=u.kids[j].size_pos;have e2:(((a+1 - u.size+sizes (u.kids.take (j+1)):Nat):Int) - 1)=((a+sizes (u.kids.take (j+1)) - u.size:Nat):Int):=by omega
    rw [List.getElem_map,hg,e2] at s;have hs1:sizes (u.kids.take (j+1))≤sizes u.kids:=by have:=congrArg sizes (List.take_append_drop (j+1) u.kids);rw [xp] at this;omega
    have htk:repls i tb (u.kids.take (j+1)) c=repls i tb (u.kids.take j) c++[u.kids[j].repl i tb (c+sizes (u.kids.take j))]:=by
     rw [List.take_succ_eq_append_getElem g,qky];rfl
    have hcb:a+sizes (u.kids.take (j+1)) - u.size+1 - u.kids[j].size=c+sizes (u.kids.take j):=by omega
    have ab:(repls i tb (u.kids.take j) c).length=j:=by rw [qfA,List.length_take];omega
    simp -implicitDefEqProofs [qhH,rj,r0,r1,his,hl,O,p,c5',A,g,qrh,b.is,X,s,encI,r2,r3];refine (qkF hR ae hB ad hbl i hi n u.kids[j] _ w' (K.trans' E) (by omega) hka).mono ?_;rintro _ w3 ⟨v,rfl,hv,ac⟩;rw [hcb] at hv;have y:qn v=true:=by
     obtain ⟨ys,Y,_⟩:=hv.rd (hB.ext ((K.trans' E).trans' ac));exact Y.cells.is
    have hvc:=jR y;simp -implicitDefEqProofs;refine jz quv (by decide) (by decide) (by simp [hvc]) fun B5 W5 hB5 hE5 hb5 _=> ?_;simp [hvc] at hb5;have C:=ac.trans' hE5;have m:=B.ext C;simp -implicitDefEqProofs [o];refine ku qvZ (W0:=W) (E.trans' C) (sv:=kv) (xv:= .slice (some ⟨B5,0,none⟩) 1 1) (by simp [o]) (by simp) m (Blk.cells (cs:=[v]) hb5 (by simp)) (by intro u hu;rw [List.mem_singleton.1 hu];revert y;cases v<;>simp [Value.oneCell',qn]) (by simp;omega) (by simp;omega) fun v' W6 hE6 ho6 hg6 _=> ?_;simp -implicitDefEqProofs [qri,rj,hwj,g];refine (hI _ _ _).2 ⟨by simp [r0],by simp [r1],by simp [r2],by simp [r3],hE6,vs++[v],by simpa using ho6,by simp [U], ?_,fun q Z=> ?_⟩
    ·intro z hz;rcases List.mem_append.1 hz with hz|hz
     ·exact hvs z hz
     ·rw [List.mem_singleton.1 hz];exact y
    ·rw [htk];by_cases hqj:q<j
     ·obtain ⟨t,Y,h2⟩:=V q (by omega);refine ⟨t,by rw [List.getElem?_append_left (by omega)];exact Y, ?_⟩;rw [List.getElem_append_left (by omega)];exact (h2.ext C).kept m hg6
     ·simp at Z;obtain rfl:q=j:=by omega
      refine ⟨_,by rw [List.getElem?_append_right (by omega),ab,Nat.sub_self];rfl, ?_⟩;have e5:(vs++[v])[q]'(by simp [U])=v:=by rw [List.getElem_append_right (by omega)];simp [U]
      rw [e5];exact ((hv.le E.size).ext hE5).kept m hg6
   ·have A:¬(j:Int)<(u.kids.length:Int):=by omega
    have e:u.kids.take j=u.kids:=List.take_of_length_le (by omega);rw [e] at V;have Q:=qa7 E _ _ _ _ L;have hBW:=hB.ext (K.trans' E);have ab:(repls i tb u.kids c).length=u.kids.length:=qfA _ _;have hT:RdT w' kv (repls i tb u.kids c) vs:=⟨L01.jO B,by omega,fun q Z=>by
     obtain ⟨t,Y,h2⟩:=V q (by omega);rw [List.getElem?_eq_getElem Z,Option.some.injEq] at Y;obtain ⟨ys,h3,h4⟩:=h2.rd hBW;exact ⟨ys,h3,by rw [Y];exact h4⟩⟩
    have hzs:=qfB i tb u c;rw [l,if_neg H,T.size] at hzs;have hu1:u.size≤a+1:=hle;have eA:Value.agg (qe x).toArray=jf x:=rfl;simp -implicitDefEqProofs [qhH,rj,r0,r1,his,hl,O,p,c5',b.is,X,A,g,qrg,Q,eA,o];refine (qwt b.is hT (by omega) (by omega)).mono ?_;rintro _ w4 ⟨v,ys,rfl,hys,hE4,hym⟩;simp -implicitDefEqProofs;rw [←aa];refine ⟨v,rfl,⟨ys, .inl (hys.le E.size), ?_⟩,E.trans' hE4⟩;rw [hym,l,if_neg H,hdd]
theorem qxv {l:List Nd} (h:xZ l=true):∃t:T,l=t.flat 0∧t.size≤400:=by
 unfold xZ at h;simp only [Bool.and_eq_true,decide_eq_true_eq] at h;obtain ⟨t,a⟩:=qbn h.1.2;exact ⟨t,a,by rw [←T.flat_len t 0,←a];exact h.1.1.2⟩
theorem qyi {tb:T} {a post:List Nd} {k:Int} (h:0≤k∧k<tb.size):jj (a++(tb.flat a.length++post)) (k+(a.length:Int))=jj (tb.flat 0) k∧zr (a++(tb.flat a.length++post)) (k+(a.length:Int))=zr (tb.flat 0) k:=by
 have e:(a++(tb.flat a.length++post))[(k+(a.length:Int)).toNat]? =((tb.flat 0)[k.toNat]?).map (qF (· +((a.length:Nat):Int))):=by
  have b:=yZ tb 0 a.length;rw [Nat.zero_add] at b;rw [List.getElem?_append_right (by omega),List.getElem?_append_left (by rw [T.flat_len];omega),←b,List.getElem?_map];congr 2;omega
 unfold jj zr;rw [e];cases (tb.flat 0)[k.toNat]? <;>exact ⟨rfl,rfl⟩
theorem qvY {l b:List Nd} {x:Nd} {f:Int} (h:∀k∈x.kids,jj b (k+f)=jj l k∧zr b (k+f)=zr l k):qv b (qF (· +f) x)=qv l x:=by
 have e:jE b (qF (· +f) x)=jE l x:=by
  unfold jE qF;rw [List.map_map];exact List.map_congr_left fun k a=>by simp [(h k a).1]
 have g:y7 b (qF (· +f) x)=y7 l x:=by
  unfold y7 qF;simp only [List.length_map,←List.map_drop,←List.map_take,List.all_map];rw [Bool.eq_iff_iff,List.all_eq_true,List.all_eq_true];constructor<;>intro c k a
  ·have:=c k a;rw [Function.comp_apply,(h k (List.mem_of_mem_drop (List.mem_of_mem_take a))).2] at this;exact this
  ·have:=c k a;rw [Function.comp_apply,(h k (List.mem_of_mem_drop (List.mem_of_mem_take a))).2];exact this
 unfold qv;rw [e,g];rfl
theorem qCv {t u:T} {i:Nat} (h:jo (t.flat 0) i u) {e:List Nd} (m:jW e=true) (g:xZ e=false):zR (kp (t.flat 0) (i+1 - u.size) i u.size e)=false:=by
 obtain ⟨tb,rfl⟩:=qbn m;rw [(qrw (tb:=tb) h).1];have z:=h.lt;rw [T.flat_len] at z;obtain ⟨y,a,post,_,_,n⟩:=qcJ t 0 (Nat.zero_le i) (by omega);simp only [Nat.zero_add] at n;rw [(n tb).1];generalize post.map (qF (z8 a.length y.size tb.size))=b;have j:=tb.size_pos;cases v:zR (a++(tb.flat a.length++b)) with
 |false=>rfl
 |true=>
  exfalso;have p:zR (a++(tb.flat a.length++b))=(xZ (a++(tb.flat a.length++b))&&qp 20 (xY (a++(tb.flat a.length++b)))):=qiP _ _ rfl;rw [v] at p;have c:=((Bool.and_eq_true _ _).mp p.symm).1;unfold xZ at c g;simp only [Bool.and_eq_true,decide_eq_true_eq,List.length_append,T.flat_len,List.all_append] at c;have B:(tb.flat 0).all (qv (tb.flat 0))=true:=by
   rw [List.all_eq_true];intro x s;have o:=yZ tb 0 a.length;rw [Nat.zero_add] at o;have:=List.all_eq_true.1 c.2.2.1 (qF (· +((a.length:Nat):Int)) x) (by rw [←o];exact List.mem_map_of_mem s)
   rwa [qvY (l:=tb.flat 0) fun k A=>qyi (by have:=qrI s k A;omega)] at this
  rw [T.flat_len,m,B] at g;simp at g;omega
theorem qww (S:Rd w lv xs) (E:vA (xs.map (·.nd))) (K:xs.length≤100000) (hB:Rd w bv bs) (n:vA (bs.map (·.nd))) (hbl:bs.length≤100000) (i:Int):Calls Tryz.prog 42 #[lv, .int .i64 i,bv] w fun e w'=>
  ∃v ys,e= .returned (.tuple #[v, .int .i64 (jH (xs.map (·.nd)) i (bs.map (·.nd)))])∧Rd w' v ys∧qb w w'∧ys.map (·.nd)=if jH (xs.map (·.nd)) i (bs.map (·.nd))=0 then vd (xs.map (·.nd)) i.toNat (bs.map (·.nd)) else []:=by
 have hl:=S.len;have his:=S.cells.is;generalize a:(fun (e:Ending) (w':World)=>∃v ys,e= .returned (.tuple #[v, .int .i64 (jH (xs.map (·.nd)) i (bs.map (·.nd)))])∧Rd w' v ys∧qb w w'∧ys.map (·.nd)=if jH (xs.map (·.nd)) i (bs.map (·.nd))=0 then vd (xs.map (·.nd)) i.toNat (bs.map (·.nd)) else [])=R;have l:∀W:World,Rd W (.slice none 0 0) []:=fun W=>⟨⟨rfl,rfl,fun j hj=>by simp [qZ] at hj⟩,fun x hx=>by cases hx⟩;refine qzk fun ρ r0 r1 r2=> ?_;simp -implicitDefEqProofs [qnu,r0,r1];refine (qwp S E (by omega) i).mono ?_;rintro _ w2 ⟨rfl,hE⟩;by_cases H:vk (xs.map (·.nd)) i=0
 ·have g:jH (xs.map (·.nd)) i (bs.map (·.nd))=if jW (bs.map (·.nd))=false then 21 else qel (zR (vd (xs.map (·.nd)) i.toNat (bs.map (·.nd)))):=by unfold jH;rw [if_neg (fun h=>h H)]
  obtain ⟨hc,hi0,O,hiz,t,u,I,h400,V,hu⟩:=qbW H;rw [List.length_map] at O V;have A:vd (xs.map (·.nd)) i.toNat (bs.map (·.nd))=kp (xs.map (·.nd)) (i.toNat+1 - u.size) i.toNat u.size (bs.map (·.nd)):=by unfold vd;rw [qck hu]
  simp -implicitDefEqProofs [H,qnr,r2];refine (qkH (hB.ext hE) n.q.1 n.q.2 (by omega)).mono ?_;rintro _ w3 ⟨rfl,X⟩;have b:=hE.trans' X;cases ho:xZ (bs.map (·.nd)) with
  |false=>
   have hg:jH (xs.map (·.nd)) i (bs.map (·.nd))=21:=by
    rw [g];split
    ·rfl
    ·rename_i hpf;have C:jW (bs.map (·.nd))=true:=by simpa using hpf
     rw [A,I,qCv (by rw [←I];exact hu) C ho];rfl
   rw [hg] at a;simp -implicitDefEqProofs;rw [←a];exact ⟨_,[],rfl,l _,b,rfl⟩
  |true=>
   obtain ⟨tb,s,hb400⟩:=qxv ho;have C:jW (bs.map (·.nd))=true:=by rw [s];exact qcV tb
   rw [if_neg (by rw [C];decide)] at g;have p:=qrw (tb:=tb) (by rw [←I];exact hu:jo (t.flat 0) i.toNat u);rw [←I,←s,←A] at p;have hw1:IntKind.i64.wrap ((xs.length:Int) - 1)=((t.size - 1:Nat):Int):=by have:=t.size_pos;rw [qr (by omega)];omega
   have B:jo (xs.map (·.nd)) (t.size - 1) t:=by rw [I];exact qEh t
   have hq:=qkF (S.ext b) K (hB.ext b) s (by omega) i.toNat (by omega) t.size t (t.size - 1) w3 (qA _) (Nat.le_refl _) B;have Z:t.size - 1+1 - t.size=0:=by have:=t.size_pos;omega
   rw [hiz,Z] at hq;simp -implicitDefEqProofs [qns,r0,r1,r2,his,hl,hw1];refine hq.mono ?_;rintro _ w4 ⟨v,rfl,hv,hE4⟩;have m:=b.trans' hE4;obtain ⟨ys,P,o⟩:=hv.rd (hB.ext m);have hyl:ys.length≤1000:=by
    have:=qfB i.toNat tb t 0;rw [←List.length_map (f:=fun x:NV=>x.nd),o,T.flat_len];omega
   have J:(∀y∈ys,DOk y.nd.d)∧∀y∈ys,y.nd.kids.length<4611686018427387904:=by
    refine ⟨fun y Y=> ?_,fun y Y=> ?_⟩
    ·have c:y.nd∈vd (xs.map (·.nd)) i.toNat (bs.map (·.nd)):=by rw [p.1,←o];exact List.mem_map_of_mem Y
     rw [A] at c;unfold kp at c;rcases List.mem_append.1 c with c|c
     ·obtain ⟨z,L,k⟩:=List.mem_map.1 c;have:=E.1 z (List.mem_of_mem_take L);rw [←k];exact this
     ·rcases List.mem_append.1 c with c|c
      ·obtain ⟨z,L,k⟩:=List.mem_map.1 c;have:=n.1 z L;rw [←k];exact this
      ·obtain ⟨z,L,k⟩:=List.mem_map.1 c;have:=E.1 z (List.mem_of_mem_drop L);rw [←k];exact this
    ·have c:y.nd∈(t.repl i.toNat tb 0).flat 0:=by rw [←o];exact List.mem_map_of_mem Y
     have:=qdj _ 0 _ c;have:=qfB i.toNat tb t 0;omega
   simp -implicitDefEqProofs;refine (qkI P J.1 J.2 (by omega)).mono ?_;rintro _ w5 ⟨rfl,F⟩;rw [o,←p.1];cases Q:zR (vd (xs.map (·.nd)) i.toNat (bs.map (·.nd))) with
   |false=>
    rw [Q] at g;rw [g] at a;simp -implicitDefEqProofs;rw [←a];exact ⟨_,[],rfl,l _,m.trans' F,rfl⟩
   |true=>
    rw [Q] at g;rw [g] at a;simp -implicitDefEqProofs [qnt];rw [←a];refine ⟨v,ys,rfl,P.ext F,m.trans' F, ?_⟩;rw [o,p.1];rfl
 ·have U:(vk (xs.map (·.nd)) i !=0)=true:=bne_iff_ne.2 H;have hg:jH (xs.map (·.nd)) i (bs.map (·.nd))=vk (xs.map (·.nd)) i:=by unfold jH;rw [if_pos H]
  rw [hg] at a;simp -implicitDefEqProofs [U];rw [←a];exact ⟨_,[],rfl,l _,hE,by rw [if_neg H];rfl⟩
end
@[simp] theorem qHm:qg Tryz.prog 20=true:=by kernel_rfl
section
variable {w:World} {av bv:Value} {xs ys:List NV}
theorem qlF {xs:List NV} {j:Nat} (h:j<xs.length):(xs.map (·.nd))[j]? =some xs[j].nd:=by simp [h]
theorem qfT (hA:Rd w av xs) (hB:Rd w bv ys) (hlen:xs.length<4611686018427387904) (hlb:ys.length<4611686018427387904) (hk:∀x∈xs,x.nd.kids.length<4611686018427387904) (hkb:∀x∈ys,x.nd.kids.length<4611686018427387904):
  Calls Tryz.prog 20 #[av,bv] w fun e w'=>e= .returned (.bool (decide (xs.map (·.nd)=ys.map (·.nd))))∧qb w w':=by
 have u:=hA.len;have l:=hB.len;have E:=hA.cells.is;have S:=hB.cells.is;generalize O:(fun (e:Ending) (w':World)=>e= .returned (.bool (decide (xs.map (·.nd)=ys.map (·.nd))))∧qb w w')=R;refine qAU fun ρ r0 r1=> ?_;by_cases s:xs.length=ys.length
 ·simp -implicitDefEqProofs [qg9,r0,r1,E,S,u,l,s,qpu];obtain ⟨I,hI⟩:∃I:Nat→qa→World→Prop,∀j b w',I j b w'↔(b 0=av∧b 1=bv∧qb w w'∧(xs.take j).map (·.nd)=(ys.take j).map (·.nd)):=⟨_,fun _ _ _=>Iff.rfl⟩;refine js 5 ys.length I (by simp) ((hI _ _ _).2 ⟨by simp [r0],by simp [r1],qA _,by simp⟩) ?_;clear r0 r1;rintro j b w' hj rj hIw;obtain ⟨r0,r1,hE,aa⟩:=(hI _ _ _).1 hIw;have hwj:IntKind.i64.wrap ((j:Int)+1)=(j:Int)+1:=qr (by omega);by_cases c:j<ys.length
  ·have k:(j:Int)<(ys.length:Int):=by omega
   have o:j<xs.length:=by omega
   have hA':=hA.ext hE;have hB':=hB.ext hE;have P:=hA'.row o;have ab:=fun (W:World) (hW:qb w' W)=>(hB'.ext hW).row c;have K:=hA.kids xs[j] (List.getElem_mem _);have V:=hB.kids ys[j] (List.getElem_mem _);have lA:=hk xs[j] (List.getElem_mem _);have lB:=hkb ys[j] (List.getElem_mem _);have htx:xs.take (j+1)=xs.take j++[xs[j]]:=List.take_succ_eq_append_getElem o;have hty:ys.take (j+1)=ys.take j++[ys[j]]:=List.take_succ_eq_append_getElem c;have Z:xs[j].nd≠ys[j].nd→¬xs.map (·.nd)=ys.map (·.nd):=fun h e=>h (by
    have g:=qlF o;rw [e,qlF c] at g;exact (Option.some.inj g).symm)
   generalize xs[j]=x at P K lA htx Z;generalize ys[j]=y at ab V lB hty Z;have A:=jR K.is;have hoa:=vI K.is;have C:=jR V.is;have hob:=vI V.is;have Q:qk x.kv=x.nd.kids.length:=by simpa using K.len.symm
   have L:qk y.kv=y.nd.kids.length:=by simpa using V.len.symm
   simp -implicitDefEqProofs [qg4,rj,r0,E,u,s,k,c,qpw,P];refine qT wk fun X w3 hX hE3 hb3 _=> ?_;simp -implicitDefEqProofs;refine jn (B:=X) (by simp) hb3 (by simp [Value.cells,qe,A]) (by simp [Value.cells,qe,A,hoa]) (by simpa [Value.cells,qe,A] using wv) fun w4 hO4 hb4=> ?_;have hE4:qb w' w4:=hO4.ext hE3 hX;have hb4':Blk w4 X (qe x).toArray 44:=by simpa [Value.cells,qe,A] using hb4
   have hrb4:=ab w4 hE4;simp -implicitDefEqProofs [rj,r1,S,l,k,c,hrb4];refine qT wk fun Y w5 hY hE5 hb5 _=> ?_;simp -implicitDefEqProofs;refine jn (B:=Y) (by simp) hb5 (by simp [Value.cells,qe,C]) (by simp [Value.cells,qe,C,hob]) (by simpa [Value.cells,qe,C] using wv) fun w6 hO6 hb6=> ?_;have hb6':Blk w6 Y (qe y).toArray 44:=by simpa [Value.cells,qe,C] using hb6
   have hE6:qb w4 w6:=hO6.ext hE5 hY;have a:qb w w6:=hE.trans' (hE4.trans' hE6);have hbX:=hb4'.ext hE6;have cX:∀q,w6.cell? ⟨X,q,none⟩=(qe x)[q]? :=fun q=>by rw [hbX.cell];simp
   have cY:∀q,w6.cell? ⟨Y,q,none⟩=(qe y)[q]? :=fun q=>by rw [hb6'.cell];simp
   have ww:∀(W:World),qb w W→x.nd≠y.nd→R (.returned (.bool false)) W:=fun W hW h=>by
    rw [←O];exact ⟨by rw [decide_eq_false (Z h)],hW⟩
   simp -implicitDefEqProofs [-qte, -qeI,wa2,we2,cX,cY,qe,K.is,V.is,Q,L,jp];rcases Classical.em (x.nd.d.kind=y.nd.d.kind) with g|g
   rotate_left
   ·simp -implicitDefEqProofs [g];exact ww _ a fun e=>g (by rw [e])
   rcases Classical.em (x.nd.d.name=y.nd.d.name) with t|t
   rotate_left
   ·simp -implicitDefEqProofs [g,t];exact ww _ a fun e=>t (by rw [e])
   rcases Classical.em (x.nd.d.vr=y.nd.d.vr) with z|z
   rotate_left
   ·simp -implicitDefEqProofs [g,t,z];exact ww _ a fun e=>z (by rw [e])
   rcases Classical.em (x.nd.d.typ=y.nd.d.typ) with H|H
   rotate_left
   ·simp -implicitDefEqProofs [g,t,z,H];exact ww _ a fun e=>H (by rw [e])
   rcases Classical.em (x.nd.d.n=y.nd.d.n) with U|U
   rotate_left
   ·simp -implicitDefEqProofs [g,t,z,H,U];exact ww _ a fun e=>U (by rw [e])
   rcases Classical.em (x.nd.kids.length=y.nd.kids.length) with h6|h6
   rotate_left
   ·simp -implicitDefEqProofs [g,t,z,H,U,h6];exact ww _ a fun e=>h6 (by rw [e])
   have h6':(x.nd.kids.length:Int)=(y.nd.kids.length:Int):=by omega
   simp -implicitDefEqProofs [g,t,z,H,U,h6,qpy];clear ab P;obtain ⟨J,hJ⟩:∃J:Nat→qa→World→Prop,∀q b w',J q b w'↔(b 0=av∧b 1=bv∧b 5= .int .i64 (j:Int)∧b 6= .pointer (some ⟨X,0,none⟩)∧b 7= .pointer (some ⟨Y,0,none⟩)∧qb w6 w'∧x.nd.kids.take q=y.nd.kids.take q):=⟨_,fun _ _ _=>Iff.rfl⟩;refine js 8 y.nd.kids.length J (by simp) ((hJ _ _ _).2 ⟨by simp [r0],by simp [r1],by simp [rj],by simp,by simp,qA _,by simp⟩) ?_;rintro q ρ2 w7 hq rq hJw;obtain ⟨s0,s1,s5,s6,s7,v,m⟩:=(hJ _ _ _).1 hJw;have hwq:IntKind.i64.wrap ((q:Int)+1)=(q:Int)+1:=qr (by omega);have i:=a.trans' v;have d5:w7.cell? ⟨X,5,none⟩=some x.kv:=v.cell (by rw [cX];rfl);have e5:w7.cell? ⟨Y,5,none⟩=some y.kv:=v.cell (by rw [cY];rfl);by_cases F:q<y.nd.kids.length
   ·have p:(q:Int)<(y.nd.kids.length:Int):=by omega
    have hqx:q<x.nd.kids.length:=by omega
    have ca:=(K.ext i).cell q (by simpa using hqx);have cb:=(V.ext i).cell q (by simpa using F);simp only [List.getElem_map,encI] at ca cb;simp -implicitDefEqProofs [qg5,rq,s6,d5,K.is,Q,h6,p,F,qpz,s7,e5,V.is,L,ca,cb];intro w8 hE8;by_cases he:x.nd.kids[q]=y.nd.kids[q]
    ·simp -implicitDefEqProofs [he,qg6,qpA,rq,hwq];refine (hJ _ _ _).2 ⟨by simp [s0],by simp [s1],by simp [s5],by simp [s6],by simp [s7],v.trans' hE8, ?_⟩;rw [List.take_succ_eq_append_getElem hqx,List.take_succ_eq_append_getElem F,m,he]
    ·simp -implicitDefEqProofs [he,qg6];exact ww _ (i.trans' hE8) fun e=>he (by simp [e])
   ·have p:¬(q:Int)<(y.nd.kids.length:Int):=by omega
    rw [List.take_of_length_le (by omega),List.take_of_length_le (by omega)] at m;simp -implicitDefEqProofs [qg5,rq,s6,d5,K.is,Q,h6,p,F,qpx,s5,hwj,c];refine (hI _ _ _).2 ⟨by simp [s0],by simp [s1],i, ?_⟩;rw [htx,hty,List.map_append,List.map_append,aa];have:x.nd=y.nd:=by
     have hd:x.nd.d=y.nd.d:=by
      cases hx:x.nd.d;cases hy:y.nd.d;simp only [hx,hy] at g t z H U;subst g t z H U;rfl
     cases hx:x.nd;cases hy:y.nd;rw [hx,hy] at hd m;simp only at hd m;rw [hd,m]
    simp [this]
  ·have k:¬(j:Int)<(ys.length:Int):=by omega
   rw [List.take_of_length_le (by omega),List.take_of_length_le (by omega)] at aa;simp -implicitDefEqProofs [qg4,rj,r0,E,u,s,k,c,qpv];rw [←O];exact ⟨by rw [decide_eq_true aa],hE⟩
 ·simp -implicitDefEqProofs [qg9,r0,r1,E,S,u,l,s];rw [←O];refine ⟨?_,qA _⟩;rw [decide_eq_false];intro e;exact s (by have:=congrArg List.length e;simpa using this)
end
end Go.L02
