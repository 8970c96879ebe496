/- Lemmas for a claim about layer 2 (tree). No conditions but those they state. -/
import Derived.Test.YtbcmiempigoooaaGreatDoorGas
import Derived.Laws.Runes
set_option linter.all false
namespace Go.L02
open Go Go.Eng Go.RowKit
open Go.Proofs hiding encI
open Go.L01 (Bd Bs Tok qK qi vp)
set_option maxRecDepth 100000
set_option maxHeartbeats 4000000
def Kp (b:Nat) (w w':World):Prop:=∀k cs T,T≠5→k≠b→Blk w k cs T→Blk w' k cs T
section
variable {P:Program} {Q:Ks} {d:Option Nat} {ty:TypeId} {K:qa→World→Prop} {ρ:qa} {w:World}
end
section
variable {w:World} {lv:Value} {xs:List NV}
end
theorem qrx {l:List Nd} {i:Nat} {u:T} (h:jo l i u):vd l i (u.flat 0)=l:=by
 unfold vd kp;rw [qck h,T.flat_len];have b:=h.cut;obtain ⟨a,post,c,o⟩:=h;have p:=u.size_pos;have j:i+1 - u.size=a.length:=by omega
 rw [j] at b⊢;have e:=yZ u 0 a.length;rw [Nat.zero_add] at e;rw [e,o];have m:l.take a.length=a:=by rw [c];simp
 have g:l.drop (a.length+u.size)=post:=by rw [c,←List.append_assoc,List.drop_append_of_le_length (by rw [List.length_append,T.flat_len];exact Nat.le_refl _),List.drop_eq_nil_of_le (by rw [List.length_append,T.flat_len];exact Nat.le_refl _)];rfl
 rw [m,g];have n:a.map (qF fun k=>k)=a:=by
  conv=>rhs;rw [←List.map_id a]
  exact List.map_congr_left fun x _=>qcv fun _ _=>rfl
 have b2:post.map (qF (z8 a.length u.size u.size))=post:=by
  conv=>rhs;rw [←List.map_id post]
  exact List.map_congr_left fun x _=>qcv fun k _=>by unfold z8;split<;>omega
 rw [n,b2,←c]
theorem qxN {l:List Nd} {i:Nat} {u:T} (h:jo l i u) (b:vA l):vA (u.flat 0):=by
 have g:∀x∈u.flat 0,∃z∈l,x.d=z.d∧x.kids.length=z.kids.length:=fun x a=>by
  rw [←qrG u (i+1 - u.size),←h.cut] at a;obtain ⟨z,c,rfl⟩:=List.mem_map.1 a;exact ⟨z,List.mem_of_mem_take (List.mem_of_mem_drop c),rfl,by simp [qF]⟩
 refine ⟨fun x a=> ?_,fun x a=> ?_⟩
 ·obtain ⟨z,c,e,_⟩:=g x a;rw [e];exact b.1 z c
 ·obtain ⟨z,c,_,e⟩:=g x a;rw [e];exact b.2 z c
section
variable {P:Program} {Q:Ks} {d:Option Nat} {ty:TypeId} {K:qa→World→Prop} {ρ:qa} {w:World}
end
theorem qxu {b B:Nat} {w W:World} {v:Value} {ks:List Int} {q:Nat} {z:Int} {cur:Array Value} (h:Own b 3 1 w v (ks.map encI)) (x:Only B w W) (u:w.heap[B]? =some (.cells cur 3 (0,0))) (t:W.heap[B]? =some (.cells (cur.setIfInBounds q (encI z)) 3 (0,0))):
  ∃i:List Int,i.length=ks.length∧Own b 3 1 W v (i.map encI):=by
 rcases h with ⟨rfl,A⟩|⟨g,off,n,cap,j,rfl,o,m,l,a,p,c,k⟩
 ·have:ks=[]:=by simpa using A
  exact ⟨[],by rw [this], .inl ⟨rfl,rfl⟩⟩
 ·by_cases e:g=B
  ·subst e;rw [u] at m;cases m;have s:ks.length=n:=by simpa using l
   by_cases y:q<off
   ·refine ⟨ks,rfl, .inr ⟨g,off,n,cap,_,rfl,o,t,l,a,p,by simpa using c, ?_⟩⟩;rw [Array.toList_setIfInBounds,List.drop_set_of_lt y];exact k
   ·refine ⟨ks.set (q - off) z,by simp, .inr ⟨g,off,n,cap,_,rfl,o,t,by simpa using s,a,p,by simpa using c, ?_⟩⟩;rw [Array.toList_setIfInBounds,show q=off+(q - off) by omega,←List.set_drop,List.take_set,k,List.map_set];congr 1;omega
  ·exact ⟨ks,rfl, .inr ⟨g,off,n,cap,j,rfl,o,(x.block g e).trans m,l,a,p,c,k⟩⟩
def qb3 (base:Nat) (W:World) (v:Value) (N:Nat) (kvs:List Value):Prop:=∃zs:List NV,OwnN base W v zs∧zs.length=N∧zs.map (·.kv)=kvs∧∀z∈zs,z.nd.kids.length≤1000000
theorem qb3.store {base B:Nat} {w W:World} {v:Value} {N q:Nat} {z:Int} {j:List Value} {cur:Array Value} (h:qb3 base w v N j) (E:Only B w W) (C:w.heap[B]? =some (.cells cur 3 (0,0))) (J:W.heap[B]? =some (.cells (cur.setIfInBounds q (encI z)) 3 (0,0))):qb3 base W v N j:=by
 obtain ⟨zs,A,R,p,O⟩:=h;have g:Own base 44 6 W v (qZ zs):=L01.Own.same A.own fun k p=>E.block k fun e=>by
  obtain ⟨c,i⟩:=Own.row A.own p;rw [e,C] at i;cases i
 have key:∀zs:List NV,(∀y∈zs,Own base 3 1 w y.kv (y.nd.kids.map encI))→(∀y∈zs,y.nd.kids.length≤1000000)→∃ys:List NV,qZ ys=qZ zs∧ys.length=zs.length∧ys.map (·.kv)=zs.map (·.kv)∧(∀y∈ys,Own base 3 1 W y.kv (y.nd.kids.map encI))∧∀y∈ys,y.nd.kids.length≤1000000:=by
  intro zs
  induction zs with
  |nil=>exact fun _ _=>⟨[],rfl,rfl,rfl,fun y a=>(by cases a),fun y a=>(by cases a)⟩
  |cons y zs L=>
   intro H I;obtain ⟨ys,o,F,u,s,m⟩:=L (fun y a=>H y (by simp [a])) fun y a=>I y (by simp [a]);obtain ⟨l,n,t⟩:=qxu (H y (by simp)) E C J;refine ⟨⟨⟨y.nd.d,l⟩,y.kv⟩::ys, ?_,by simp [F],by simp [u],fun x b=> ?_,fun x b=> ?_⟩
   ·show qe _++qZ ys=qe y++qZ zs;rw [o];rfl
   ·rcases List.mem_cons.1 b with rfl|b
    ·exact t
    ·exact s x b
   ·rcases List.mem_cons.1 b with rfl|b
    ·show l.length≤_;rw [n];exact I y (by simp)
    ·exact m x b
 obtain ⟨ys,o,F,u,s,m⟩:=key zs A.kid O;exact ⟨ys,⟨by rw [o];exact g,s⟩,by omega,by rw [u,p],m⟩
def QH:NV:=⟨⟨{kind:=0},[]⟩, .slice none 0 0⟩
theorem qb3.zero {base B:Nat} {w W:World} {v:Value} {N j:Nat} {zs:List NV} (i:OwnN base w v zs) (s:zs.length=N) (p:∀z∈zs,z.nd.kids.length≤1000000) (u:j<N) (n:v.ownBlock=some B) (m:Only B w W)
  (o:Own base 44 6 W v ((qZ zs).take (j*6)++qe QH++(qZ zs).drop (j*6+6))):∃h,qb3 base W v N h:=by
 refine ⟨(zs.set j QH).map (·.kv),zs.set j QH,⟨?_,fun y a=> ?_⟩,by simpa using s,rfl,fun y a=> ?_⟩
 ·have e:qZ (zs.set j QH)=(qZ zs).take (j*6)++qe QH++(qZ zs).drop (j*6+6):=by
   rw [qlp,show j*6+6=(j+1)*6 by omega,qlr,List.set_eq_take_append_cons_drop,if_pos (by omega),qc9];show _++(qe QH++qZ _)=_;simp
  rw [e];exact o
 ·rcases List.mem_or_eq_of_mem_set a with a|rfl
  ·refine L01.Own.same (i.kid y a) fun k g=>m.block k fun e=> ?_;obtain ⟨c,l⟩:=Own.row i.own n;obtain ⟨t,b⟩:=Own.row (i.kid y a) g;rw [e,l] at b;cases b
  ·exact Own.nil _ _ _ _
 ·rcases List.mem_or_eq_of_mem_set a with a|rfl
  ·exact p y a
  ·simp [QH]
theorem qry {l bs:List Nd} {i:Int} (e:vA l) (g:vA bs) (h:jH l i bs=0):vA (vd l i.toNat bs):=by
 refine ⟨fun x c=> ?_,fun x c=> ?_⟩
 ·unfold vd kp at c;rcases List.mem_append.1 c with a|a
  ·obtain ⟨z,b,rfl⟩:=List.mem_map.1 a;exact e.1 z (List.mem_of_mem_take b)
  ·rcases List.mem_append.1 a with a|a
   ·obtain ⟨z,b,rfl⟩:=List.mem_map.1 a;exact g.1 z b
   ·obtain ⟨z,b,rfl⟩:=List.mem_map.1 a;exact e.1 z (List.mem_of_mem_drop b)
 ·unfold vd kp at c;rcases List.mem_append.1 c with a|a
  ·obtain ⟨z,b,rfl⟩:=List.mem_map.1 a;simpa [qF] using e.2 z (List.mem_of_mem_take b)
  ·rcases List.mem_append.1 a with a|a
   ·obtain ⟨z,b,rfl⟩:=List.mem_map.1 a;simpa [qF] using g.2 z b
   ·obtain ⟨z,b,rfl⟩:=List.mem_map.1 a;simpa [qF] using e.2 z (List.mem_of_mem_drop b)
theorem qrz {l bs:List Nd} {i:Int} (h:jH l i bs=0):∃u tb:T,jo l i.toNat u∧bs=tb.flat 0∧zR (vd l i.toNat bs)=true∧jo (vd l i.toNat bs) (i.toNat+tb.size - u.size) tb∧u.size≤i.toNat+1∧(vd l i.toNat bs).length≤400:=by
 have o:vk l i=0:=by
  unfold jH at h;split at h
  ·rename_i b;exact absurd h b
  ·rename_i b;exact Decidable.of_not_not b
 obtain ⟨z,_,x,_,t,u,A,_,_,g⟩:=qbW o;unfold jH at h;rw [if_neg (fun b=>b o)] at h;split at h
 ·cases h
 ·rename_i s;obtain ⟨tb,rfl⟩:=qbn (by simpa using s);have c:zR (vd l i.toNat (tb.flat 0))=true:=by
   unfold qel at h;split at h
   ·assumption
   ·cases h
  refine ⟨u,tb,g,rfl,c, ?_,g.le, ?_⟩
  ·have m:vd l i.toNat (tb.flat 0)=kp l (i.toNat+1 - u.size) i.toNat u.size (tb.flat 0):=by unfold vd;rw [qck g]
   rw [m];unfold kp;have v:=g.le;have n:=yZ tb 0 (i.toNat+1 - u.size);rw [Nat.zero_add] at n;rw [n];have e:((l.take (i.toNat+1 - u.size)).map (qF fun k=>k)).length=i.toNat+1 - u.size:=by rw [List.length_map,List.length_take];omega
   have y:=u.size_pos;have p:=tb.size_pos;refine ⟨(l.take (i.toNat+1 - u.size)).map (qF fun k=>k),(l.drop (i.toNat+1)).map (qF (z8 (i.toNat+1 - u.size) u.size (tb.flat 0).length)),by rw [e],by rw [e];omega⟩
  ·obtain ⟨B,j,a⟩:=qio c;rw [j,T.flat_len];exact a
section
variable {w:World} {lv bv:Value} {xs bs:List NV}
theorem qyf (i:Int) (hi: -9223372036854775808≤i∧i≤9223372036854775807) (hG:L01.G w) (hM:zW w) (hR:Rd w lv xs) (J:xs.length<4611686018427387904) (hk8:∀x∈xs,x.nd.d.kind<256) (hkl:∀x∈xs,x.nd.kids.length<4611686018427387904)
  (hB:Rd w bv bs) (s:bs.length<4611686018427387904) (hk8B:∀x∈bs,x.nd.d.kind<256) (S:∀x∈bs,x.nd.kids.length<4611686018427387904):Calls Tryz.prog 10 #[lv, .int .i64 i,bv] w (okR w):=by
 generalize hRR:okR w=R;have rd:∀{W:World},qb w W→Calls Tryz.prog 14 #[] W fun e w'=>e= .returned (.bool true)∧qb W w':=fun {W} hE=>(qs9 (hG.ext hE) (hM.ext hE)).mono fun e w' h=>⟨h.1,h.2⟩;have fin:∀W,qb w W→R (.returned (.bool true)) W:=fun W hE=>by rw [←hRR];exact ⟨rfl,hE⟩
 refine qCd fun ρ r0 r1 r2=> ?_;simp -implicitDefEqProofs [qro,r0];refine (qla hR J hkl).mono ?_;rintro _ w1 ⟨rfl,I⟩;cases hf:kS (xs.map (·.nd)) with
 |false=>
  simp -implicitDefEqProofs;refine (rd I).mono ?_;rintro _ w2 ⟨rfl,p⟩;simp -implicitDefEqProofs;exact fin _ (I.trans' p)
 |true=>
 simp -implicitDefEqProofs [r2];refine (qla (hB.ext I) s S).mono ?_;rintro _ w2 ⟨rfl,p⟩;have b:=I.trans' p;cases hfb:kS (bs.map (·.nd)) with
 |false=>
  simp -implicitDefEqProofs;refine (rd b).mono ?_;rintro _ w2 ⟨rfl,p⟩;simp -implicitDefEqProofs;exact fin _ (b.trans' p)
 |true=>
 have a:vA (xs.map (·.nd)):=qrP hf fun x hx=>by obtain ⟨y,hy,rfl⟩:=List.mem_map.1 hx;exact hk8 y hy
 have k:vA (bs.map (·.nd)):=qrP hfb fun x hx=>by obtain ⟨y,hy,rfl⟩:=List.mem_map.1 hx;exact hk8B y hy
 have h410:=qhP hf;have V:=qhP hfb;rw [List.length_map] at h410 V;simp -implicitDefEqProofs [qra,r0,r1,r2];refine (qle (hG.ext b) (hM.ext b) (hR.ext b) a (hB.ext b) k (by omega) i).mono ?_;rintro _ w3 ⟨av,ys,rfl,hys,hE3,j⟩;have n:=b.trans' hE3;simp -implicitDefEqProofs [r0,r1,r2];refine (qww (hR.ext n) a (by omega) (hB.ext n) k (by omega) i).mono ?_;rintro _ w4 ⟨av2,ys2,rfl,hys2,X,L⟩;have hE04:=n.trans' X;have hA:=hys.rd.ext X;have hsz:∀{zs:List NV},zs.map (·.nd)=(if jH (xs.map (·.nd)) i (bs.map (·.nd))=0 then vd (xs.map (·.nd)) i.toNat (bs.map (·.nd)) else [])→zs.length≤400∧∀z∈zs,z.nd.kids.length<4611686018427387904:=fun {zs} F=>by
  by_cases B:jH (xs.map (·.nd)) i (bs.map (·.nd))=0
  ·rw [if_pos B] at F;obtain ⟨_,_,_,_,_,_,_,m⟩:=qrz B;rw [←F,List.length_map] at m;refine ⟨m,fun z hz2=> ?_⟩;have:=(qry a k B).2 z.nd (by rw [←F];exact List.mem_map_of_mem hz2);omega
  ·rw [if_neg B] at F;have:zs=[]:=List.map_eq_nil_iff.1 F;rw [this];exact ⟨by simp,by simp⟩
 obtain ⟨hl1,hk1⟩:=hsz j;obtain ⟨hl2,hk2⟩:=hsz L;simp -implicitDefEqProofs;refine (qfT hA hys2 (by omega) (by omega) hk1 hk2).mono ?_;rintro _ w5 ⟨rfl,hE5⟩;have l:=hE04.trans' hE5;rw [j,L];have hne:(jH (xs.map (·.nd)) i (bs.map (·.nd)) !=jH (xs.map (·.nd)) i (bs.map (·.nd)))=false:=by simp
 simp -implicitDefEqProofs [hne,qrb,r0,r1];refine (qlc (hG.ext l) (hM.ext l) (hR.ext l) a i).mono ?_;rintro _ w6 ⟨ov,os,rfl,Y,hE6,ho0,ho1⟩;have c:=l.trans' hE6;by_cases hb:vk (xs.map (·.nd)) i=0
 ·obtain ⟨hc,hi0,hil,hiz,t,u,ht,ht4,_,hu⟩:=qbW hb;have C:=ho1 hb u hu;have hol:os.length=u.size:=by rw [←List.length_map (f:=fun x:NV=>x.nd),C,T.flat_len]
  have hule:=hu.le;rw [List.length_map] at hil;have Z:vA (os.map (·.nd)):=by rw [C];exact qxN hu a
  have hgo:jH (xs.map (·.nd)) i (os.map (·.nd))=0:=by
   unfold jH;rw [if_neg (fun h=>h hb),C,qcV,if_neg (by decide),qrx hu,hc];rfl
  have hgoO:vd (xs.map (·.nd)) i.toNat (os.map (·.nd))=xs.map (·.nd):=by rw [C,qrx hu]
  simp -implicitDefEqProofs [hb,qrc,r0,r1];refine (qle (hG.ext c) (hM.ext c) (hR.ext c) a Y.rd Z (by omega) i).mono ?_;rintro _ w7 ⟨sv,ss,rfl,hss,E,H⟩;have O:=c.trans' E;rw [if_pos hgo,hgoO] at H;have hsl:ss.length=xs.length:=by rw [←List.length_map (f:=fun x:NV=>x.nd),H,List.length_map]
  simp -implicitDefEqProofs [hgo,r0];refine (qfT hss.rd (hR.ext O) (by omega) J (fun z F=>by have:=a.2 z.nd (by rw [←H];exact List.mem_map_of_mem F);omega) hkl).mono ?_;rintro _ w8 ⟨rfl,hE8⟩;have g:=O.trans' hE8;rw [H];by_cases B:jH (xs.map (·.nd)) i (bs.map (·.nd))=0
  ·obtain ⟨u2,tb,hu2,hbt,hck,hat,hle2,m⟩:=qrz B;obtain rfl:=jo.uniq _ (Nat.le_refl _) hu hu2;have hbl:bs.length=tb.size:=by rw [←List.length_map (f:=fun x:NV=>x.nd),hbt,T.flat_len]
   rw [if_pos B] at j;have hAok:vA (ys.map (·.nd)):=by rw [j];exact qry a k B
   have hts:=tb.size_pos;have hus:=u.size_pos;have hov:qk ov=u.size:=by rw [Y.rd.len,hol]
   have hbv:qk bv=tb.size:=by rw [hB.len,hbl]
   have hisO:=Y.rd.cells.is;have hisB:=hB.cells.is;have htl:tb.size≤410:=by omega
   have hul:u.size≤410:=by omega
   have hw1:IntKind.i64.wrap (i - (u.size:Int))=i - (u.size:Int):=qr (by omega);have o:=hat;rw [←j] at o;have hii:i - (u.size:Int)+(tb.size:Int)=((i.toNat+tb.size - u.size:Nat):Int):=by omega
   have hw2:IntKind.i64.wrap (i - (u.size:Int)+(tb.size:Int))=((i.toNat+tb.size - u.size:Nat):Int):=by rw [qr (by omega)];exact hii
   have hbo:vk (ys.map (·.nd)) ((i.toNat+tb.size - u.size:Nat):Int)=0:=by
    have:=o.lt;unfold vk;rw [j,hck,if_pos rfl,if_pos (by rw [←j];omega)]
   simp -implicitDefEqProofs [B,qhG,qrd,r1,r2,hov,hbv,hisO,hisB,hw1,hw2];refine (qlc (hG.ext g) (hM.ext g) (((hys.rd.ext X).ext hE5).ext ((hE6.trans' E).trans' hE8)) hAok _).mono ?_;rintro _ w9 ⟨cv,cs,rfl,hcs,U,hc0,hc1⟩;have A:=g.trans' U;have aa:=hc1 hbo tb (by rw [Int.toNat_natCast];exact o);have hcl:cs.length=tb.size:=by rw [←List.length_map (f:=fun x:NV=>x.nd),aa,T.flat_len]
   simp -implicitDefEqProofs;refine (rd A).mono ?_;rintro _ w10 ⟨rfl,v⟩;simp -implicitDefEqProofs [hbo,r2];refine (qfT (hcs.rd.ext v) (hB.ext (A.trans' v)) (by omega) s (fun z F=>by have:=qdj tb 0 z.nd (by rw [←aa];exact List.mem_map_of_mem F);omega) S).mono ?_;rintro _ w11 ⟨rfl,hE11⟩;simp -implicitDefEqProofs [aa,hbt];exact fin _ ((A.trans' v).trans' hE11)
  ·have hgb:(jH (xs.map (·.nd)) i (bs.map (·.nd)) !=0)=true:=bne_iff_ne.2 B;simp -implicitDefEqProofs [qhG,hgb];refine (rd g).mono ?_;rintro _ w9 ⟨rfl,U⟩;simp -implicitDefEqProofs;exact fin _ (g.trans' U)
 ·have hbb:(vk (xs.map (·.nd)) i !=0)=true:=bne_iff_ne.2 hb;simp -implicitDefEqProofs [hbb];refine (rd c).mono ?_;rintro _ w7 ⟨rfl,E⟩;simp -implicitDefEqProofs;exact fin _ (c.trans' E)
end
end Go.L02
