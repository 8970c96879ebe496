/- Lemmas for a claim about layer 2 (tree). No conditions but those they state. -/
import Derived.Test.YtbcmiempigoooaaGreatDoorVaq
set_option linter.all false
namespace Go.L02
open Go Go.Eng Go.RowKit
open Go.Proofs hiding encI
open Go.L01 (Bd Bs Own.same SlK Tok fV jM jQ jR jW jZ jp qC qH qW qY qcH qi vA vw)
set_option maxRecDepth 100000
set_option maxHeartbeats 2000000
def je (nm:Bs) (k:Int) (pr:Bool) (nd op:AB) (rep:Bs) (rv:AB):Array AB:=#[.string (qb nm),.int .u8 k,.bool pr,nd,op,.string (qb rep),rv]
def qfb {W:AA} {X:Nat} {nm rep:Bs} {k:Int} {pr:Bool} {nd op rv:AB} (h:Blk W X (je nm k pr nd op rep rv) 66):
  W.cell? ⟨X,3,none⟩=some nd/\W.cell? ⟨X,4,none⟩=some op/\W.cell? ⟨X,6,none⟩=some rv:=⟨by rw [h.cell];rfl,by rw [h.cell];rfl,by rw [h.cell];rfl⟩
theorem qwg (b:Bool):Tryz.prog.built 80 [(0,.bool b)]=some #[.bool b,.slice none 0 0,.string (qb []),.slice none 0 0]:=by kernel_rfl
theorem qwf (b:Bool):Tryz.prog.built 82 [(1,.agg #[.bool b,.slice none 0 0,.string (qb []),.slice none 0 0])]=some (qP (.string (qb [])) b (.slice none 0 0) [] (.slice none 0 0) [.slice none 0 0,.slice none 0 0]):=by kernel_rfl
theorem qJb (k:Int):Tryz.prog.built 63 [(1,.int .u8 k)]=some #[.string (qb []),.int .u8 k,.bool false,.slice none 0 0,.slice none 0 0]:=by kernel_rfl
theorem qI9 (k:Int):Tryz.prog.built 66 [(0,.agg #[.string (qb []),.int .u8 k,.bool false,.slice none 0 0,.slice none 0 0])]=some (je [] k false (.slice none 0 0) (.slice none 0 0) [] (.slice none 0 0)):=by kernel_rfl
theorem z66:jU Tryz.prog 66=some (je [] 0 false (.slice none 0 0) (.slice none 0 0) [] (.slice none 0 0)):=by kernel_rfl
theorem z82:jU Tryz.prog 82=some (qP (.string (qb [])) false (.slice none 0 0) [] (.slice none 0 0) [.slice none 0 0,.slice none 0 0]):=by kernel_rfl
theorem qmx:jh Tryz.prog 60 1=true:=by kernel_rfl
theorem qmw:jh Tryz.prog 61 1=true:=by kernel_rfl
theorem qmv:jh Tryz.prog 64 1=true:=by kernel_rfl
theorem sz5:jh Tryz.prog 5 1=true:=by kernel_rfl
theorem qmQ:xB Tryz.prog 61=some (135,5):=by kernel_rfl
theorem qmP:xB Tryz.prog 64=some (82,7):=by kernel_rfl
theorem qAb:xM Tryz.prog 61=some (135,5,88):=by kernel_rfl
theorem qAa:xM Tryz.prog 64=some (82,7,136):=by kernel_rfl
theorem qJL (s:Bs) (a b c d:AB):Tryz.prog.built 135 [(0,.string (qb s)),(1,.agg #[a,b,c,d])]=some #[.string (qb s),a,b,c,d]:=by kernel_rfl
section
variable {base B X:Nat} {w w1 w2:AA} {tv nv nv1 nv2:AB} {L:List Tok} {i f j g:Nat} {xs xs1 ys:List NV} {p:Nat->TypeId->Prop} {N N':AB->List Nd->Prop} {cs:List AB}
theorem kI.at' {m:Mod} (h:kI N w cs m) (b:qj p w w1) (q:∀k,p k 9) (o:∀k,p k 132) (c:∀k,p k 135) (t:∀k,p k 82) (y:∀v l,N v l->N' v l):kI N' w1 cs m:=by
 obtain ⟨a,s,rv,e,z,x,u⟩:=h;exact ⟨a,s,rv,e,z.at' b (fun k _=>o k) fun _ _ h=>h.at' b q,x.at' b (fun k _=>c k) fun _ _ h=>h.at' b q,u.at' b (fun k _=>t k) fun _ _ h=>h.at' b q y⟩
theorem Cm.same (h:Cm base B w tv nv L xs w1 nv1 i f xs1) (c:PSt base B w tv nv L j g xs):qj (fun k T=>T≠85/\T≠44) w w1:=fun k cs T z a b=>
 h.tn.block k (ul.1 a).1 (c.blkNe a b.1) (c.rowNe a b.2)
theorem Cm.var (h:Cm base B w tv nv L xs w1 nv1 i f xs1) (c:PSt base B w tv nv L j g xs) {Y:Nat} {cs:Array AB} {T:TypeId} (a:Blk w Y cs T) (e:T≠44) (b:T≠85):Blk w1 Y cs T:=a.at' (h.same c) ⟨b,e⟩
end
def qo8 {w:AA} {b:Nat} {v:AB} {l:List Need} (h:xH b 132 5 (vm w) w v l):xH 0 132 5 (vm w) w v l:=by
 obtain ⟨css,c,a⟩:=h;exact ⟨css,Own.down c (uf _),a⟩
def qza {W:AA} {X:Nat} {a b sv:AB} {it:Bool} {s:Bs} {rest:List AB} {T:TypeId} (h:Blk W X (qP a it b s sv rest) T):Eng.q4 W ⟨X,1,none⟩ 0 4=some [.bool it,b,.string (qb s),sv]:=by
 have:=wE (w:=W) (a:=⟨X,1,none⟩) (l:=[.bool it,b,.string (qb s),sv]) (i:=0) fun j e=>by
  obtain ⟨_,c1,c2,c3,c4⟩:=QO h;have c:j<4:=e
  match j,c with
  |0,_=>exact c1
  |1,_=>exact c2
  |2,_=>exact c3
  |3,_=>exact c4
 exact this
def qmZ {W:AA} {X:Nat} {a b sv x y:AB} {it:Bool} {s:Bs} {T:TypeId} (h:Blk W X (qP a it b s sv [x,y]) T):Eng.q4 W ⟨X,0,none⟩ 0 7=some [a,.bool it,b,.string (qb s),sv,x,y]:=by
 have:=xc h;simpa [qP] using this
def qpd {W:AA} {X:Nat} {nm rep:Bs} {k:Int} {pr:Bool} {nd op rv:AB} (h:Blk W X (je nm k pr nd op rep rv) 66):Eng.q4 W ⟨X,0,none⟩ 0 7=some [.string (qb nm),.int .u8 k,.bool pr,nd,op,.string (qb rep),rv]:=by
 have:=xc h;simpa [je] using this
def aM (base B:Nat) (w:AA) (tv nv:AB) (L:List Tok) (xs:List NV) (m:Mod) (j g:Nat) (v:AB) (w':AA):Prop:=∃cs nv2 ys,v=.agg cs.toArray/\Cm base B w tv nv L xs w' nv2 j g ys/\kI (xy (fun k=>w.heap.size<=k) w' nv2 ys) w' cs m
def qmV {L:List Tok} {n i f j g:Nat} {l:List Bs} (h:signals L n i f=.ok l j g):i<=j/\l.length<=j+1:=by
 have a:qt L [115,105,103,110,97,108,115] (bnd (needs L [[40]]) fun _=>bnd (listed L n (name L)) fun l=>bnd (needs L [[41]]) fun _=>ret l) (ret []) i f=.ok l j g:=h;unfold qt at a;split at a
 ·cases e:needs L [[40]] (i+1) f with
  |oof=>rw [vc e] at a;cases a
  |no g=>rw [jT e] at a;cases a
  |ok _ o g1=>
   rw [jS e] at a;have u:=(jP _ _ _ _ _ e).1;cases b:listed L n (name L) o g1 with
   |oof=>rw [vc b] at a;cases a
   |no g=>rw [jT b] at a;cases a
   |ok xs k q=>
    rw [jS b] at a;have t:=qff jm b;have x:=((ym jm n).ok b).1;cases c:needs L [[41]] k q with
    |oof=>rw [vc c] at a;cases a
    |no g=>rw [jT c] at a;cases a
    |ok _ v g3=>
     rw [jS c] at a;have s:=(jP _ _ _ _ _ c).1;simp only [ret,Rs.ok.injEq] at a;obtain ⟨rfl,rfl,rfl⟩:=a;omega
 ·simp only [ret,Rs.ok.injEq] at a;obtain ⟨rfl,rfl,rfl⟩:=a;simp
def qlG {L:List Tok} {n i f j g:Nat} {b:Bs×List Bs} (h:bnd (vN L n) (fun t=>bnd (signals L n) fun l=>ret (t,l)) i f=.ok b j g):b.2.length<=j+1:=by
 cases c:vN L n i f with
 |oof=>rw [vc c] at h;cases h
 |no g=>rw [jT c] at h;cases h
 |ok t e g1=>
  rw [jS c] at h;cases a:signals L n e g1 with
  |oof=>rw [vc a] at h;cases h
  |no g=>rw [jT a] at h;cases h
  |ok l k o=>
   rw [jS a] at h;simp only [ret,Rs.ok.injEq] at h;obtain ⟨rfl,rfl,rfl⟩:=h;exact (qmV a).2
def qwp {L:List Tok} {n i f j g:Nat} {it:Bool} {b:Bs×List Bs} (h:xG L n it i f=.ok b j g):b.2.length<=j+1:=by
 unfold xG at h;cases it with
 |true=>
  simp only [wh] at h;have a:bnd (needs L [[121,105,101,108,100,115]]) (fun _=>bnd (vN L n) fun t=>bnd (signals L n) fun l=>ret (t,l)) i f=.ok b j g:=h;cases e:needs L [[121,105,101,108,100,115]] i f with
  |oof=>rw [vc e] at a;cases a
  |no g=>rw [jT e] at a;cases a
  |ok _ o g1=>
   rw [jS e] at a;exact qlG a
 |false=>
  simp only [uk,ud] at h;unfold qt at h;split at h
  ·exact qlG h
  ·cases c:signals L n i f with
   |oof=>rw [vc c] at h;cases h
   |no g=>rw [jT c] at h;cases h
   |ok l k q=>
    rw [jS c] at h;simp only [ret,Rs.ok.injEq] at h;obtain ⟨rfl,rfl,rfl⟩:=h;exact (qmV c).2
def qvb {L:List Tok} {n i f j g:Nat} {it:Bool} {b:Sig×List Bs} (h:head L n it i f=.ok b j g):b.1.args.length<=j/\b.1.signals.length<=j+1/\b.2.length<=j:=by
 have a:bnd (vh L n (x7 L n)) (fun l=>bnd (xG L n it) fun b=>ret ((⟨it,l.map (·.2),b.1,b.2⟩:Sig),l.map (·.1))) i f=.ok b j g:=h;cases k:vh L n (x7 L n) i f with
 |oof=>rw [vc k] at a;cases a
 |no g=>rw [jT k] at a;cases a
 |ok l o g1=>
  rw [jS k] at a;have t:=qk0 (kg n) k;cases e:xG L n it o g1 with
  |oof=>rw [vc e] at a;cases a
  |no g=>rw [jT e] at a;cases a
  |ok c q u=>
   rw [jS e] at a;have s:=((qa6 n it).ok e).1;have v:=qwp e;simp only [ret,Rs.ok.injEq] at a;obtain ⟨rfl,rfl,rfl⟩:=a;simp;omega
def qnQ (L:List Tok) (n:Nat):M Mod:=bnd (wl L) fun it=>bnd (name L) fun nm=>bnd (params L) fun pr=>bnd (head L n it) fun h=>
 bnd (yk L n) fun ws=>bnd (wI L n) fun l=>ret ⟨⟨nm,if it then 2 else 1,pr,ws,[⟨nm,h.1⟩]⟩,[],[⟨nm,h.1,h.2,l⟩]⟩
theorem qBi {L:List Tok} (hL:jJ L) (hNum:wO L) (n:Nat) {base B R:Nat} {w w1:AA} {tv nv:AB} {i f:Nat} {xs:List NV} {r:Rs Mod} {ρ:qa} (hS:PSt base B w tv nv L i f xs) (hn:xs.length<=2*i+2) (hC:Cu base B w tv nv L xs w1 nv i f [])
  (hR:Blk w1 R (je [] 0 false (.slice none 0 0) (.slice none 0 0) [] (.slice none 0 0)) 66) (hRw:w.heap.size<=R) (r0:ρ 0=.pointer (some ⟨B,0,none⟩)) (r2:ρ 2=.pointer (some ⟨R,0,none⟩)) (hr:qnQ L n i f=r) (ab:r≠ .oof):
  qiP.wp ⟨Tryz.prog,52,qdP,[]⟩ (qz [.cellN 2 7] (vZ base B tv nv L w (aM base B w tv nv L xs) r)) (qM [.cellN 2 7] (vZ base B tv nv L w (aM base B w tv nv L xs) r)) ρ w1:=by
 have hM0:=Cm.start hS hn;generalize hV:aM base B w tv nv L xs=V;simp [qiP,r0];refine vz (A:=aB) (A':=aX) (fun _ _=>rfl) qih hC (by simpa using hn) hr ab (fun c w' hp=>by simpa using PR.toM hM0 hp) ?_;intro it j2 g2 v2 nv2 w2 hit hC2 hT2 hv2 hr2;change v2=_ at hv2;subst hv2;have hj2:=(QC.ok hit).1;have hR2:=hC.st.var hT2 hR (by decide) (by decide);simp;rw [qwg];dsimp only [qT];rw [qwf];dsimp only [qT];refine vR z82 (by simp) (by simp [Value.cells,qP]) (by simp [Value.cells,qP]) (by kernel_rfl) fun Y w3 hY ai hb3 _=>?_;simp [Value.cells] at hb3;simp;rw [qJb];dsimp only [qT];rw [qI9];dsimp only [qT];refine vR z66 (by simp) (by simp [Value.cells,je]) (by simp [Value.cells,je]) (by kernel_rfl) fun X w4 hX hE4 hb4 _=>?_;simp [Value.cells] at hb4;have hC4:=(hC2.ext ai).ext hE4;have hR4:=(hR2.ext ai).ext hE4;have hY4:=hb3.ext hE4;have hYw:w.heap.size<=Y:=Nat.le_trans hC2.size hY;have S:w.heap.size<=X:=by have:=hC4.size;have:=ai.size;omega
 have ac:Y≠X:=by have:=hb3.lt;omega
 have hRY:R≠Y:=by have:=hR2.lt;omega
 have ad:R≠X:=by have:=hR2.lt;have:=ai.size;omega
 have c1:=(QO hY4).2.1;have go:∀(Q:qa) (w5:AA),Q 0=.pointer (some ⟨B,0,none⟩)->Q 2=.pointer (some ⟨R,0,none⟩)->Q 3=.pointer (some ⟨Y,0,none⟩)->Q 4=.pointer (some ⟨X,0,none⟩)->Cu base B w tv nv L xs w5 nv2 j2 g2 []->Blk w5 R (je [] 0 false (.slice none 0 0) (.slice none 0 0) [] (.slice none 0 0)) 66->
   Blk w5 Y (qP (.string (qb [])) it (.slice none 0 0) [] (.slice none 0 0) [.slice none 0 0,.slice none 0 0]) 82->Blk w5 X (je [] (if it then 2 else 1) false (.slice none 0 0) (.slice none 0 0) [] (.slice none 0 0)) 66->
   qiQ.wp ⟨Tryz.prog,52,qdP,[]⟩ (qz [.cellN 2 7] (vZ base B tv nv L w V r)) (qM [.cellN 2 7] (vZ base B tv nv L w V r)) Q w5:=by
  clear hR hR2 hb3 hb4 hC4 hR4 hY4 c1 ai hE4 hX hY hT2 hC2;intro Q w5 r0 r2 r3 r4 hC5 hR5 hY5 hX5;simp [qiQ,r0];refine vz (A:=aS) (A':=aX) (fun _ _=>rfl) (F:=120) (fun _ _ _ _ _ _ _ _ h _ _=>x4 h) hC5 (by simp;omega) hr2 ab (fun c w' hp=>by simpa using PR.toM hM0 hp) ?_;intro nm j6 g6 v6 nv6 w6 hna hC6 hT6 hv6 hr6;change v6=_ at hv6;subst hv6;have hj6:=(kF _ _ _ _ _ hna).1;have hR6:=hC5.st.var hT6 hR5 (by decide) (by decide);have hY6:=hC5.st.var hT6 hY5 (by decide) (by decide);have hX6:=hC5.st.var hT6 hX5 (by decide) (by decide);simp [r3];refine qD (B:=Y) (i:=0) (by simp [r3]) hY6 (by simp [qP]) (by simp [Value.cells]) (by simp) kL fun w7 hO7 hb7=>?_;have hY7:Blk w7 Y (qP (.string (qb nm)) it (.slice none 0 0) [] (.slice none 0 0) [.slice none 0 0,.slice none 0 0]) 82:=by simpa [qP] using hb7
  have hC7:=hC6.putV hY6 (by decide) (by decide) (by decide) (by decide) hYw hO7;have hR7:=hO7.blk hR6 hRY;have hX7:=hO7.blk hX6 (ub ac);simp;refine js qDP (fun W=>Blk W Y (qP (.string (qb nm)) it (.slice none 0 0) [] (.slice none 0 0) [.slice none 0 0,.slice none 0 0]) 82) fun w8 hE8 _=>?_;have hC8:=hC7.ext hE8;have hY8:=hY7.ext hE8;have hR8:=hR7.ext hE8;have hX8:=hX7.ext hE8;refine ⟨hY8, ?_⟩;have cY:∀W,Blk W Y (qP (.string (qb nm)) it (.slice none 0 0) [] (.slice none 0 0) [.slice none 0 0,.slice none 0 0]) 82->W.cell? ⟨Y,0,none⟩=some (.string (qb nm)):=fun W h=>(QO h).1;simp+contextual -implicitDefEqProofs [qqo,cY,hY8,r0,r3,r4];refine vz (A:=aB) (A':=aX) (fun _ _=>rfl) qoq hC8 (by simp;omega) hr6 ab (fun c w' hp=>by simpa using PR.toM hM0 hp) ?_;intro pr j9 g9 v9 nv9 w9 hpa hC9 hT9 hv9 hr9;change v9=_ at hv9;subst hv9;have hj9:=(qa5.ok hpa).1;have hR9:=hC8.st.var hT9 hR8 (by decide) (by decide);have hY9:=hC8.st.var hT9 hY8 (by decide) (by decide);have hX9:=hC8.st.var hT9 hX8 (by decide) (by decide);refine ⟨hY9, ?_⟩;refine qD (B:=X) (i:=0) (by simp) hX9 (by simp [je]) (by simp [Value.cells]) (by simp) kL fun w10 hO10 hb10=>?_;have hX10:Blk w10 X (je nm (if it then 2 else 1) false (.slice none 0 0) (.slice none 0 0) [] (.slice none 0 0)) 66:=by simpa [je] using hb10
  simp -implicitDefEqProofs [r4];refine qD (B:=X) (i:=2) (by simp) hX10 (by simp [je]) (by simp [Value.cells]) (by simp) sz4 fun w11 hO11 hb11=>?_;have hX11:Blk w11 X (je nm (if it then 2 else 1) pr (.slice none 0 0) (.slice none 0 0) [] (.slice none 0 0)) 66:=by simpa [je] using hb11
  have hC11:=(hC9.putV hX9 (by decide) (by decide) (by decide) (by decide) S hO10).putV hX10 (by decide) (by decide) (by decide) (by decide) S hO11;have hR11:=hO11.blk (hO10.blk hR9 ad) ad;have hY11:=hO11.blk (hO10.blk hY9 ac) ac;simp [qqq,r0,r3];refine qbY (A':=aX) (fun O=>qoy hL n hC11 hY11 hYw (by omega) O) hr9 ab (fun c w' hp=>by simpa using PR.toM hM0 hp) ?_;rintro ⟨sg,ps⟩ j12 g12 v12 w12 hh12 ⟨rfl,hsi,nv12,av,sv,pv,l,hY12,hav,hsv,hpv,h66⟩ hr12;have hj12:=((qak n it).ok hh12).1;have hlen12:sg.args.length<=j12/\sg.signals.length<=j12+1/\ps.length<=j12:=qvb hh12;have htl12:=l.st.tl;have hil12:=l.st.il;have hX12:=hX11.at' h66 rfl;have hR12:=hR11.at' h66 rfl;subst hsi;simp [r0];refine vz (A:=Qv) (A':=aX) (fun _ _=>rfl) (qol hL n) l (by simp;omega) hr12 ab (fun c w' hp=>by simpa using PR.toM hM0 hp) ?_;intro ws j13 g13 aa nv13 w13 hws hC13 q al hr13;change xH _ _ _ _ _ _ _ at al;have hj13:=((QB n).ok hws).1;have hR13:=l.st.var q hR12 (by decide) (by decide);have hY13:=l.st.var q hY12 (by decide) (by decide);have am:=l.st.var q hX12 (by decide) (by decide);have hav13:=l.keep q hav (by decide) (by decide);have hsv13:=l.keep q hsv (by decide) (by decide);have hpv13:=l.keep q hpv (by decide) (by decide);have o:qA aa=true:=by obtain ⟨css,O,_⟩:=al;exact O.isl
  simp [r4];refine qD (B:=X) (i:=3) (by simp [r4]) am (by simp [je]) (by simpa using qn o) (by simpa using jf o) qmx fun w14 K hb14=>?_;have hX14:Blk w14 X (je nm (if sg.iter then 2 else 1) pr aa (.slice none 0 0) [] (.slice none 0 0)) 66:=by simpa [je] using hb14
  have hC14:=hC13.putV am (by decide) (by decide) (by decide) (by decide) S K;have hR14:=K.blk hR13 ad;have hY14:=K.blk hY13 ac;have u:=qj.only K am;have hav14:=hav13.at' u fun k _=> .inr (by decide);have hsv14:=hsv13.at' u fun k _=> .inr (by decide);have hpv14:=hpv13.at' u fun k _=> .inr (by decide);have hv14:xH 0 132 5 (vm w14) w14 aa ws:=(qo8 (al.at' (C':=vm w13) (qj.ext (p:=fun _ _=>True) (jd _)) (fun _ _=>trivial) fun _ _ h=>h)).at' u (fun k _=> .inr (by decide)) fun _ _ h=>h.at' u fun k=> .inr (by decide);simp [r0,r3];refine qmJ (fun O=>qoF hL hNum n hS hn hC14 hY14 hYw (by omega) O) hr13 ab (fun c w' hp=>by simpa using hp) ?_;rintro nds j15 g15 v15 w15 hnd15 ⟨rfl,E,ys,hM15,hY15,hl15,sm15,hfr15⟩ hr15;have smq:∀{T:TypeId} {k:Nat} {cur:Array AB} {z:Nat×Nat},w14.heap[k]? =some (.cells cur T z)->T≠85->T≠44->T≠82->QN Y k T:=fun h1 h2 h3 h4=>⟨h2,h3,fun e=>by
   subst e;rw [hY14.heap] at h1;cases h1;exact h4 rfl⟩
  have a:qj (fun _ T=>T≠85/\T≠44/\T≠82) w14 w15:=fun k cs T z h1 h2=>sm15 k cs T z h1 (smq h1 h2.1 h2.2.1 h2.2.2);have hR15:=hR14.at' a ⟨by decide,by decide,by decide⟩;have hX15:=hX14.at' a ⟨by decide,by decide,by decide⟩;have I:=hav14.at' a fun k _=>⟨by decide,by decide,by decide⟩;have H:=hsv14.at' a fun k _=>⟨by decide,by decide,by decide⟩;have an:=hpv14.at' a fun k _=>⟨by decide,by decide,by decide⟩;have hv15:=hv14.at' (C':=vm w15) a (fun k _=>⟨by decide,by decide,by decide⟩) fun _ _ h=>h.at' a fun k=>⟨by decide,by decide,by decide⟩;refine js qDQ (fun W=>Blk W Y (qP (.string (qb nm)) sg.iter av sg.result sv [pv,E]) 82) fun w16 t _=>?_;have hM16:=hM15.ext t;have ag:=hY15.ext t;refine ⟨ag, ?_⟩;have cY:∀W,Blk W Y (qP (.string (qb nm)) sg.iter av sg.result sv [pv,E]) 82->W.cell? ⟨Y,0,none⟩=some (.string (qb nm))/\Eng.q4 W ⟨Y,1,none⟩ 0 4=some [.bool sg.iter,av,.string (qb sg.result),sv]:=fun W h=>⟨(QO h).1,qza h⟩;simp+contextual -implicitDefEqProofs [qqp,cY,ag,r3,r4];refine (qoB (cs:=[.bool sg.iter,av,.string (qb sg.result),sv]) (s:=sg) ⟨av,sv,rfl,Own.down (I.ext t) (uf _),Own.down (H.ext t) (uf _)⟩ (by omega) (by omega)).mono ?_;rintro _ w17 ⟨cs',rfl,⟨av',sv',rfl,hav',hsv'⟩,hE17⟩;have hY17:=ag.ext hE17;have hE1:=t.trans' hE17;have hac:=qn hav'.isl;have hsc:=qn hsv'.isl;simp -implicitDefEqProofs [hY17];rw [qJL];dsimp only [qT];refine jC qmQ (by decide) (by decide) (by simp [Value.cells,hac,hsc]) fun Z w18 hZ ak hb18 _=>?_;simp [Value.cells,hac,hsc] at hb18;have hE2:=hE1.trans' ak;have ae:=hX15.ext hE2;simp -implicitDefEqProofs [r4];refine qD (B:=X) (i:=4) (by simp) ae (by simp [je]) (by simp [Value.cells]) (by simp) qmw fun w19 J hb19=>?_;have hX19:Blk w19 X (je nm (if sg.iter then 2 else 1) pr aa (.slice (some ⟨Z,0,none⟩) 1 1) [] (.slice none 0 0)) 66:=by simpa [je] using hb19
  have sm19:=qj.only J ae;have hM19:=(hM15.ext hE2).putV ae (by decide) (by decide) (by decide) (by decide) S J;have hY19:=J.blk (hY15.ext hE2) ac;have hR19:=J.blk (hR15.ext hE2) ad;have row19:=qmZ hY19;have hni:=hM19.st.own.isl;have hpi:=an.isl;have hai:=I.isl;have hsi:=H.isl;simp -implicitDefEqProofs [qqr,r3,row19];refine jC qmP (by decide) (by decide) (by simp [Value.cells,qn hni,qn hpi,qn hai,qn hsi]) fun U w20 hU C hb20 _=>?_;simp [Value.cells,qn hni,qn hpi,qn hai,qn hsi] at hb20;have hX20:=hX19.ext C;simp -implicitDefEqProofs [r4];refine qD (B:=X) (i:=6) (by simp) hX20 (by simp [je]) (by simp [Value.cells]) (by simp) qmv fun w21 ap hb21=>?_;have hX21:Blk w21 X (je nm (if sg.iter then 2 else 1) pr aa (.slice (some ⟨Z,0,none⟩) 1 1) [] (.slice (some ⟨U,0,none⟩) 1 1)) 66:=by simpa [je] using hb21
  have af:=qj.only ap hX20;have hM21:=(hM19.ext C).putV hX20 (by decide) (by decide) (by decide) (by decide) S ap;have aj:=ap.blk (hR19.ext C) ad;have row21:=qpd hX21;simp -implicitDefEqProofs [r4,row21];refine jg (B:=R) (by simp [r2]) aj (by simp [Value.cells,je,qn o]) ?_ (by kernel_rfl) fun w22 hO22 hb22=>?_
  ·simp [Value.cells,qn o,jf o,QY o]
  simp [Value.cells,qn o] at hb22;have ao:=qj.only hO22 aj;have hM22:=hM21.putV aj (by decide) (by decide) (by decide) (by decide) hRw hO22;simp -implicitDefEqProofs;refine qY (by simp [r2]) hb22 (by simp) ?_;rw [<-hr15,<-hV];have kp:∀{b e sz:Nat} {v:AB} {us:List AB},Own b e sz w15 v us->e≠66->Own b e sz w22 v us:=fun O he=>((((O.ext hE2).at' sm19 fun k _=> .inr he).ext C).at' af fun k _=> .inr he).at' ao fun k _=> .inr he;have ah:∀{b e sz:Nat} {v:AB} {us:List AB},Own b e sz w18 v us->e≠66->Own b e sz w22 v us:=fun O he=>(((O.at' sm19 fun k _=> .inr he).ext C).at' af fun k _=> .inr he).at' ao fun k _=> .inr he;have kp20:∀{b e sz:Nat} {v:AB} {us:List AB},Own b e sz w20 v us->e≠66->Own b e sz w22 v us:=fun O he=>(O.at' af fun k _=> .inr he).at' ao fun k _=> .inr he;refine ⟨_,rfl,_,E,ys,rfl,hM22,aa,.slice (some ⟨Z,0,none⟩) 1 1,.slice (some ⟨U,0,none⟩) 1 1, ?_, ?_, ?_, ?_⟩
  ·cases sg.iter<;>rfl
  ·obtain ⟨css,O,ha⟩:=hv15;exact ⟨css,kp O (by decide),ha.imp fun _ _ ⟨c,e,x,y,e2,h1,h2⟩=>⟨c,e,x,y,e2,kp h1 (by decide),kp h2 (by decide)⟩⟩
  ·refine ⟨[[.string (qb nm),.bool sg.iter,av',.string (qb sg.result),sv']], ?_,⟨_,rfl,av',sv',rfl,ah (hav'.ext ak) (by decide),ah (hsv'.ext ak) (by decide)⟩,trivial⟩;exact ah (Own.lit (n:=1) (sz:=5) (by simpa using hb18) rfl (uf _) (by decide)) (by decide)
  ·refine ⟨[[.string (qb nm),.bool sg.iter,av,.string (qb sg.result),sv,pv,E]], ?_,⟨[.bool sg.iter,av,.string (qb sg.result),sv],pv,E,rfl,⟨av,sv,rfl,Own.down (kp I (by decide)) (uf _),Own.down (kp H (by decide)) (uf _)⟩,Own.down (kp an (by decide)) (uf _),.inl ⟨rfl,hl15,hfr15⟩⟩,trivial⟩;exact kp20 (Own.lit (n:=1) (sz:=7) (by simpa using hb20) rfl (uf _) (by decide)) (by decide)
 cases it with
 |true=>
  simp [c1];refine qD (B:=X) (i:=1) (by simp) hb4 (by simp [je]) (by simp [Value.cells]) (by simp) sz5 fun w5 hO5 hb5=>?_;have hX5:Blk w5 X (je [] 2 false (.slice none 0 0) (.slice none 0 0) [] (.slice none 0 0)) 66:=by simpa [je] using hb5
  exact go _ w5 (by simp [r0]) (by simp [r2]) (by simp) (by simp) (hC4.putV hb4 (by decide) (by decide) (by decide) (by decide) S hO5) (hO5.blk hR4 ad) (hO5.blk hY4 ac) hX5
 |false=>
  simp [c1];exact go _ w4 (by simp [r0]) (by simp [r2]) (by simp) (by simp) hC4 hR4 hY4 hb4
def qmF {B o:Nat} {K:AA->Prop}:∀(vs:List AB) (i:Nat) (w:AA),kM ⟨B,0,none⟩ vs (o+i) K w->kM ⟨B,o,none⟩ vs i K w
 |[],_,_,h=>h
 |v::vs,i,w,h=>by
  obtain ⟨b,a,e,c⟩:=h;rw [zD,ur] at b a c;refine ⟨by rw [zD];exact b,by rw [zD];exact a,e, ?_⟩;rw [zD];exact qmF vs (i+1) _ (by rw [<-uB];exact c)
def qIb {P:Program} {Q:Ks} {d:Option Nat} {ty:TypeId} {K:qa->AA->Prop} {ρ:qa} {w:AA} {t:TypeId} {p x:Operand} {B o:Nat} {pre old post:List AB} {T:TypeId} (l:qd ρ p=.pointer (some ⟨B,o,none⟩)) (k:Blk w B (pre++(old++post)).toArray T) (q:pre.length=o) (a:(qd ρ x).cells.size=old.length) (y:∀v∈(qd ρ x).cells.toList,v.oneCell=true)
  (u:jh P t old.length=true) (h:∀W,Only B w W->Blk W B (pre++((qd ρ x).cells.toList++post)).toArray T->K (qp ρ d undef) W):qB P Q d (.store t p x) ty K ρ w:=by
 show jh P t (qd ρ x).cells.size=true/\y7 (qd ρ p) _;rw [l,a];refine ⟨u, ?_⟩;show kM ⟨B,o,none⟩ _ 0 _ w;refine qmF _ _ _ ?_;refine qbW _ _ w _ k (by simp [a];omega) y fun W' s b=>?_;refine h W' s ?_;subst q;have e:((pre++(old++post)).toArray.toList.take (pre.length+0)++(qd ρ x).cells.toList++(pre++(old++post)).toArray.toList.drop (pre.length+0+(qd ρ x).cells.toList.length))=pre++((qd ρ x).cells.toList++post):=by
  have c:(qd ρ x).cells.toList.length=old.length:=by rw [Array.length_toList];exact a
  rw [c];simp only [un,Nat.add_zero];congr 1
  ·simp
  ·congr 1;rw [List.drop_append,Jr (by omega),Vf,List.nil_append,Js]
 rw [e] at b;exact b
section
variable {base B X:Nat} {w w1 w2:AA} {tv nv nv1:AB} {L:List Tok} {i f:Nat} {xs xs1:List NV}
theorem Cm.grownV (h:Cm base B w tv nv L xs w1 nv1 i f xs1) {c:AB} {e sz b:Nat} {cs:List AB} (s:Own b e sz w1 c cs) (a:w1.grownBy w2 c.ownBlock) (y:e≠44) (E:e≠85) (z:e≠53) (x:e≠3) (u:∀k,c.ownBlock=some k->w.heap.size<=k):Cm base B w tv nv L xs w2 nv1 i f xs1:=by
 have o:=h.tn;have F:=o.below.size;refine ⟨h.st.grown s a (h.st.sep s x) y E z,h.ln,⟨⟨a.os.trans o.below.os,a.tape.trans o.below.tape,a.output.trans o.below.output,Nat.le_trans F a.size,fun k t=>?_⟩,fun k t I H=>?_,o.row⟩,fun q v l C=>(h.nd q v l C).at' (qj.grown s a) (fun k=> .inr (ub x)) fun k _=> .inr (ub y),h.b0,h.fr⟩
 ·have J:=h.b0;exact (a.block k (by omega) fun e=>by have:=u k e.symm;omega).trans (o.below.block k t)
 ·exact (a.block k (by omega) fun e=>by have:=u k e.symm;omega).trans (o.block k t I H)
end
theorem qyy:jh Tryz.prog 80 4=true:=by kernel_rfl
theorem qJa (s:Bs) (b:Bool):Tryz.prog.built 63 [(0,.string (qb s)),(1,.int .u8 3),(2,.bool b)]=some #[.string (qb s),.int .u8 3,.bool b,.slice none 0 0,.slice none 0 0]:=by kernel_rfl
theorem qI8 (s:Bs) (b:Bool):Tryz.prog.built 66 [(0,.agg #[.string (qb s),.int .u8 3,.bool b,.slice none 0 0,.slice none 0 0])]=some (je s 3 b (.slice none 0 0) (.slice none 0 0) [] (.slice none 0 0)):=by kernel_rfl
theorem qw7:jU Tryz.prog 135=some #[.string (qb []),.bool false,.slice none 0 0,.string (qb []),.slice none 0 0]:=by kernel_rfl
theorem qJK (s:Bs):Tryz.prog.built 135 [(0,.string (qb s))]=some #[.string (qb s),.bool false,.slice none 0 0,.string (qb []),.slice none 0 0]:=by kernel_rfl
def qbC (L:List Tok) (nm:Bs) (pr:Bool) (names:List Bs) (ws:List Need) (rep:Bs) (rs:List Rout):M Mod:=sq (needs L [[101,110,100]]) (ret ⟨⟨nm,3,pr,ws,ko names rs⟩,rep,rs⟩)
def vZ.toM {s:Type} {L:List Tok} {r:Rs s} {base B:Nat} {w q w1:AA} {tv nv b:AB} {y t:Nat} {xs l:List NV} {V V':s->Nat->Nat->AB->AA->Prop} {c:List PanicEntry} (z:Cm base B w tv nv L xs q b y t l) (h:vZ base B tv b L q V' r (.panicked c) w1):vZ base B tv nv L w V r (.panicked c) w1:=by
 cases r with
 |oof=>exact h
 |ok a j g=>obtain ⟨v,o,_⟩:=h;cases o
 |no g=>
  obtain ⟨o,j,e,k,x,u⟩:=h;exact ⟨o,j,e,k,x,z.tn.trans u⟩
def qz6 {L:List Tok} {c:Type} {n n2 i f:Nat} {k:List Rout->M c}:bnd (routs L n (n2+1)) k i f=bnd (wl L) (fun it=>bnd (name L) fun nm=>bnd (head L n it) fun h=>bnd (wI L n) fun l=>fun i f=>if qo L i [[112,114,111,99],[105,116,101,114]] then bnd (routs L n n2) (fun a=>k (⟨nm,h.1,h.2,l⟩::a)) i f else k [⟨nm,h.1,h.2,l⟩] i f) i f:=by
 have e:∀r0:Rout,bnd (fun i f=>if qo L i [[112,114,111,99],[105,116,101,114]] then (bnd (routs L n n2) fun rs=>ret (r0::rs)) i f else .ok [r0] i f) k=fun i f=>if qo L i [[112,114,111,99],[105,116,101,114]] then bnd (routs L n n2) (fun a=>k (r0::a)) i f else k [r0] i f:=by
  intro r0;funext i f;by_cases b:qo L i [[112,114,111,99],[105,116,101,114]]=true
  ·have o:bnd (fun i f=>if qo L i [[112,114,111,99],[105,116,101,114]] then (bnd (routs L n n2) fun rs=>ret (r0::rs)) i f else .ok [r0] i f) k i f=bnd (bnd (routs L n n2) fun rs=>ret (r0::rs)) k i f:=by
    simp only [bnd,b,wh]
   rw [o,j0 b,kU];simp only [yh]
  ·simp only [bnd,b,uk,ud,Rs.andThen]
 show bnd (bnd (y4 L n) fun r=>fun i f=>if qo L i [[112,114,111,99],[105,116,101,114]] then (bnd (routs L n n2) fun rs=>ret (r::rs)) i f else .ok [r] i f) k i f=_;rw [kU];simp only [e];show bnd (bnd (wl L) fun it=>bnd (name L) fun nm=>bnd (head L n it) fun h=>bnd (wI L n) fun l=>ret (⟨nm,h.1,h.2,l⟩:Rout)) _ i f=_;simp only [kU,yh]
structure ClS (L:List Tok) (base B R X:Nat) (w:AA) (tv nv v7 v8:AB) (xs:List NV) (nm rep:Bs) (pr:Bool) (names:List Bs) (ws:List Need) (i f:Nat) (nv' rv:AB) (ys:List NV) (css:List (List AB)) (rs:List Rout) (w':AA):Prop where
 m:Cm base B w tv nv L xs w' nv' i f ys
 bR:Blk w' R (je [] 0 false (.slice none 0 0) (.slice none 0 0) [] (.slice none 0 0)) 66
 bX:Blk w' X (je nm 3 pr v8 (.slice none 0 0) rep rv) 66
 own:Own w.heap.size 82 7 w' rv css.flatten
 all:jl (qbH (xy (fun k=>w.heap.size<=k) w' nv' ys) w') css rs
 bd:∀q∈rs,q.sig.args.length<=20001/\q.sig.signals.length<=20001
 nms:Own 0 9 1 w' v7 (names.map qi)
 nds:xH 0 132 5 (vm w') w' v8 ws
 len:rs.length<=i
 Xw:w.heap.size<=X
 Rw:w.heap.size<=R
 RX:R≠X
 nl:names.length<=20001
structure ClR (ρ:qa) (B R X:Nat) (v7:AB):Prop where
 r0:ρ 0=.pointer (some ⟨B,0,none⟩)
 r2:ρ 2=.pointer (some ⟨R,0,none⟩)
 r3:ρ 3=.pointer (some ⟨X,0,none⟩)
 r4:ρ 4=v7
def qkR (L:List Tok) (n:Nat) (nm:Bs) (pr:Bool) (names:List Bs) (ws:List Need) (rep:Bs) (rs:List Rout) (r:Rs Mod) (n':Nat) (la:Bool) (i f:Nat):Prop:=
 (la=true/\rs=[]/\bnd (routs L n n') (fun us=>qbC L nm pr names ws rep us) i f=r)\/(la=false/\(fun i f=>if qo L i [[112,114,111,99],[105,116,101,114]] then bnd (routs L n n') (fun us=>qbC L nm pr names ws rep (rs++us)) i f else qbC L nm pr names ws rep rs i f) i f=r)
section
variable {L:List Tok} {base B R X n:Nat} {w:AA} {tv nv v7 v8:AB} {xs:List NV} {nm rep:Bs} {pr:Bool} {names:List Bs} {ws:List Need} {r:Rs Mod}
theorem ClS.ext {i f:Nat} {b rv:AB} {ys:List NV} {css:List (List AB)} {rs:List Rout} {w1 w2:AA} (h:ClS L base B R X w tv nv v7 v8 xs nm rep pr names ws i f b rv ys css rs w1) (a:qc w1 w2):ClS L base B R X w tv nv v7 v8 xs nm rep pr names ws i f b rv ys css rs w2:=
 have c:qj (fun _ _=>True) w1 w2:=qj.ext a
 ⟨h.m.ext a,h.bR.ext a,h.bX.ext a,h.own.ext a,h.all.imp fun _ _ h=>h.at' c (fun _=>trivial) fun v l e=>e.at' c (fun _=>trivial) fun _ _=>trivial,h.bd,h.nms.ext a,h.nds.at' c (fun _ _=>trivial) fun _ _ h=>h.at' c fun _=>trivial,h.len,h.Xw,h.Rw,h.RX,h.nl⟩
theorem qCl {names:List Bs} {rs:List Rout} {k:Nat} (h:k<names.length):(ko names rs).take (k+1)=(ko names rs).take k++[⟨names[k],match rs[k]? with|some q=>q.sig|none=>{}⟩]:=by
 have a:k<(ko names rs).length:=by simpa [ko] using h
 rw [JQ,uj a];simp [ko];rfl
theorem qHV {css:List (List AB)} {k:Nat} (h:k<css.length):css.flatten=(css.take k).flatten++(css[k]++(css.drop (k+1)).flatten):=by
 have e:css.flatten=(css.take k++(css[k]::css.drop (k+1))).flatten:=by rw [<-uM h,u5]
 rw [e];simp only [Ju,List.flatten_cons]
structure ClN (L:List Tok) (base B R X:Nat) (w:AA) (tv nv v7 v8:AB) (xs:List NV) (nm rep:Bs) (pr:Bool) (names:List Bs) (ws:List Need) (i f:Nat) (nv' rv:AB) (ys:List NV) (css:List (List AB)) (rs:List Rout) (k:Nat) (w':AA):Prop where
 m:Cm base B w tv nv L xs w' nv' i f ys
 bR:Blk w' R (je [] 0 false (.slice none 0 0) (.slice none 0 0) [] (.slice none 0 0)) 66
 bX:∃opv cs2,Blk w' X (je nm 3 pr v8 opv rep rv) 66/\Own w.heap.size 135 5 w' opv (List.flatten cs2)/\jl (yQ w') cs2 ((ko names rs).take k)
 own:Own w.heap.size 82 7 w' rv css.flatten
 all:jl (qbH (xy (fun k=>w.heap.size<=k) w' nv' ys) w') css rs
 nms:Own 0 9 1 w' v7 (names.map qi)
 nds:xH 0 132 5 (vm w') w' v8 ws
theorem ClN.ext {L:List Tok} {base B R X:Nat} {w:AA} {tv nv v7 v8:AB} {xs:List NV} {nm rep:Bs} {pr:Bool} {names:List Bs} {ws:List Need} {i f k:Nat} {b rv:AB} {ys:List NV} {css:List (List AB)} {rs:List Rout} {w1 w2:AA} (h:ClN L base B R X w tv nv v7 v8 xs nm rep pr names ws i f b rv ys css rs k w1) (a:qc w1 w2):ClN L base B R X w tv nv v7 v8 xs nm rep pr names ws i f b rv ys css rs k w2:=by
 have c:qj (fun _ _=>True) w1 w2:=qj.ext a;obtain ⟨o,e,u,t,q⟩:=h.bX;exact ⟨h.m.ext a,h.bR.ext a,⟨o,e,u.ext a,t.ext a,q.imp fun _ _ h=>h.at' c fun _=>trivial⟩,h.own.ext a,h.all.imp fun _ _ h=>h.at' c (fun _=>trivial) fun v l s=>s.at' c (fun _=>trivial) fun _ _=>trivial,h.nms.ext a,h.nds.at' c (fun _ _=>trivial) fun _ _ h=>h.at' c fun _=>trivial⟩
theorem yQ.ones {w:AA} {cs:List AB} {s:Opn} (h:yQ w cs s):cs.length=5/\∀c∈cs,c.cells=#[c]/\c.oneCell=true:=by
 obtain ⟨c,rfl,b⟩:=h;refine ⟨by obtain ⟨e,sv,rfl,_⟩:=b;rfl,fun x a=>?_⟩;rcases ug.1 a with rfl|a
 ·exact ⟨rfl,rfl⟩
 ·exact b.ones x a
theorem qBm {i f:Nat} {J rv:AB} {ys:List NV} {css:List (List AB)} {rs:List Rout} {k Y:Nat} {O:AA} {ρ:qa} {Q:Ks} {K:qa->AA->Prop} {cs:List AB} (hk:k<names.length) (hnl:names.length<=20001) (hXw:w.heap.size<=X) (hYX:Y≠X) (hRX:R≠X) (h:ClN L base B R X w tv nv v7 v8 xs nm rep pr names ws i f J rv ys css rs k O)
  (r3:ρ 3=.pointer (some ⟨X,0,none⟩)) (r9:ρ 9=.pointer (some ⟨Y,0,none⟩)) (hY:Blk O Y cs.toArray 135) (W:yQ O cs ⟨names[k],match rs[k]? with|some q=>q.sig|none=>{}⟩)
  (kk:∀Z w',(∀d,d∉ [83,84,85,86,88]->Z d=ρ d)->ClN L base B R X w tv nv v7 v8 xs nm rep pr names ws i f J rv ys css rs (k+1) w'->K Z w'):
  qfX.wp ⟨Tryz.prog,91,Qf,[]⟩ K Q ρ O:=by
 obtain ⟨opv,C,hX,hop,E⟩:=h.bX;obtain ⟨F,o⟩:=W.ones;have S:=qab fun c hc=>(o c hc).1;have t:=xc hY;rw [Vc,F] at t;simp -implicitDefEqProofs [qfX,r3,r9,(qfb hX).2.1,t];refine jC qmQ (by decide) (by decide) (by simpa [S] using F) fun U w4 hU e V _=>?_;simp [S] at V;have b:=hop.ext e;have hcl2:=Q8 (n:=5) (jl.left (P:=fun c=>c.length=5) (fun _ _ h=>(yQ.ones h).1) E);have hl2:=E.len;have hl3:C.length<=k:=by rw [hl2,uF];omega
 simp -implicitDefEqProofs;refine yf qAb (base:=w.heap.size) (sv:=opv) (xv:=.slice (some ⟨U,0,none⟩) 1 1) (xs:=C.flatten) (news:=cs) (by have:=h.m.tn.below.size;have:=e.size;omega) (by simp) (by simp) b (Blk.cells V (by simp [F])) (fun u hu=>qoU (o u hu)) (by omega) (by omega) fun x w5 y aa hr5=>?_;have I:=qj.grown b aa;have z:=(hX.ext e).at' I (.inr (by decide));simp -implicitDefEqProofs [r3];refine qD (B:=X) (i:=4) (by simp [r3]) z (by simp [je]) (by simpa using qn y.isl) (by simpa using jf y.isl) qmw fun w6 H hb6=>?_;have hX6:Blk w6 X (je nm 3 pr v8 x rep rv) 66:=by simpa [je] using hb6
 have s:=qj.only H z;have a:qj (fun _ T=>T≠66/\T≠135) O w6:=((qj.ext e).trans (I.mono fun _ _ h=> .inr h.2)).trans (s.mono fun _ _ h=> .inr h.1);have hM6:=((h.m.ext e).grownV b aa (by decide) (by decide) (by decide) (by decide) (fun q hq=>(b.blk q hq).1)).putV z (by decide) (by decide) (by decide) (by decide) hXw H;refine kk _ w6 (fun d hd=>?_) ⟨hM6, ?_,⟨x,C++[cs],hX6, ?_, ?_⟩,h.own.at' a fun k _=>⟨by decide,by decide⟩,h.all.imp fun _ _ h=>h.at' a (fun k=>⟨by decide,by decide⟩) fun v l hv=>hv.at' a (fun k=>⟨by decide,by decide⟩) fun k _=>⟨by decide,by decide⟩,h.nms.at' a fun k _=>⟨by decide,by decide⟩,h.nds.at' a (fun k _=>⟨by decide,by decide⟩) fun _ _ h=>h.at' a fun k=>⟨by decide,by decide⟩⟩
 ·simp only [ug,uN,uQ,not_or] at hd;simp [qx,hd]
 ·have hR5:=(h.bR.ext e).at' I (.inr (by decide));exact H.blk hR5 hRX
 ·simp only [Ju,List.flatten_cons,List.flatten_nil,ua];exact y.at' s fun k _=> .inr (by decide)
 ·rw [qCl hk];exact jl.snoc (W.at' a fun k=>⟨by decide,by decide⟩) (E.imp fun _ _ h=>h.at' a fun k=>⟨by decide,by decide⟩)
theorem qCh {b e sz s o:Nat} {w:AA} {v:AB} {A x C cs:List AB} (h:Own b e sz w v cs) (c:cs=A++(x++C)) (y:A.length=o) (q:x.length=s):Eng.q4 w (qN v o) 0 s=some x:=by
 subst c;have c:=L01.jw h;have:=wE (w:=w) (a:=qN v o) (l:=x) (i:=0) fun j z=>by
  have u:o+j<(A++(x++C)).length:=by simp only [ky];omega
  have k:=c.cell (o+j) u;have t:(A++(x++C))[o+j]=x[j]:=by
   rw [JN (by omega),JM (by omega)];congr 1;omega
  rw [t] at k;rw [qba,ur];exact k
 rw [q] at this;exact this
theorem qBJ {i f:Nat} {H rv:AB} {ys:List NV} {css:List (List AB)} {rs:List Rout} {w3:AA} {ρ:qa} {V:Mod->Nat->Nat->AB->AA->Prop} (hV:aM base B w tv nv L xs=V) (hno:r≠ .oof) (ac:ClR ρ B R X v7) (h:ClS L base B R X w tv nv v7 v8 xs nm rep pr names ws i f H rv ys css rs w3) (hr:qbC L nm pr names ws rep rs i f=r):
  qfW.wp ⟨Tryz.prog,91,Qf,[]⟩ (qz [.cellN 2 7] (vZ base B tv nv L w V r)) (qM [.cellN 2 7] (vZ base B tv nv L w V r)) ρ w3:=by
 have hM:=h.m;have hMn:=hM.ln;have r0:=ac.r0;have r2:=ac.r2;have r3:=ac.r3;have r4:=ac.r4;have hr':bnd (needs L [[101,110,100]]) (fun _=>ret (⟨⟨nm,3,pr,ws,ko names rs⟩,rep,rs⟩:Mod)) i f=r:=hr;simp -implicitDefEqProofs [qfW,r0];refine jq (Cu.start hM.st) [101,110,100] fun v4 w4 hE4 hC4 hv4=>?_;simp -implicitDefEqProofs;refine jz (A':=aX) hC4 hv4 (by simp) hr' hno (fun c w' hp=>by simpa using PR.toM hM hp) ?_;intro j5 g5 nv5 w5 hne5 hC5 hT5 hr5;have hj5:=(jP _ _ _ _ _ hne5).1;obtain ⟨e5,hM5⟩:=Cm.ofCu hC5 hM.st (by omega);have E:qj (fun k T=>T≠85/\T≠44) w3 w5:=(qj.ext hE4).trans ((hC4.st.sameT hT5).mono fun _ _ h=>⟨h.1,.inl h.2⟩);have hN5:ClN L base B R X w tv nv v7 v8 xs nm rep pr names ws j5 g5 H rv ys css rs 0 w5:=
  ⟨hM.trans hM5,h.bR.at' E ⟨by decide,by decide⟩,⟨_,[],h.bX.at' E ⟨by decide,by decide⟩,Own.nil _ _ _ _,by simpa using (show jl (yQ w5) [] [] from trivial)⟩,h.own.at' E fun k _=>⟨by decide,by decide⟩,h.all.imp fun _ _ h=>h.at' E (fun k=>⟨by decide,by decide⟩) fun v l hv=>hM5.nd _ v l hv,h.nms.at' E fun k _=>⟨by decide,by decide⟩,h.nds.at' E (fun k _=>⟨by decide,by decide⟩) fun _ _ h=>h.at' E fun k=>⟨by decide,by decide⟩⟩
 have hsn:qW w5 v7 names:=Own.sl hN5.nms (by have:=h.nl;omega);simp -implicitDefEqProofs [r4,hsn.is,hsn.len];obtain ⟨I,hI⟩:∃I:Nat->qa->AA->Prop,∀k y w',I k y w'↔(ClR y B R X v7/\y 59=v7/\y 60=.int .i64 (names.length:Int)/\ClN L base B R X w tv nv v7 v8 xs nm rep pr names ws j5 g5 H rv ys css rs k w'):=⟨_,fun _ _ _=>Iff.rfl⟩;refine zH 61 names.length I (by simp) ((hI _ _ _).2 ⟨⟨by simp [r0],by simp [r2],by simp [r3],by simp [r4]⟩,by simp,by simp,hN5⟩) ?_;intro k y w' hkl r61 hIk;obtain ⟨a,r59,r60,x⟩:=(hI _ _ _).1 hIk;have hnl:=h.nl;by_cases hk:k<names.length
 ·have O:qW w' v7 names:=Own.sl x.nms (by omega);simp -implicitDefEqProofs [qj8,quU,r61,r60,hk,r59,O.is,O.len,O.cell k hk,qi];rw [qJK];dsimp only [qT];refine vR qw7 (by simp) (by simp [Value.cells]) (by simp [Value.cells]) (by kernel_rfl) fun Y w6 hY hE6 J _=>?_;simp [Value.cells] at J;have u:=x.ext hE6;obtain ⟨opv,cs2,hX6,hop6,ha6⟩:=u.bX;have hYX:Y≠X:=fun e=>by obtain ⟨_,_,hb,_⟩:=x.bX;have:=hb.lt;omega
  have hci:=u.own.isl;have hcl:=Q8 (n:=7) (jl.left (P:=fun c=>c.length=7) (fun _ _ h=>by
   obtain ⟨c,pv,ndv,rfl,⟨av,sv,rfl,_⟩,_⟩:=h;rfl) u.all)
  have hcr:=u.all.len;have hlr:qm rv=rs.length:=by
   have:=(L01.jw u.own).len;rw [hcl] at this;omega
  have done:∀(W:qa) (w8:AA) (cs:List AB),(∀d,d∉ [62,63,65,7,8,66,67,9,72,78,79,80]->W d=y d)->W 9=.pointer (some ⟨Y,0,none⟩)->ClN L base B R X w tv nv v7 v8 xs nm rep pr names ws j5 g5 H rv ys css rs k w8->Blk w8 Y cs.toArray 135->yQ w8 cs ⟨names[k],match rs[k]? with|some q=>q.sig|none=>{}⟩->
    ∀Q,qfX.wp ⟨Tryz.prog,91,Qf,[]⟩ (qka.wp ⟨Tryz.prog,91,Qf,[]⟩ (fun ρ'' w''=>ρ'' 61=.int .i64 ((k:Int)+1)/\I (k+1) ρ'' w'') ((qM [.cellN 2 7] (vZ base B tv nv L w V r)).blk 2 (qj9.wp ⟨Tryz.prog,91,Qf,[]⟩ (qz [.cellN 2 7] (vZ base B tv nv L w V r)) (qM [.cellN 2 7] (vZ base B tv nv L w V r))))) Q W w8:=by
   intro W w8 cs hk3 e9 hN8 hY8 hcs Q;have g:∀d,d∉ [62,63,65,7,8,66,67,9,72,78,79,80]->W d=y d:=hk3;refine qBm hk h.nl h.Xw hYX h.RX hN8 (by rw [g 3 (by decide)];exact a.r3) e9 hY8 hcs fun ρ4 w9 z hN9=>?_;have e61:ρ4 61=.int .i64 (k:Int):=by rw [z 61 (by decide),g 61 (by decide)];exact r61
   simp -implicitDefEqProofs [qka,e61,q7 (n:=(k:Int)+1) (by omega)];refine (hI _ _ _).2 ⟨⟨?_, ?_, ?_, ?_⟩, ?_, ?_,hN9⟩
   ·simp [z 0 (by decide),g 0 (by decide),a.r0]
   ·simp [z 2 (by decide),g 2 (by decide),a.r2]
   ·simp [z 3 (by decide),g 3 (by decide),a.r3]
   ·simp [z 4 (by decide),g 4 (by decide),a.r4]
   ·simp [z 59 (by decide),g 59 (by decide),r59]
   ·simp [z 60 (by decide),g 60 (by decide),r60]
  by_cases S:k<rs.length
  ·simp -implicitDefEqProofs [a.r3,(qfb hX6).2.2,hci,hlr,S];have hkc:k<css.length:=by omega
   have hck:=jl.get u.all k hkc S;obtain ⟨sg,pv,ndv,hcs,hsg,_,_⟩:=hck;obtain ⟨av,sv,hsg1,hav,hsv⟩:=hsg;have hrow:Eng.q4 w6 (qN rv (k*7+1)) 0 4=some sg:=by
    refine qCh (A:=(css.take k).flatten++[.string (qb rs[k].name)]) (C:=[pv,ndv]++(css.drop (k+1)).flatten) u.own ?_ ?_ (by rw [hsg1];rfl)
    ·rw [qHV hkc,hcs];simp
    ·have:=Q8 (n:=7) (css:=css.take k) (fun c hc=>by
      have hc':=Jy hc;exact jl.left (P:=fun c=>c.length=7) (fun _ _ h=>by
       obtain ⟨c,pv,ndv,rfl,⟨av,sv,rfl,_⟩,_⟩:=h;rfl) u.all c hc')
     rw [ky,this,uF,Nat.min_eq_left (by omega)];rfl
   rw [hrow];have hbd:=h.bd rs[k] (uo S);refine (qoB (cs:=sg) (s:=rs[k].sig) ⟨av,sv,hsg1,hav,hsv⟩ (by omega) (by omega)).mono ?_;rintro e w7 ⟨cs7,rfl,hs7,hE7⟩;obtain ⟨av7,sv7,rfl,U,aa⟩:=hs7;have F:=u.ext hE7;simp -implicitDefEqProofs;have hac:=qn U.isl;have hsc:=qn aa.isl;have hY7:=J.ext hE7;refine qIb (B:=Y) (o:=1) (pre:=[.string (qb names[k])]) (old:=[.bool false,.slice none 0 0,.string (qb []),.slice none 0 0]) (post:=[]) (T:=135) (by simp) (by simpa using hY7) rfl (by simp [Value.cells,hac,hsc]) ?_ (by simpa using qyy) fun w8 ad hb8=>?_
   ·simp [Value.cells,hac,hsc,jf U.isl,jf aa.isl]
   simp [Value.cells,hac,hsc] at hb8;have sm8:=qj.only ad hY7;have b:qj (fun _ T=>T≠135) w7 w8:=sm8.mono fun _ _ h=> .inr h;have hN7':=F;obtain ⟨opv0,cs0,hX0,hop0,ha0⟩:=x.bX;have Z:=hE6.trans' hE7;have hbo:∀q,opv0.ownBlock=some q->q≠Y:=fun q hq e=>by
    have:=(hop0.blk q hq).2;omega
   have hN8:ClN L base B R X w tv nv v7 v8 xs nm rep pr names ws j5 g5 H rv ys css rs k w8:=
    ⟨F.m.putV hY7 (by decide) (by decide) (by decide) (by decide) (by have:=x.m.tn.below.size;omega) ad,ad.blk F.bR (fun e=>by have:=x.bR.lt;omega),⟨opv0,cs0,ad.blk (hX0.ext Z) (fun e=>hYX e.symm),(hop0.ext Z).at' sm8 fun q hq=> .inl (hbo q hq),(ha0.imp fun _ _ h=>h.at' (qj.ext (p:=fun _ T=>T≠135) Z) fun q=>by decide).imp fun _ _ h=>h.at' b fun q=>by decide⟩,F.own.at' b fun q _=>by decide,F.all.imp fun _ _ h=>h.at' b (fun q=>by decide) fun v l hv=>hv.at' b (fun q=>by decide) fun q _=>by decide,F.nms.at' b fun q _=>by decide,F.nds.at' b (fun q _=>by decide) fun _ _ h=>h.at' b fun q=>by decide⟩
   refine done _ w8 [.string (qb names[k]),.bool rs[k].sig.iter,av7,.string (qb rs[k].sig.result),sv7] (fun d hd=>?_) (by simp) hN8 hb8 ?_ _
   ·simp only [ug,uN,uQ,not_or] at hd;simp [qx,hd]
   ·rw [uj S];exact ⟨_,rfl,_,_,rfl,U.at' b fun q _=>by decide,aa.at' b fun q _=>by decide⟩
  ·simp -implicitDefEqProofs [a.r3,(qfb hX6).2.2,hci,hlr,S];refine done _ w6 [.string (qb names[k]),.bool false,.slice none 0 0,.string (qb []),.slice none 0 0] (fun d hd=>?_) (by simp) u J ?_ _
   ·simp only [ug,uN,uQ,not_or] at hd;simp [qx,hd]
   ·rw [yt (by omega)];exact ⟨_,rfl,_,_,rfl,Own.nil _ _ _ _,Own.nil _ _ _ _⟩
 ·have hk':k=names.length:=by omega
  subst hk';obtain ⟨opv,cs2,hX,K,ha2⟩:=x.bX;have hX':=qpd hX;have ab:qA v8=true:=by obtain ⟨c,ho,_⟩:=x.nds;exact ho.isl
  simp -implicitDefEqProofs [qj8,r61,r60,qj9,a.r3,hX'];refine jg (B:=R) (by simp [a.r2]) x.bR (by simp [Value.cells,je,qn ab,qn K.isl,qn x.own.isl]) ?_ (by kernel_rfl) fun w6 hO6 J=>?_
  ·simp [Value.cells,qn ab,qn K.isl,qn x.own.isl,jf ab,jf K.isl,jf x.own.isl]
  simp [Value.cells,qn ab,qn K.isl,qn x.own.isl] at J;have sm6:=qj.only hO6 x.bR;have t:qj (fun _ T=>T≠66) w' w6:=sm6.mono fun _ _ h=> .inr h;have hM6:=x.m.putV x.bR (by decide) (by decide) (by decide) (by decide) h.Rw hO6;simp -implicitDefEqProofs;refine qY (by simp [a.r2]) J (by simp) ?_;rw [<-hr5,<-hV];have hop2:(ko names rs).take names.length=ko names rs:=uz (by simp [ko]);rw [hop2] at ha2;refine ⟨_,rfl,_,H,ys,rfl,hM6,v8,opv,rv,rfl,x.nds.at' t (fun k _=>by decide) fun _ _ h=>h.at' t fun k=>by decide,⟨cs2,Own.down (K.at' t fun k _=>by decide) (uf _),ha2.imp fun _ _ h=>h.at' t fun k=>by decide⟩,⟨css,Own.down (x.own.at' t fun k _=>by decide) (uf _),x.all.imp fun _ _ h=>h.at' t (fun k=>by decide) fun v l hv=>hv.at' t (fun k=>by decide) fun k _=>by decide⟩⟩
theorem qBK (hL:jJ L) (hNum:wO L) {n' i f:Nat} {nv' rv:AB} {ys:List NV} {css:List (List AB)} {rs:List Rout} {w3:AA} {ρ:qa} {V:Mod->Nat->Nat->AB->AA->Prop} {I:qa->AA->Prop} {Q:Ks} (hQ:∀ρ c w',vZ base B tv nv L w V r (.panicked c) w'->Q.pn ρ c w') (S:r≠ .oof) (ab:ClR ρ B R X v7) (h:ClS L base B R X w tv nv v7 v8 xs nm rep pr names ws i f nv' rv ys css rs w3) (hr:bnd (routs L n n') (fun us=>qbC L nm pr names ws rep (rs++us)) i f=r)
  (k:∀ρ' w' i2 f2 nv2 rv2 ys2 css2 rs2 n2,ClR ρ' B R X v7->ρ' 5=.bool false->ClS L base B R X w tv nv v7 v8 xs nm rep pr names ws i2 f2 nv2 rv2 ys2 css2 rs2 w'->qkR L n nm pr names ws rep rs2 r n2 false i2 f2->i<i2->I ρ' w'):
  qfY.wp ⟨Tryz.prog,91,Qf,[]⟩ I Q ρ w3:=by
 have O:=h.m;have hMn:=O.ln;cases n' with
 |zero=>exact absurd hr.symm S
 |succ n2=>
 rw [qz6] at hr;have r0:=ab.r0;have r2:=ab.r2;have r3:=ab.r3;have r4:=ab.r4;simp -implicitDefEqProofs [qfY,r0];refine vz (A:=aB) (A':=aX) (fun _ _=>rfl) qih (Cu.start O.st) (by simpa using hMn) hr S (fun c w' hp=>by simpa using hQ _ c w' (PR.toM O hp)) ?_;intro it j2 g2 v2 nv2 w4 hit hC2 hT2 hv2 hr2;change v2=_ at hv2;subst hv2;have hj2:=(QC.ok hit).1;simp -implicitDefEqProofs;rw [qwg];dsimp only [qT];rw [qwf];dsimp only [qT];refine vR z82 (by simp) (by simp [Value.cells,qP]) (by simp [Value.cells,qP]) (by kernel_rfl) fun Y w5 hY hE5 hb5 _=>?_;simp [Value.cells] at hb5;have hC5:=hC2.ext hE5;have hYw:w3.heap.size<=Y:=Nat.le_trans hC2.size hY;simp -implicitDefEqProofs [r0];refine vz (A:=aS) (A':=aX) (fun _ _=>rfl) (F:=120) (fun _ _ _ _ _ _ _ _ h _ _=>x4 h) hC5 (by simp;omega) hr2 S (fun c w' hp=>by simpa using hQ _ c w' (PR.toM O hp)) ?_;intro ac j6 g6 v6 nv6 w6 hna hC6 hT6 hv6 hr6;change v6=_ at hv6;subst hv6;have hj6:=(kF _ _ _ _ _ hna).1;have hY6:=hC5.st.var hT6 hb5 (by decide) (by decide);simp -implicitDefEqProofs;refine qD (B:=Y) (i:=0) (by simp) hY6 (by simp [qP]) (by simp [Value.cells]) (by simp) kL fun w7 hO7 hb7=>?_;have hY7:Blk w7 Y (qP (.string (qb ac)) it (.slice none 0 0) [] (.slice none 0 0) [.slice none 0 0,.slice none 0 0]) 82:=by simpa [qP] using hb7
 have hC7:=hC6.putV hY6 (by decide) (by decide) (by decide) (by decide) hYw hO7;simp -implicitDefEqProofs [r0];refine qbY (A':=aX) (fun ho=>qoy hL n hC7 hY7 hYw (by omega) ho) hr6 S (fun c w' hp=>by simpa using hQ _ c w' (PR.toM O hp)) ?_;rintro ⟨sg,ps⟩ j8 g8 v8' w8 hh8 ⟨rfl,hsi,nv8,av,sv,pv,hC8,hY8,hav,hsv,hpv,h66⟩ hr8;have hlen8:sg.args.length<=j8/\sg.signals.length<=j8+1/\ps.length<=j8:=qvb hh8;have htl8:=hC8.st.tl;have hil8:=hC8.st.il;have hj8:=((qak n it).ok hh8).1;subst hsi;simp -implicitDefEqProofs [r0];refine qmJ (V':=aM base B w3 tv nv' L ys) (fun ho=>qoF hL hNum n O.st hMn hC8 hY8 hYw (by omega) ho) hr8 S (fun c w' hp=>by simpa using hQ _ c w' (vZ.toM O hp)) ?_;rintro nds j9 g9 v9 w9 hnd9 ⟨rfl,J,zs,o,hY9,hl9,sm9,hfr9⟩ hr9;have hj9:=((yT n).ok hnd9).1;have sm:=o.same O.st;have hX9:=h.bX.at' sm ⟨by decide,by decide⟩;have hR9:=h.bR.at' sm ⟨by decide,by decide⟩;have hO9:=h.own.at' sm fun k _=>⟨by decide,by decide⟩;have hn9:=h.nms.at' sm fun k _=>⟨by decide,by decide⟩;have hnd':=h.nds.at' (C':=vm w9) sm (fun k _=>⟨by decide,by decide⟩) fun _ _ h=>h.at' sm fun k=>⟨by decide,by decide⟩;have s:jl (qbH (xy (fun k=>w.heap.size<=k) w9 J zs) w9) css rs:=h.all.imp fun _ _ h=>h.at' sm (fun k=>⟨by decide,by decide⟩) fun v l hv=>o.nd _ v l hv;have hYX:Y≠X:=fun e=>by have:=h.bX.lt;omega
 have hYR:Y≠R:=fun e=>by have:=h.bR.lt;omega
 have Z:∀{v:AB} {us:List AB},Own w3.heap.size 9 1 w8 v us->Own w3.heap.size 9 1 w9 v us:=fun ho=>ho.at' sm9 fun k hk=>⟨by decide,by decide,fun e=>by
  obtain ⟨cur,hc⟩:=Own.row ho hk;rw [e,hY8.heap] at hc;cases hc⟩
 have t:=Z hav;have C:=Z hsv;have x:=Z hpv;have row9:=qmZ hY9;have hni:=o.st.own.isl;simp -implicitDefEqProofs [r3,(qfb hX9).2.2,row9];refine jC qmP (by decide) (by decide) (by simp [Value.cells,qn hni,qn x.isl,qn t.isl,qn C.isl]) fun U w10 hU a hb10 _=>?_;simp [Value.cells,qn hni,qn x.isl,qn t.isl,qn C.isl] at hb10;have z:=hO9.ext a;have hcl:=Q8 (n:=7) (jl.left (P:=fun c=>c.length=7) (fun _ _ h=>by
  obtain ⟨c,pv,ndv,rfl,⟨av,sv,rfl,_⟩,_⟩:=h;rfl) s)
 have hcr:=s.len;have hrl:=h.len;have htl9:=o.st.tl;have hil9:=o.st.il;simp -implicitDefEqProofs;refine yf qAa (base:=w.heap.size) (sv:=rv) (xv:=.slice (some ⟨U,0,none⟩) 1 1) (xs:=css.flatten) (news:=[.string (qb ac),.bool sg.iter,av,.string (qb sg.result),sv,pv,J]) (by have:=O.tn.below.size;have:=o.tn.below.size;have:=a.size;omega) (by simp) (by simp) z (Blk.cells (by simpa using hb10) rfl) ?_ (by simp [hcl];omega) (by simp [hcl];omega) fun rv' w11 W hg11 hr11=>?_
 ·intro u hu;simp only [ug,uN,uQ] at hu;rcases hu with rfl|rfl|rfl|rfl|rfl|rfl|rfl
  ·rfl
  ·rfl
  ·exact QY t.isl
  ·rfl
  ·exact QY C.isl
  ·exact QY x.isl
  ·exact QY hni
 have aa:=qj.grown z hg11;have hMM:=O.trans o;have hM11:=(hMM.ext a).grownV z hg11 (by decide) (by decide) (by decide) (by decide) (fun k hk=>(z.blk k hk).1);have hXo:rv.ownBlock≠some X:=fun e=>by
  obtain ⟨cur,hc⟩:=Own.row hO9 e;rw [hX9.heap] at hc;cases hc
 have K:=(hX9.ext a).at' aa (.inr (by decide));have hR11:=(hR9.ext a).at' aa (.inr (by decide));simp -implicitDefEqProofs [r3];refine qD (B:=X) (i:=6) (by simp [r3]) K (by simp [je]) (by simpa using qn W.isl) (by simpa using jf W.isl) qmv fun ad E hb12=>?_;have hX12:Blk ad X (je nm 3 pr v8 (.slice none 0 0) rep rv') 66:=by simpa [je] using hb12
 have H:=qj.only E K;have hM12:=hM11.putV K (by decide) (by decide) (by decide) (by decide) h.Xw E;have kp:∀{b e sz:Nat} {v:AB} {us:List AB},Own b e sz w9 v us->e≠66->e≠82->Own b e sz ad v us:=fun ho he h2=>((ho.ext a).at' aa fun k _=> .inr h2).at' H fun k _=> .inr he;have ae:qj (fun _ T=>T≠66/\T≠82) w9 ad:=((qj.ext a).trans (aa.mono fun _ _ h=> .inr h.2)).trans (H.mono fun _ _ h=> .inr h.1);simp -implicitDefEqProofs [quV];refine k _ ad j9 g9 J rv' zs (css++[[.string (qb ac),.bool sg.iter,av,.string (qb sg.result),sv,pv,J]]) (rs++[⟨ac,sg,ps,nds⟩]) n2 ⟨by simp [r0],by simp [r2],by simp [r3],by simp [r4]⟩ (by simp) ⟨hM12,E.blk hR11 h.RX,hX12, ?_, ?_, ?_,kp hn9 (by decide) (by decide),hnd'.at' ae (fun k _=>⟨by decide,by decide⟩) fun _ _ h=>h.at' ae fun k=>⟨by decide,by decide⟩, ?_,h.Xw,h.Rw,h.RX,h.nl⟩ (.inr ⟨rfl, ?_⟩) (by omega)
 ·simp only [Ju,List.flatten_cons,List.flatten_nil,ua];exact W.at' H fun k _=> .inr (by decide)
 ·refine jl.snoc ?_ (s.imp fun _ _ h=>h.at' ae (fun k=>⟨by decide,by decide⟩) fun v l hv=>hv.at' ae (fun k=>⟨by decide,by decide⟩) fun k _=>⟨by decide,by decide⟩);exact ⟨[.bool sg.iter,av,.string (qb sg.result),sv],pv,J,rfl,⟨av,sv,rfl,Own.down (kp t (by decide) (by decide)) (uf _),Own.down (kp C (by decide) (by decide)) (uf _)⟩,Own.down (kp x (by decide) (by decide)) (uf _),.inl ⟨rfl,hl9,fun y hy k hk=>Nat.le_trans O.tn.below.size (hfr9 y hy k hk)⟩⟩
 ·intro q hq;rcases uv.1 hq with hq|hq
  ·exact h.bd q hq
  ·obtain rfl:=uu.1 hq;exact ⟨by show sg.args.length<=_;omega,by show sg.signals.length<=_;omega⟩
 ·simp;omega
 ·rw [<-hr9];simp
theorem qBI (hL:jJ L) (v:wO L) {n' i f:Nat} {k rv:AB} {ys:List NV} {css:List (List AB)} {rs:List Rout} {w3:AA} {ρ:qa} {V:Mod->Nat->Nat->AB->AA->Prop} (hV:aM base B w tv nv L xs=V) (z:r≠ .oof) (W:ClR ρ B R X v7) (r5:ρ 5=.bool true) (h:ClS L base B R X w tv nv v7 v8 xs nm rep pr names ws i f k rv ys css rs w3) (hsp:qkR L n nm pr names ws rep rs r n' true i f):
  (IR.loop qfV).wp ⟨Tryz.prog,91,Qf,[]⟩ (qz [.cellN 2 7] (vZ base B tv nv L w V r)) ((qM [.cellN 2 7] (vZ base B tv nv L w V r)).blk 0 (qfW.wp ⟨Tryz.prog,91,Qf,[]⟩ (qz [.cellN 2 7] (vZ base B tv nv L w V r)) (qM [.cellN 2 7] (vZ base B tv nv L w V r)))) ρ w3:=by
 obtain ⟨I,O⟩:∃I:qa->AA->Prop,∀e w',I e w'↔∃(C J:Nat) (k rv:AB) (ys:List NV) (css:List (List AB)) (rs:List Rout) (n':Nat) (la:Bool),ClR e B R X v7/\e 5=.bool la/\ClS L base B R X w tv nv v7 v8 xs nm rep pr names ws C J k rv ys css rs w'/\qkR L n nm pr names ws rep rs r n' la C J:=⟨_,fun _ _=>Iff.rfl⟩;refine kr I (fun _ w'=>L.length - atOf B w') ((O _ _).2 ⟨i,f,k,rv,ys,css,rs,n',true,W,r5,h,hsp⟩) ?_;intro e w' U;obtain ⟨C,J,nv1,rv1,ys1,css1,rs1,n1,la,a,x,K,b⟩:=(O _ _).1 U;have Y:=K.m.st.atOf;have r0:=a.r0;have step:∀(o:qa) (E:AA) (Q:Ks),(∀ρ c w',vZ base B tv nv L w V r (.panicked c) w'->Q.pn ρ c w')->ClR o B R X v7->qc w' E->bnd (routs L n n1) (fun us=>qbC L nm pr names ws rep (rs1++us)) C J=r->
   qfY.wp ⟨Tryz.prog,91,Qf,[]⟩ (fun y F=>I y F/\L.length - atOf B F<L.length - atOf B w') Q o E:=fun o E Q hQ q H hr=>by
  refine qBK hL v hQ z q (K.ext H) hr fun ρ2 w2 i2 f2 nv2 S aa s rs2 n2 a1 a2 a3 a4 a5=>⟨(O _ _).2 ⟨i2,f2,nv2,S,aa,s,rs2,n2,false,a1,a2,a3,a4⟩, ?_⟩;rw [a3.m.st.atOf,Y];have:=a3.m.st.il;omega
 rcases b with ⟨rfl,rfl,b⟩|⟨rfl,b⟩
 ·simp -implicitDefEqProofs [qfV,x];refine step _ w' _ (fun _ c w' hp=>by simpa using hp) ?_ (jd _) b;exact ⟨by simp [a.r0],by simp [a.r2],by simp [a.r3],by simp [a.r4]⟩
 ·simp -implicitDefEqProofs [qfV,x,r0];refine jC kj (by decide) rfl (by simp [Value.cells]) fun Z w3 hZ u t _=>?_;simp -implicitDefEqProofs [Value.cells] at t;simp -implicitDefEqProofs;refine (qb8 (K.m.st.ext u) (qas (l:=[[112,114,111,99],[105,116,101,114]]) (by simpa [qi,qb] using t) (by decide))).mono ?_;rintro _ E ⟨rfl,ab⟩;have H:=u.trans' ab;simp -implicitDefEqProofs;cases hc:qo L C [[112,114,111,99],[105,116,101,114]] with
  |true=>
   simp only [hc,wh] at b;simp -implicitDefEqProofs;refine step _ E _ (fun _ c w' hp=>by simpa using hp) ?_ H b;exact ⟨by simp [a.r0],by simp [a.r2],by simp [a.r3],by simp [a.r4]⟩
  |false=>
   simp only [hc,uk,ud] at b;simp -implicitDefEqProofs;refine qBJ hV z ?_ (K.ext H) b;exact ⟨by simp [a.r0],by simp [a.r2],by simp [a.r3],by simp [a.r4]⟩
end
theorem qBH {L:List Tok} (hL:jJ L) (an:wO L) (n:Nat) {base B:Nat} {w:AA} {tv nv:AB} {i f:Nat} {xs:List NV} (hS:PSt base B w tv nv L i f xs) (hn:xs.length<=2*i+2) (e:Qq L n i f≠ .oof):
  Calls Tryz.prog 118 #[.pointer (some ⟨B,0,none⟩)] w (vZ base B tv nv L w (aM base B w tv nv L xs) (Qq L n i f)):=by
 generalize hr:Qq L n i f=r at e;have hr':bnd (name L) (fun nm=>bnd (params L) fun pr=>bnd (needs L [[105,115]]) fun _=>bnd (listed L n (name L)) fun names=>bnd (yk L n) fun ws=>
  bnd (needs L [[114,101,112],[61]]) fun _=>bnd (vN L n) fun rep=>bnd (routs L n n) fun rs=>qbC L nm pr names ws rep rs) i f=r:=hr
 have q:=Cm.start hS hn;generalize hV:aM base B w tv nv L xs=V;refine qHs fun ρ r0=>?_;simp -implicitDefEqProofs [quW];refine qQ z66 fun R w1 hR aV hbR _=>?_;have aK:=(Cu.start hS).ext aV;simp -implicitDefEqProofs [r0];refine vz (A:=aS) (A':=aX) (fun _ _=>rfl) (F:=120) (fun _ _ _ _ _ _ _ _ h _ _=>x4 h) aK (by simpa using hn) hr' e (fun c w' t=>by simpa using PR.toM q t) ?_;intro nm j2 g2 v2 nv2 w2 hna ay aY al a7;change v2=_ at al;subst al;have hj2:=(kF _ _ _ _ _ hna).1;have a0:=aK.st.var aY hbR (by decide) (by decide);simp -implicitDefEqProofs [r0];refine vz (A:=aB) (A':=aX) (fun _ _=>rfl) qoq ay (by simp;omega) a7 e (fun c w' t=>by simpa using PR.toM q t) ?_;intro pr j3 g3 v3 nv3 w3 a3 aI aZ ah hr3;change v3=_ at ah;subst ah;have hj3:=(qa5.ok a3).1;have ak:=ay.st.var aZ a0 (by decide) (by decide);simp -implicitDefEqProofs;rw [qJa];dsimp only [qT];rw [qI8];dsimp only [qT];refine vR z66 (by simp) (by simp [Value.cells,je]) (by simp [Value.cells,je]) (by kernel_rfl) fun X w4 hX aq ax _=>?_;simp -implicitDefEqProofs [Value.cells] at ax;have a6:=aI.ext aq;have a5:=ak.ext aq;have Y:w.heap.size<=X:=Nat.le_trans aI.size hX;have ae:R≠X:=by have:=ak.lt;omega
 simp -implicitDefEqProofs [r0];refine jq a6 [105,115] fun v5 w5 au K hv5=>?_;simp -implicitDefEqProofs;refine jz (A':=aX) K hv5 (by simp) hr3 e (fun c w' t=>by simpa using PR.toM q t) ?_;intro j6 g6 nv6 w6 aQ C af hr6;have hj6:=(jP _ _ _ _ _ aQ).1;have a4:=K.st.var af (a5.ext au) (by decide) (by decide);have hX6:=K.st.var af (ax.ext au) (by decide) (by decide);simp -implicitDefEqProofs [r0];refine wT (A:=aSs) (A':=aX) (fun _ _=>rfl) (fun ho=>qou (qvi B) jm n C.st (by simp;omega) ho) C hr6 e (fun c w' t=>by simpa using PR.toM q t) ?_;intro names j7 g7 v7 nv7 w7 aA z ao av hr7;change Own _ _ _ _ _ _ at av;have hj7:=((ym jm n).ok aA).1;have hnl:=qff jm aA;have hR7:=C.st.var ao a4 (by decide) (by decide);have hX7:=C.st.var ao hX6 (by decide) (by decide);simp -implicitDefEqProofs [r0];refine vz (A:=Qv) (A':=aX) (fun _ _=>rfl) (qol hL n) z (by simp;omega) hr7 e (fun c w' t=>by simpa using PR.toM q t) ?_;intro ws j8 g8 v8 nv8 w8 hws hC8 Q W hr8;change xH _ _ _ _ _ _ _ at W;have hj8:=((QB n).ok hws).1;have aR:=z.st.var Q hR7 (by decide) (by decide);have U:=z.st.var Q hX7 (by decide) (by decide);have hn8:=z.keep Q av (by decide) (by decide);have E:qA v8=true:=by obtain ⟨css,ho,_⟩:=W;exact ho.isl
 simp -implicitDefEqProofs;refine qD (B:=X) (i:=3) (by simp) U (by simp [je]) (by simpa using qn E) (by simpa using jf E) qmx fun w9 S a2=>?_;have a1:Blk w9 X (je nm 3 pr v8 (.slice none 0 0) [] (.slice none 0 0)) 66:=by simpa [je] using a2
 have hC9:=hC8.putV U (by decide) (by decide) (by decide) (by decide) Y S;have hR9:=S.blk aR ae;have O:=qj.only S U;have hn9:=hn8.at' O fun k _=> .inr (by decide);have hw9:xH 0 132 5 (vm w9) w9 v8 ws:=(qo8 (W.at' (C':=vm w8) (qj.ext (p:=fun _ _=>True) (jd _)) (fun _ _=>trivial) fun _ _ h=>h)).at' O (fun k _=> .inr (by decide)) fun _ _ h=>h.at' O fun k=> .inr (by decide);simp -implicitDefEqProofs [r0];refine jC kj (by decide) rfl (by simp [Value.cells]) fun Z aG hZ a I _=>?_;simp -implicitDefEqProofs [Value.cells] at I;have o:=hC9.ext a;have aF:Own 0 9 1 aG (.slice (some ⟨Z,0,none⟩) 2 2) ([[114,101,112],[61]].map qi):=Own.lit (sz:=1) (cs:=[qi [114,101,112],qi [61]]) (by simpa [qi,qb] using I) rfl (uf _) (by decide);simp -implicitDefEqProofs;refine jz (A':=aX) o aF (by simp) hr8 e (fun c w' t=>by simpa using PR.toM q t) ?_;intro j11 g11 nv11 aW ab b s aE;have hj11:=((qq _).ok ab).1;have J:=(o.st.sameT s);have aC:=o.st.var s (hR9.ext a) (by decide) (by decide);have aw:=o.st.var s (a1.ext a) (by decide) (by decide);simp -implicitDefEqProofs [r0];refine vz (A:=aS) (A':=aX) (fun _ _=>rfl) (QQ hL n) b (by simp;omega) aE e (fun c w' t=>by simpa using PR.toM q t) ?_;intro rep j12 g12 v12 nv12 aa ag az l H ai;change v12=_ at H;subst H;have hj12:=((vi n).ok ag).1;have ar:=b.st.var l aC (by decide) (by decide);have u:=b.st.var l aw (by decide) (by decide);have aN:=b.keep l (o.keep s (hn9.ext a) (by decide) (by decide)) (by decide) (by decide);have aJ:xH 0 132 5 (vm aa) aa v8 ws:=((hw9.at' (C':=vm aG) (qj.ext (p:=fun _ _=>True) a) (fun _ _=>trivial) fun _ _ h=>h.at' (qj.ext (p:=fun _ _=>True) a) fun _=>trivial).at' (C':=vm aW) J (fun k _=>⟨by decide,.inl (by decide)⟩) fun _ _ h=>h.at' J fun k=>⟨by decide,.inl (by decide)⟩).at' (C':=vm aa) (b.st.sameT l) (fun k _=>⟨by decide,.inl (by decide)⟩) fun _ _ h=>h.at' (b.st.sameT l) fun k=>⟨by decide,.inl (by decide)⟩;simp -implicitDefEqProofs;refine qD (B:=X) (i:=5) (by simp) u (by simp [je]) (by simp [Value.cells]) (by simp) kL fun ad v aj=>?_;have ap:Blk ad X (je nm 3 pr v8 (.slice none 0 0) rep (.slice none 0 0)) 66:=by simpa [je] using aj
 have y:=az.putV u (by decide) (by decide) (by decide) (by decide) Y v;have aH:=v.blk ar ae;have x:=qj.only v u;have ac:names.length<=20001:=by have h1:=y.st.tl;have h2:=y.st.il;omega
 have aO:=aN.at' x fun k _=> .inr (by decide);have aP:xH 0 132 5 (vm ad) ad v8 ws:=aJ.at' x (fun k _=> .inr (by decide)) fun _ _ h=>h.at' x fun k=> .inr (by decide);obtain ⟨rfl,am⟩:=Cm.ofCu y hS (by omega);simp -implicitDefEqProofs;refine qBI hL an (n:=n) (n':=n) hV e ⟨by simp [r0],by simp,by simp,by simp⟩ (by simp) ⟨am,aH,ap,Own.nil _ _ _ _,(show jl _ [] [] from trivial),by simp,Own.down aO (uf _),aP,uf _,Y,hR,ae,ac⟩ (.inl ⟨rfl,rfl,ai⟩)
def kI.row {N:AB->List Nd->Prop} {w:AA} {cs:List AB} {m:Mod} (h:kI N w cs m):cs.length=7/\∀c∈cs,c.cells=#[c]/\c.oneCell=true:=by
 obtain ⟨a,o,rv,rfl,⟨_,l,_⟩,⟨_,e,_⟩,⟨_,b,_⟩⟩:=h;refine ⟨rfl, ?_⟩;intro c k;simp only [ug,uN,uQ] at k;rcases k with rfl|rfl|rfl|rfl|rfl|rfl|rfl
 ·exact ⟨rfl,rfl⟩
 ·exact ⟨rfl,rfl⟩
 ·exact ⟨rfl,rfl⟩
 ·exact ⟨qn l.isl,jf l.isl⟩
 ·exact ⟨qn e.isl,jf e.isl⟩
 ·exact ⟨rfl,rfl⟩
 ·exact ⟨qn b.isl,jf b.isl⟩
def qBo {L:List Tok} (hL:jJ L) (t:wO L) (n:Nat) {base B:Nat} {w:AA} {tv nv:AB} {i f:Nat} {xs:List NV} (Z:PSt base B w tv nv L i f xs) (hn:xs.length<=2*i+2) (o:xC L n i f≠ .oof):
  Calls Tryz.prog 56 #[.pointer (some ⟨B,0,none⟩)] w (vZ base B tv nv L w (aM base B w tv nv L xs) (xC L n i f)):=by
 generalize hr:xC L n i f=r at o;have W:qt L [99,108,117,115,116,101,114] (Qq L n) (qnQ L n) i f=r:=hr;refine qDR fun ρ r0=>?_;simp -implicitDefEqProofs [qqs,r0];refine qQ z66 fun R w1 hR S J _=>?_;have E:Cu base B w tv nv L xs w1 nv i f []:=(Cu.start Z).ext S;simp -implicitDefEqProofs [r0];refine jV (s:=[99,108,117,115,116,101,114]) E W (fun w2 U F z b=>?_) (fun w2 U F z b=>?_)
 ·have a:Cm base B w tv nv L xs w2 nv (i+1) f xs:=by
   obtain ⟨_,h⟩:=Cm.ofCu F Z (by omega);exact h
  have C:=E.st.var z J (by decide) (by decide);simp -implicitDefEqProofs [r0];refine (qBH hL t n a.st a.ln (by rw [b];exact o)).mono ?_;intro e w3 V;rw [b] at V;cases r with
  |oof=>exact absurd rfl o
  |no g=>
   obtain ⟨rfl,j,Q,aa,h1,h2⟩:=V;exact ⟨rfl,j,Q,aa,h1,a.tn.trans h2⟩
  |ok m j g=>
   obtain ⟨v,rfl,cs,nv2,ys,rfl,y,u⟩:=V;obtain ⟨hl,q⟩:=u.row;have x:=qab fun c Y=>(q c Y).1;have H:=y.var a.st C (by decide) (by decide);simp -implicitDefEqProofs;refine jg (B:=R) (by simp) H (by simp [x,hl,je]) ?_ (by kernel_rfl) fun w4 O I=>?_
   ·simpa [x] using fun c Y=>(q c Y).2
   have K:qj (fun _ T=>T≠66) w3 w4:=(qj.only O H).mono fun _ _ h=> .inr h;have ab:=(a.trans y).putV H (by decide) (by decide) (by decide) (by decide) hR O;simp -implicitDefEqProofs [x] at I⊢;refine qY (by simp) I (by simp [hl]) ?_;exact ⟨_,rfl,cs,nv2,ys,rfl,ab,u.at' K (fun k=>by decide) (fun k=>by decide) (fun k=>by decide) (fun k=>by decide) fun v l hv=>(hv.mono y.st.kidLt fun k _ hk=>Nat.le_trans a.tn.below.size hk).at' K (fun k=>by decide) fun k _=>by decide⟩
 ·have C:=E.st.var z J (by decide) (by decide);simp -implicitDefEqProofs [r0];exact qBi hL t n Z hn F C hR (by simp [r0]) (by simp) b o
def qIg {P:Program} {Q:Ks} {d:Option Nat} {ty:TypeId} {K:qa->AA->Prop} {ρ:qa} {w:AA} {a b:Operand} {k:IntKind} {x y:Int} {c:Array TypeId} (l:qd ρ a=.int k x) (e:qd ρ b=.int k y) (h:K (qp ρ d (.int k (if y<x then y else x))) w):
  qB P Q d (.call {callee:=.builtin .min,args:=#[a,b],argTypes:=c}) ty K ρ w:=by
 show vD P Q d _ ty K ρ w;refine jN (v:=.int k (if y<x then y else x)) (w':=w) ?_ h;simp [execOp,qR,resolve,invoke,builtin,l,e,Builtin.min_,Builtin.min2]
def qBt {L:List Tok} {w:AA} {b:Nat} {tv:AB} {f:Nat} (s:Own b 53 3 w tv (qH L)) (z:L.length<=20000) (v:f<=L.length):
  Calls Tryz.prog 57 #[tv,.int .i64 (f:Int)] w fun e w'=>e=.returned (.int .i64 (vO L f))/\w'=w:=by
 have u:=L01.jw s;have h:=s.isl;have c:qm tv=L.length:=by have:=u.len;rw [jp] at this;omega
 refine qDN fun ρ r0 r1=>?_;simp -implicitDefEqProofs [qqn,r0,r1,h,c];by_cases l:L.length=0
 ·obtain rfl:=uJ.1 l;simp [vO]
 ·have o:L≠[]:=fun e=>l (by rw [e];rfl);simp -implicitDefEqProofs [o,qqm,r0,r1,h,c,q7 (n:=(L.length:Int) - 1) (by omega)];refine qIg (k:=.i64) (x:=(f:Int)) (y:=(L.length:Int) - 1) (by simp) (by simp) ?_;have e:(if ((L.length:Int) - 1)<(f:Int) then ((L.length:Int) - 1) else (f:Int))=((min f (L.length - 1):Nat):Int):=by
   split<;>omega
  rw [e];have q:min f (L.length - 1)<L.length:=by omega
  simp only [vO,l,ud];generalize min f (L.length - 1)=k at q⊢;have a:=u.cell (k*3+2) (by rw [jp];omega);have t:=(jM L k q).2.2;rw [uj (by rw [jp];omega)] at t;rw [Jp t] at a;simp -implicitDefEqProofs [r0,h,c,q,a,tk]
def qcW (_:Nat) (T:TypeId):Prop:=T=3\/T=4\/T=83
def qa2 (B:Nat) (tv:AB) (W:AA) (ok:Bool) (g:Nat) (Ok:AA->Prop) (e:Ending) (w2:AA):Prop:=
 qj qcW W w2/\Below B W w2/\((ok=true/\e=.returned (.tuple #[])/\Ok w2)\/(ok=false/\e=.panicked yr/\∃(j:Nat) (nv2:AB),Blk w2 B #[tv,.int .i64 (j:Int),.int .i64 (g:Int),nv2] 85/\qA nv2=true/\Ok w2))
def qwX (B:Nat) (w:AA) (tv:AB) (ok:Bool) (g:Nat) (Ok:AA->Prop) (e:Ending) (w':AA):Prop:=
 e=.returned (.bool ok)/\Below B w w'/\∃w2,Ok w2/\qj (fun _ T=>T≠4/\(ok=true\/T≠85)) w2 w'/\(ok=false->∃a b,Blk w' B #[tv,a,.int .i64 (g:Int),b] 85)
def qki {B:Nat} {w w':AA} (h:qc w w') (a:B<=w.heap.size):Below B w w':=⟨h.os,h.tape,h.output,h.size,fun k b=>h.block k (by omega)⟩
def qom {L:List Tok} {base B:Nat} {w:AA} {tv nv:AB} {i f g:Nat} (hS:PSt base B w tv nv L i f []) {ok:Bool} {F:FuncId} {caps:Array AB} {Ok:AA->Prop} (hcb:qk Tryz.prog F=true) (U:∀W,qc w W->Calls Tryz.prog F caps W (qa2 B tv W ok g Ok)):
  Calls Tryz.prog 54 #[.pointer (some ⟨B,0,none⟩),.func (.func F) #[] caps] w (qwX B w tv ok g Ok):=by
 generalize hR:qwX B w tv ok g Ok=R;refine qiU fun ρ r0 r1 rg=>?_;simp [qdQ,r0];refine vC fun A W1 hA O hbA _=>?_;simp [Value.cells,r0] at hbA;simp;refine qQ z4 fun Y W2 hY ac hbY _=>?_;simp;have hS2:=hS.ext (O.trans' ac);have hA2:=hbA.ext ac;refine js (hpn:=qgY (by decide)) qiT (fun W=>Blk W A #[.pointer (some ⟨B,0,none⟩)] 83/\Blk W B #[tv,.int .i64 (i:Int),.int .i64 (f:Int),nv] 85) fun W3 C _=>?_;have o:=hS2.ext C;have k:=hA2.ext C;have hJ:Blk W3 A #[.pointer (some ⟨B,0,none⟩)] 83/\Blk W3 B #[tv,.int .i64 (i:Int),.int .i64 (f:Int),nv] 85:=⟨k,o.blk⟩;refine ⟨hJ, ?_⟩;have cA:∀W,(Blk W A #[.pointer (some ⟨B,0,none⟩)] 83/\Blk W B #[tv,.int .i64 (i:Int),.int .i64 (f:Int),nv] 85)->W.cell? ⟨A,0,none⟩=some (.pointer (some ⟨B,0,none⟩))/\W.cell? ⟨B,1,none⟩=some (.int .i64 (i:Int))/\W.cell? ⟨B,3,none⟩=some nv:=fun W h=>⟨by rw [h.1.cell];rfl,by rw [h.2.cell];rfl,by rw [h.2.cell];rfl⟩;have hisl:=hS.own.isl;simp+contextual -implicitDefEqProofs [qfx,cA,hJ,hisl];have rest:∀(q:qa) (W4:AA) (X5 X6:Nat),qc W3 W4->Blk W4 X5 #[.int .i64 (i:Int)] 3->Blk W4 X6 #[.int .i64 (0:Int)] 3->q 1=ρ 1->q 2=.pointer (some ⟨A,0,none⟩)->q 4=.pointer (some ⟨Y,0,none⟩)->q 5=.pointer (some ⟨X5,0,none⟩)->q 6=.pointer (some ⟨X6,0,none⟩)->q gS=.tuple #[]->qbs.wp ⟨Tryz.prog,19,qbt,yL⟩ (vl Tryz.prog [.cell1 4] R .returning) (zJ Tryz.prog [.cell1 4] R) q W4:=by
  intro q W4 X5 X6 a z l e1 e2 e4 e5 e6 eg;have hA4:=k.ext a;have hY4:=(hbY.ext C).ext a;have J:qc w W4:=((O.trans' ac).trans' C).trans' a;have hBw:=hS.blk.lt;have hBY:B<=Y:=by have:=O.size;omega
  have I:Below B w W4:=qki J (by omega);simp [qbs];refine qgc (f:=116) (caps:=#[.pointer (some ⟨X5,0,none⟩),.pointer (some ⟨A,0,none⟩),.pointer (some ⟨X6,0,none⟩),.pointer (some ⟨Y,0,none⟩)]) (by simp [e2,e4,e5,e6]) trivial ?_;have eg':q 1000000000=.tuple #[]:=eg;simp [gS,e1,r1,eg'];refine xh (f:=F) hcb (fs:=#[]) (caps:=caps) (by simp) ?_;simp;refine (U W4 J).mono ?_;rintro e w5 ⟨y,K,h|h⟩
  ·obtain ⟨rfl,rfl,Z⟩:=h;have u:=hY4.at' y (.inr (.inl rfl));simp;refine qD (B:=Y) (i:=0) (by simp [e4]) u (by simp) (by simp [Value.cells]) (by simp) sz4 fun W6 c l=>?_;simp at l;simp [zJ,vl,gS,e4];refine jZ (by simp) qcB (qkN.mono ?_);rintro e u' w' ⟨⟨v,rfl⟩,rfl,rfl⟩;refine qaJ ?_;have cY:w'.cell? ⟨Y,0,none⟩=some (.bool true):=by rw [l.cell];rfl
   simp [qz,vX,RV.val,e4,cY,wQ,<-hR];exact ⟨rfl,(I.trans K).trans (kq c hBY),w5,Z,(qj.only c u).mono fun _ _ h=> .inr h.1,by simp⟩
  ·obtain ⟨rfl,rfl,j,nv2,E,hsl,Z⟩:=h;have u:=hY4.at' y (.inr (.inl rfl));have h55:=z.at' y (.inl rfl);have h56:=l.at' y (.inl rfl);have hA5:=hA4.at' y (.inr (.inr rfl));simp [zJ,vl,gS,e4];refine jZ (by simp) qcB ((qkM (n:=0) h55 hA5 h56 (.inr u) E hsl (uf _)).mono ?_);rintro e u' w' ⟨⟨v,rfl⟩,hu,W6,W7,H,s,t,V,hb8⟩;show vo _ _ _ _ [] (settle u') w';rw [hu];refine qaJ ?_;have cY:w'.cell? ⟨Y,0,none⟩=some (.bool false):=by rw [hb8.cell];rfl
   simp [qz,vX,RV.val,e4,cY,wQ,<-hR];have bYB:B≠Y:=fun e=>by
    subst e;have:=E.heap;rw [u.heap] at this;cases this
   have hY7:=s.blk (u.ext H) (ub bYB);have hB8:=V.blk t bYB;refine ⟨rfl,(((I.trans K).trans (qki H (by have:=E.lt;omega))).trans (kq s (kh _))).trans (kq V hBY),w5,Z, ?_,fun _=>⟨_,_,hB8⟩⟩;exact ((qj.ext H).trans ((qj.only s (E.ext H)).mono fun _ _ h=> .inr (by simpa using h.2))).trans ((qj.only V hY7).mono fun _ _ h=> .inr h.1)
 have nvl:qm nv=0:=by
  have:=(L01.jw hS.own).len;rw [wo] at this;simp at this;omega
 refine ⟨?_, ?_⟩
 ·refine qQ z3 fun X5 W4 Q a aa hs4=>⟨⟨k.ext a,(o.ext a).blk⟩, ?_⟩;refine qQ z3 fun X6 W5 hX6 b z hs5=>⟨⟨(k.ext a).ext b,((o.ext a).ext b).blk⟩, ?_⟩;have S:=(o.ext a).ext b;have l5:W3.heap.size<=X5:=Q;have x:X5≠X6:=by omega
  refine qD (B:=X5) (i:=0) (by simp) (aa.ext b) (by simp) (by simp [Value.cells]) (by simp) vp fun W6 c l=>?_;simp at l;have ab:=c.blk ((k.ext a).ext b) (by have:=k.lt;omega);have ad:=c.blk S.blk (by have:=o.blk.lt;omega);refine ⟨⟨ab,ad⟩, ?_⟩;refine qD (B:=X6) (i:=0) (by simp) (c.blk z (ub x)) (by simp) (by simp [Value.cells]) (by simp) vp fun W7 s t=>?_;simp [nvl] at t;exact rest _ W7 X5 X6 (s.ext (c.ext (a.trans' b) l5) (by have:=a.size;omega)) (s.blk l x) t (by simp) (by simp) (by simp) (by simp) (by simp) (by simp [gS] at rg⊢;exact rg)
 ·refine qQ z3 fun X6 W4 hX6 a aa hs4=>⟨⟨k.ext a,(o.ext a).blk⟩, ?_⟩;refine qQ z3 fun X5 W5 Q b z hs5=>⟨⟨(k.ext a).ext b,((o.ext a).ext b).blk⟩, ?_⟩;have S:=(o.ext a).ext b;have l5:W3.heap.size<=X5:=Nat.le_trans a.size Q;have x:X6≠X5:=by omega
  refine qD (B:=X5) (i:=0) (by simp) z (by simp) (by simp [Value.cells]) (by simp) vp fun W6 c l=>?_;simp at l;have ab:=c.blk ((k.ext a).ext b) (by have:=k.lt;omega);have ad:=c.blk S.blk (by have:=o.blk.lt;omega);refine ⟨⟨ab,ad⟩, ?_⟩;refine qD (B:=X6) (i:=0) (by simp) (c.blk (aa.ext b) x) (by simp) (by simp [Value.cells]) (by simp) vp fun W7 s t=>?_;simp [nvl] at t;exact rest _ W7 X5 X6 (s.ext (c.ext (a.trans' b) l5) hX6) (s.blk l (ub x)) t (by simp) (by simp) (by simp) (by simp) (by simp) (by simp [gS] at rg⊢;exact rg)
def qxk:∀t∈L01.xb,t.length<=20:=by decide
def qy4:∀t∈L01.ji,t.length<=20:=by decide
def qmY {L:List Tok} (h:qef L):jJ L:=fun t a=>by
 have:=h t a;unfold L01.right at this;split at this
 ·unfold L01.qJ at this;simp only [km,ue] at this;omega
 ·split at this
  ·exact qxk _ (JJ.1 this)
  ·split at this
   ·unfold L01.jX at this;simp only [km,ux,uZ,uX] at this;omega
   ·split at this
    ·exact qy4 _ (JJ.1 this)
    ·cases this
def qo0:∀(l:Bs) (a:Nat),(∀c∈l,L01.qV c=true)->l.foldl (fun n c=>10*n+((c.toNat:Int) - 48)) (a:Int)=(L01.zG a l:Int)
 |[],a,_=>rfl
 |c::l,a,h=>by
  have b:=h c (by simp);simp [L01.qV] at b;have k:=b.1;rw [List.foldl_cons,L01.qcQ,<-qo0 l _ fun x e=>h x (by simp [e])];congr 1;omega
def qJV {s:Bs} (h:L01.jX s=true):Lib.atoiAll s=.ok (qdD s):=by
 unfold L01.jX at h;simp only [km,ux,uZ,JF,uX,uS,ue] at h;obtain ⟨⟨⟨⟨k,q⟩,l⟩,y⟩,t⟩:=h;have a:=L01.qkK.1 (Decidable.of_not_not l);have u:L01.zG 0 s<=1000000000:=by
  rcases t with h|h
  ·have x:=L01.qgN s 0 a;have v:(10:Nat)^s.length<=10^9:=Vj (by decide) (by omega);omega
  ·rw [h];decide
 have b:s≠[]:=fun e=>k (by rw [e];rfl);have e:qdD s=(L01.zG 0 s:Int):=qo0 s 0 a;rw [e];obtain ⟨c,r,rfl⟩:∃c r,s=c::r:=by cases s with|nil=>exact absurd rfl b|cons c r=>exact ⟨c,r,rfl⟩
 have o:=a c (by simp);simp [L01.qV] at o;unfold Lib.atoiAll;simp only [];rw [q3 (by omega),Lib.parseMag,q3 (by simp),L01.qif _ 0 a (by omega)];simp only [];rw [q3 (by omega),q3 (by omega),q3 (by omega)]
def qCy {L:List Tok} (h:qef L):wO L:=fun t a b=>by
 have:=h t a;rw [b] at this;exact qJV this
section
variable {α:Type} {A:Ans α} {L:List Tok} {m:M α} {B P:Nat} {w:AA} {tv nv:AB} {g:Nat}
def ya (L:List Tok) (m:M α):Bool:=match bnd m (fun a=>bnd (fin L) fun _=>ret a) 0 0 with| .ok _ _ _=>true|_=>false
def qKn (A:Ans α) (L:List Tok) (B:Nat) (tv:AB) (m:M α) (w2:AA):Prop:=∃(i f:Nat) (nv2:AB) (ys:List NV),PSt B B w2 tv nv2 L i f ys/\∀a j g,ya L m=true->m 0 0=.ok a j g->ys.map (·.nd)=A.nodes 0 a/\j<=L.length
def qbw (L:List Tok) (m:M α):Nat:=match bnd m (fun a=>bnd (fin L) fun _=>ret a) 0 0 with| .no g=>g| .ok _ _ g=>g| .oof=>0
end
def qBY {L:List Tok} {m:M Unit} (Y:Mt aU L 72 me m) (C:m 0 0≠ .oof) {B P:Nat} {w:AA} {tv:AB} (S:PSt B B w tv (.slice none 0 0) L 0 0 []) (Q:Blk w P #[.pointer (some ⟨B,0,none⟩)] 83):
  Calls Tryz.prog 71 #[.pointer (some ⟨P,0,none⟩)] w (qa2 B tv w (ya L m) (qbw L m) (qKn aU L B tv m)):=by
 refine qDC fun ρ r0=>?_;have U:w.cell? ⟨P,0,none⟩=some (.pointer (some ⟨B,0,none⟩)):=by rw [Q.cell];rfl
 simp [qp6,r0,U];have sm:∀{nv2:AB} {w2:AA},Tn B B (.slice none 0 0) nv2 w w2->qj qcW w w2:=fun W=>(S.sameT W).mono fun k T h=>by
  rcases h with rfl|rfl|rfl<;>exact ⟨by decide,.inl (by decide)⟩
 refine (Y B B w tv _ 0 0 [] S (by simp) C).mono ?_;intro e w2 H;cases h:m 0 0 with
 |oof=>exact absurd h C
 |no g=>
  rw [h] at H;obtain ⟨j,nv2,ys,rfl,c,b⟩:=H;have y:ya L m=false:=by simp [ya,bnd,h,Rs.andThen]
  have E:qbw L m=g:=by simp [qbw,bnd,h,Rs.andThen]
  rw [y,E];refine ⟨sm b,b.below,.inr ⟨rfl,rfl,j,nv2,c.blk,c.own.isl,j,g,nv2,_,c,fun a j g _ x=>?_⟩⟩;cases h.symm.trans x
 |ok t j g=>
  rw [h] at H;obtain ⟨v,nv2,ys,rfl,c,K,_,b,hv⟩:=H;have J:=Q.at' (sm b) (.inr (.inr rfl));have O:w2.cell? ⟨P,0,none⟩=some (.pointer (some ⟨B,0,none⟩)):=by rw [J.cell];rfl
  simp [r0,O];refine ⟨by kernel_rfl,(qBF c).mono ?_⟩;intro e Z l;cases s:fin L j g with
  |oof=>rw [s] at l;exact l.elim
  |no g3=>
   rw [s] at l;obtain ⟨I,nv3,z,rfl,q,o⟩:=l;have y:ya L m=false:=by simp [ya,bnd,h,s,Rs.andThen]
   have E:qbw L m=g3:=by simp [qbw,bnd,h,s,Rs.andThen]
   rw [y,E];simp;exact ⟨sm (b.trans o),(b.trans o).below,.inr ⟨rfl,rfl,I,nv3,q.blk,q.own.isl,I,g3,nv3,_,q,fun a j g x=>by rw [y] at x;cases x⟩⟩
  |ok u I g3=>
   rw [s] at l;obtain ⟨v3,nv3,z,rfl,q,F,_,o,V⟩:=l;have y:ya L m=true:=by simp [ya,bnd,h,s,ret,Rs.andThen]
   have E:qbw L m=g3:=by simp [qbw,bnd,h,s,ret,Rs.andThen]
   rw [y,E];obtain rfl:z=[]:=by simpa [aU] using F
   simp;refine ⟨sm (b.trans o),(b.trans o).below,.inl ⟨rfl,rfl,I,g3,nv3,ys,by simpa using q,fun a j g _ x=>?_⟩⟩;obtain ⟨_,rfl,_⟩:=Rs.ok.inj (h.symm.trans x);exact ⟨K,c.il⟩
@[simp] theorem qMf:qk Tryz.prog 53=true:=by kernel_rfl
@[simp] theorem qMe:qk Tryz.prog 57=true:=by kernel_rfl
@[simp] theorem qMd:qk Tryz.prog 58=true:=by kernel_rfl
@[simp] theorem qMc:qk Tryz.prog 64=true:=by kernel_rfl
@[simp] theorem qMb:qk Tryz.prog 76=true:=by kernel_rfl
def qdd:∀(n:Nat) (s:Bs) (l e m:Int),L01.wU n s l=.bad e m->e≠0
 |0,_,_,_,_,h=>by cases h
 |_+1,[],_,_,_,h=>by cases h
 |n+1,c::r,l,e,m,h=>by
  have add:∀{o c:_} {x:L01.Res},x.add o c=.bad e m->x=.bad e m:=fun {o c x} h=>by cases x<;>simpa [L01.Res.add] using h
  unfold L01.wU at h;split at h
  ·exact qdd n _ _ _ _ h
  ·split at h
   ·exact qdd n _ _ _ _ h
   ·split at h
    ·exact qdd n _ _ _ _ (add h)
    ·split at h
     ·rename_i a;simp only [L01.Res.bad.injEq] at h;rw [<-h.1];exact a
     ·exact qdd n _ _ _ _ (add h)
def qm7 {s:Bs} {e l:Int} (h:qC s=.bad e l):e≠0:=by
 unfold L01.qC at h;split at h
 ·simp only [L01.Res.bad.injEq] at h;rw [<-h.1];decide
 ·exact qdd _ _ _ _ _ h
def qwe {v:AB} (h:qA v=true):Tryz.prog.built 85 [(0,v)]=some #[v,.int .i64 0,.int .i64 0,.slice none 0 0]:=by
 rcases xF h with ⟨b,o,n,c,rfl,_⟩|rfl|⟨b,o,s,rfl⟩<;>kernel_rfl
theorem z83:jU Tryz.prog 83=some #[.pointer none]:=by kernel_rfl
theorem qmu:jh Tryz.prog 83 1=true:=by kernel_rfl
def qvw {B:Nat} {w w1 w2:AA} (h:qc w w1) (a:Below B w1 w2) (c:w.heap.size<=B):qc w w2:=⟨a.os.trans h.os,a.tape.trans h.tape,a.output.trans h.output,Nat.le_trans h.size a.size,fun k b=>(a.block k (by omega)).trans (h.block k b)⟩
theorem qaF {w:AA} (hG:L01.G w) (s:Bs) (hs:s.length<4611686018427387904):Calls Tryz.prog 22 #[.string (qb s)] w fun e w'=>e=.returned (.bool (vY s))/\qc w w':=by
 refine qFz fun ρ r0=>?_;simp -implicitDefEqProofs [qsP,r0];refine (L01.qhe hG s hs).mono ?_;rintro _ w1 ⟨v,rfl,hv,hE1⟩;simp -implicitDefEqProofs [fV];refine qQ L01.z31 fun F w2 hF K hb2 _=>?_;simp -implicitDefEqProofs;refine jg (B:=F) (by simp) hb2 (by simp [Value.cells]) (by simp [Value.cells]) (by simpa [Value.cells] using L01.yq) fun w3 C Q=>?_;simp [Value.cells] at Q;have o:qc w w3:=(C.ext K hF)|>hE1.trans'
 have hc0:w3.cell? ⟨F,0,none⟩=some (.int .i64 (qC s).err):=by rw [Q.cell];rfl
 simp -implicitDefEqProofs [hc0,r0];by_cases b:(qC s).err=0/\s.length<=100
 ·obtain ⟨E,Z⟩:=b;have H:¬(100:Int)<(s.length:Int):=by omega
  obtain ⟨a,cs,c⟩:∃a cs,qC s=.ok a cs:=by
   cases h:qC s with
   |ok a cs=>exact ⟨a,cs,rfl⟩
   |bad e l=>rw [h] at E;exact absurd E (qm7 h)
  rw [c] at hv;have J:Own w.heap.size 53 3 w1 v (qH a):=hv;have z:=qve c;have S:a.length<=20000:=by have:=(L01.qhy s).1;rw [c] at this;exact this
  have ac:=J.isl;have hic:=qn ac;simp -implicitDefEqProofs [E,H,qsB,qwe ac];refine vC fun B w4 hB hE4 aa _=>?_;simp -implicitDefEqProofs [Value.cells,hic] at aa⊢;refine qQ z83 fun P w5 hP hE5 hb5 _=>?_;simp -implicitDefEqProofs;refine jg (B:=P) (by simp) hb5 (by simp [Value.cells]) (by simp [Value.cells]) (by simpa [Value.cells] using qmu) fun w6 hO6 I=>?_;simp -implicitDefEqProofs [Value.cells] at I;have cP:w6.cell? ⟨P,0,none⟩=some (.pointer (some ⟨B,0,none⟩)):=by rw [I.cell];rfl
  have x:qc w4 w6:=hO6.ext hE5 hP;have y:qc w3 w6:=hE4.trans' x;have Y:=((J.ext ((C.ext K hF))).ext y);have ab:=aa.ext x;have hS:PSt B B w6 v (.slice none 0 0) a 0 0 []:=⟨ab,Own.down Y (uf _),Own.nil _ _ _ _,by simp,kh _,Jo ab.lt,S,uf _,uf _⟩;simp -implicitDefEqProofs [cP];have hkn:kind a (a.length+3) 0 0≠ .oof:=qC0 (kh _) 0;refine (qom hS (by kernel_rfl) fun W hE=>qBY (qij (a.length+3)) hkn (hS.ext hE) (I.ext hE)).mono ?_;rintro _ w7 ⟨rfl,O,w8,_,hsm,_⟩;have hB3:w3.heap.size<=B:=hB;have V:qc w w7:=by
   exact qvw (o.trans' y) O (by have:=o.size;omega)
  have U:ya a (kind a (a.length+3))=(match kind a (a.length+3) 0 0 with| .ok _ j _=>decide (a.length<=j)|_=>false):=by
   unfold ya bnd;cases h:kind a (a.length+3) 0 0 with
   |oof=>rfl
   |no g=>rfl
   |ok u j g=>
    simp only [Rs.andThen,bnd,fin];by_cases hj:j<a.length
    ·simp [hj,Rs.andThen]
    ·simp [hj,Rs.andThen,ret];omega
  have q:vY s=(ya a (kind a (a.length+3))&&decide (z6 a=s)):=by
   unfold vY;rw [c,U];simp [Z];rfl
  cases hk:ya a (kind a (a.length+3)) with
  |false=>
   rw [hk] at q;simp -implicitDefEqProofs [q];exact V
  |true=>
   rw [hk] at q hsm;have hv7:Own w.heap.size 53 3 w7 v (qH a):=Own.same Y fun k hk=>O.block k (by have:=(J.blk k hk).2;have:=K.size;have:=C.size;omega);simp -implicitDefEqProofs [q];refine (qow (SlK.own hv7 (by omega)) (qmY z) S).mono ?_;rintro _ w9 ⟨rfl,hE9⟩;simp -implicitDefEqProofs [r0];exact ⟨vv,V.trans' hE9⟩
 ·have t:vY s=false:=by
   unfold vY;split
   ·rename_i a cs h;have:¬s.length<=100:=fun h1=>b ⟨by rw [h];rfl,h1⟩;simp [this]
   ·rfl
  rw [t];have hor:((qC s).err=0->(100:Int)<s.length):=fun h=>by
   have:¬s.length<=100:=fun h1=>b ⟨h,h1⟩;omega
  by_cases E:(qC s).err=0
  ·have:=hor E;simp -implicitDefEqProofs [E,this];exact o
  ·simp -implicitDefEqProofs [E];exact o
end Go.L02
