/- Texts of mine for the claims about layer 2 (tree), joined: L02Ne, L02L11. -/
import Derived.Test.YtbcmiempigoooaaGreatDoorJbn
import Derived.Laws.Runes
set_option linter.all false
set_option linter.unusedSimpArgs false
set_option linter.unusedVariables false
namespace Go.L02
open Go Go.Eng Go.RowKit
open Go.Proofs hiding encI
open Go.L01 (Bs Tok encT retK_c1 Bd ifc20)
set_option maxRecDepth 100000
set_option maxHeartbeats 4000000
@[simp] theorem cbN44:callB Tryz.prog 44=true:=by kernel_rfl
@[simp] theorem cbN106:callB Tryz.prog 106=true:=by kernel_rfl
def Kp (b:Nat) (w w':World):Prop:=∀k cs T,T≠5→k≠b→Blk w k cs T→Blk w' k cs T
theorem b_checkK {w:World} {B b:Nat} {bs:List Value} (h:Lib.IsBuilder 114 5 B b bs w):
  Calls Tryz.prog 177 #[.pointer (some ⟨b,0,none⟩)] w fun e w'=>e= .returned (.tuple #[])∧Lib.BuilderAt 114 5 B b (.pointer (some ⟨b,0,none⟩)) bs w'∧Below B w w'∧Kp b w w':=by
 rcases h with h|h
 ·refine (L01.b_fresh b w h.cell0 h.shape h.frozen0).mono ?_
  rintro _ _ ⟨rfl,rfl⟩
  exact ⟨rfl,h.used _,(Below.refl B w).setCell (p:=⟨b,0,none⟩) h.1 _,fun k cs T _ hk hb=>(only_setCell w b 0 _).blk hb hk⟩
 ·refine (L01.b_used b w h.cell0).mono ?_
  rintro _ _ ⟨rfl,rfl⟩
  exact ⟨rfl,h,Below.refl B _,fun k cs T _ _ hb=>hb⟩
theorem Bd_ext {B b:Nat} {bs:Bs} {w w':World} (h:Bd B b bs w) (hE:Ext w w'):Bd B b bs w':=by
 rcases h with h|h
 all_goals
  have hlt:=h.lt
  obtain ⟨hB,v,hb,hown,hne⟩:=h
  have hr:w'.ownsRow B 5 1 v (bs.map encB).length (bs.map encB):=by
   have:=hown.kept (w':=w') (row:=none) ⟨hE.os,hE.tape,hE.output,hE.size,fun k hk _=>hE.block k hk⟩ (by cases v.ownBlock<;>simp)
   simpa using this
 ·exact .inl ⟨hB,v,(hE.block b hlt).trans hb,hr,hne⟩
 ·exact .inr ⟨hB,v,(hE.block b hlt).trans hb,hr,hne⟩
theorem Bd_lt {B b:Nat} {bs:Bs} {w:World} (h:Bd B b bs w):b<w.heap.size:=by
 rcases h with h|h<;>exact h.lt
theorem b_byteK {w:World} {B b:Nat} {bs:Bs} (c:UInt8) (h:Bd B b bs w) (hlen:bs.length≤100000000) (hBw:B≤w.heap.size):
  Calls Tryz.prog 106 #[.pointer (some ⟨b,0,none⟩),encB c] w fun e w'=>e= .returned .nilIface∧Bd B b (bs++[c]) w'∧Below B w w'∧Kp b w w':=by
 refine L01.ir106_calls fun ρ h0 h1=> ?_
 simp [L01.ir106,h0,L01.cb177]
 refine (b_checkK h).mono ?_
 rintro _ w1 ⟨rfl,⟨hB,v,hbk,hown,hne⟩,hb1,hkp⟩
 have hb:Blk w1 b #[.pointer (some ⟨b,0,none⟩),v] 114:=⟨hbk⟩
 simp [h0,h1,hb.cell]
 refine eff_lit L01.si67 (by decide) (by decide) (by simp [Value.cells,encB]) fun B2 W2 hB2 hE2 hb2 _=> ?_
 simp [Value.cells,encB] at hb2
 obtain ⟨i,hi,hz,hs,hby⟩:=L01.info5
 have hBs:=hb1.size
 have hlt:=hb.lt
 obtain ⟨v',W3,hr,hown3,hg3,_⟩:=run_append_own (P:=Tryz.prog) W2 B 112 112 5 i (.int .u8 0) 1 1 Tryz.underlying112 hi hz hs hby rfl (by decide) v bs.length (bs.map encB) (by
  have:=hown.kept (w':=W2) (row:=none) ⟨hE2.os,hE2.tape,hE2.output,hE2.size,fun k hk _=>hE2.block k hk⟩ (by cases v.ownBlock<;>simp)
  simpa using this) ⟨B2,0,none⟩ 1 1 [.int .u8 c.toNat] rfl (fun j u hj=>by
   match j,hj with
   |0,hj=>simp at hj;subst hj;simp [hb2.cell]) (fun u hu=>by simp at hu;subst hu;rfl) (by simp only [maxLen];omega) (by omega) (by have:=hE2.size;omega)
 have hown3':W3.ownsRow B 5 1 v' ((bs++[c]).map encB).length ((bs++[c]).map encB):=by simpa [encB] using hown3
 have hb3:Blk W3 b #[.pointer (some ⟨b,0,none⟩),v] 114:=⟨(hg3.block b (by have:=hE2.size;omega) (fun e=>hne e.symm)).trans ((hE2.block b hlt).trans hbk)⟩
 refine effE_ok (v:=v') (w':=W3) (by simp [execOp,effOp,resolve,invoke,builtin,hr]) ?_
 have hv1:v'.cells= #[v']∧v'.oneCell=true:=by
  rcases hown3'.2 with ⟨rfl,_⟩|⟨g,cap,cur,rfl,_⟩<;>exact ⟨rfl,rfl⟩
 simp
 refine eff_store1 (B:=b) (i:=1) (by simp) hb3 (by simp) (by simp;exact hv1.1) (by simp;exact hv1.2) L01.sz67 fun W4 hO4 hb4=> ?_
 simp at hb4⊢
 refine ⟨.inr (L01.put_at hB hb3 hown3' W4 hO4 hb4), ?_, ?_⟩
 ·have h2:Below B w W2:=Below.trans hb1 (hE2.mono (by omega))
  have h3:Below B w W3:=h2.grown hg3 (by have:=hE2.size;omega) fun k hk=>(hown.lt k hk).1
  exact Below.trans h3 (only_below hO4 hB)
 ·intro k cs T hT hk hbk0
  have g1:=hkp k cs T hT hk hbk0
  have g2:=g1.ext hE2
  have hnk:v.ownBlock≠some k:=Lib.ownBlock_ne hown g1.heap hT
  have g3:Blk W3 k cs T:=⟨(hg3.block k g2.lt (fun e=>hnk e.symm)).trans g2.heap⟩
  exact hO4.blk g3 hk
theorem b_strK {w:World} {B b:Nat} {bs:Bs} (s:Bs) (h:Bd B b bs w) (hlen:bs.length+s.length≤100000000) (hBw:B≤w.heap.size):
  Calls Tryz.prog 89 #[.pointer (some ⟨b,0,none⟩), .string (mkS s)] w fun e w'=>e= .returned (.tuple #[.int .i64 s.length, .nilIface])∧Bd B b (bs++s) w'∧Below B w w'∧Kp b w w':=by
 obtain ⟨v,hv⟩:∃v,BdV B b v bs w:=by
  rcases h with ⟨hB,v,hb,hr,hne⟩|⟨hB,v,hb,hr,hne⟩
  ·exact ⟨v,hB,⟨_, .inl rfl,⟨hb⟩⟩,by simpa using hr,hne⟩
  ·exact ⟨v,hB,⟨_, .inr rfl,⟨hb⟩⟩,by simpa using hr,hne⟩
 refine (b_strV s hv (by omega) hBw).mono ?_
 rintro _ w' ⟨rfl,v',hv',hB',hk,_⟩
 refine ⟨rfl,hv'.bd,hB',fun k cs T hT hkb hb=>⟨(hk k hb.lt hkb ?_).trans hb.heap⟩⟩
 exact Lib.ownBlock_ne hv.2.2.1 hb.heap hT
section
variable {P:Program} {Q:Ks} {d:Option Nat} {ty:TypeId} {K:Env→World→Prop} {ρ:Env} {w:World}
theorem eff_runeS {src dst:TypeId} {x:Operand} {k:IntKind} {n:Int} (hx:evE ρ x= .int k n) (hs:(P.underlying src).isSome=true) (hd:P.underlying dst=some .string) (h:K (updO ρ d (.string (Utf8.encode n))) w):effW P Q d (.convert src dst x) ty K ρ w:=
 effE_ok (v:= .string (Utf8.encode n)) (w':=w) (by simp [execOp,effOp,hx,run_convert_int_string w src dst k n hs hd]) h
end
def nibV (n:Int):Int:=IntKind.u8.wrap (IntKind.u8.wrap (IntKind.i64.wrap ↑((n%2^IntKind.i64.bits).toNat&&&15%2^IntKind.i64.bits))+97)
def nibC (n:Int):UInt8:=UInt8.ofNat (nibV n).toNat
theorem nib_enc (n:Int):Value.int .u8 (nibV n)=encB (nibC n):=by
 have h:0≤nibV n∧nibV n<256:=by
  unfold nibV
  generalize IntKind.u8.wrap (IntKind.i64.wrap ↑((n%2^IntKind.i64.bits).toNat&&&15%2^IntKind.i64.bits))+97=z
  simp only [IntKind.wrap,IntKind.signed,IntKind.bits]
  simp
  omega
 unfold encB nibC
 congr 1
 simp
 omega
def nibsF:Nat→Int→Bs
 |0,_=>[]
 |k+1,n=>if n=0 then [] else nibC n::nibsF k (IntKind.i64.wrap (n.tdiv 16))
theorem nibsF_len:∀(k:Nat) (n:Int),(nibsF k n).length≤k
 |0,_=>Nat.le_refl _
 |k+1,n=>by
  unfold nibsF
  split
  ·simp
  ·have:=nibsF_len k (IntKind.i64.wrap (n.tdiv 16));simp;omega
theorem enc_len (r:Int):(Utf8.encode r).size≤4:=by
 unfold Utf8.encode
 generalize (if Utf8.valid r=true then r.toNat else Utf8.runeError)=c
 show (if c<0x80 then (⟨#[UInt8.ofNat c]⟩:ByteArray) else if c<0x800 then ⟨#[UInt8.ofNat (0xC0+c / 64),UInt8.ofNat (0x80+c%64)]⟩ else if c<0x10000 then ⟨#[UInt8.ofNat (0xE0+c / 4096),UInt8.ofNat (0x80+c / 64%64),UInt8.ofNat (0x80+c%64)]⟩
  else ⟨#[UInt8.ofNat (0xF0+c / 262144),UInt8.ofNat (0x80+c / 4096%64),UInt8.ofNat (0x80+c / 64%64),UInt8.ofNat (0x80+c%64)]⟩).size≤4
 by_cases h1:c<0x80
 ·rw [if_pos h1];exact (by decide:1≤4)
 ·rw [if_neg h1]
  by_cases h2:c<0x800
  ·rw [if_pos h2];exact (by decide:2≤4)
  ·rw [if_neg h2]
   by_cases h3:c<0x10000
   ·rw [if_pos h3];exact (by decide:3≤4)
   ·rw [if_neg h3];exact (by decide:4≤4)
def kidV (k:Int):Int:=IntKind.i32.wrap (IntKind.i64.wrap (IntKind.i64.wrap ↑((k%2^IntKind.i64.bits).toNat&&&16383%2^IntKind.i64.bits)+64))
def encU (k:Int):Bs:=(Utf8.encode (kidV k)).data.toList
theorem encU_len (k:Int):(encU k).length≤4:=by
 have h:=enc_len (kidV k)
 unfold encU
 rw [Array.length_toList]
 exact h
theorem encU_mk (k:Int):Utf8.encode (IntKind.i32.wrap (IntKind.i64.wrap (IntKind.i64.wrap ↑((k%2^IntKind.i64.bits).toNat&&&16383%2^IntKind.i64.bits)+64)))=mkS (encU k):=(mkS_toList _).symm
def kidB (k:Int):Bs:=[44]++encU k
theorem flat_len5:∀l:List Int,(l.flatMap kidB).length≤5*l.length
 |[]=>by simp
 |k::l=>by
  have h1:=flat_len5 l
  have h2:=encU_len k
  rw [List.flatMap_cons,List.length_append]
  simp only [kidB,List.length_append,List.length_cons,List.length_nil] at h1⊢
  omega
def fmtH (x:Nd):Bs:=UInt8.ofNat x.d.kind::(x.d.name++124::(x.d.vr++124::(x.d.typ++[124])))
def fmt1 (x:Nd):Bs:=fmtH x++(nibsF 16 x.d.n++(x.kids.flatMap kidB++[10]))
def fmtP (l:List Nd):Bs:=l.flatMap fmt1
theorem fmtH_len {x:Nd} (h1:x.d.name.length≤40) (h2:x.d.vr.length≤110) (h3:x.d.typ.length≤110):(fmtH x).length≤264:=by simp [fmtH];omega
theorem fmtP_len:∀l:List Nd,(∀x∈l,x.d.name.length≤40∧x.d.vr.length≤110∧x.d.typ.length≤110∧x.kids.length≤420)→(fmtP l).length≤2400*l.length
 |[],_=>by simp [fmtP]
 |x::l,h=>by
  obtain ⟨h1,h2,h3,h4⟩:=h x (by simp)
  have ih:=fmtP_len l fun y hy=>h y (by simp [hy])
  have a:=fmtH_len h1 h2 h3
  have b:=nibsF_len 16 x.d.n
  have c:=flat_len5 x.kids
  have e:fmtP (x::l)=fmt1 x++fmtP l:=rfl
  rw [e,List.length_append]
  simp only [fmt1,List.length_append,List.length_cons,List.length_nil]
  omega
theorem nib_step {n:Int} {m:Nat} (hm:m<16) (h:n.natAbs<16^(m+1)):(IntKind.i64.wrap (n.tdiv 16)).natAbs<16^m:=by
 have h1:(n.tdiv 16).natAbs<16^m:=by
  rw [Int.natAbs_tdiv]
  rw [Nat.pow_succ] at h
  exact Nat.div_lt_of_lt_mul (by rw [Nat.mul_comm];exact h)
 have h2:16^m≤16^15:=Nat.pow_le_pow_right (by decide) (by omega)
 have h3:(n.tdiv 16).natAbs<1152921504606846976:=Nat.lt_of_lt_of_le h1 h2
 rw [i64w (by omega)]
 exact h1
section
variable {w:World} {lv:Value} {xs:List NV}
theorem p_fmt (hR:Rd w lv xs) (hlen:xs.length≤410) (hk:∀x∈xs,x.nd.kids.length≤420) (hi64:∀x∈xs, -9223372036854775808≤x.nd.d.n∧x.nd.d.n≤9223372036854775807) (hd:∀x∈xs,x.nd.d.kind<256∧x.nd.d.name.length≤40∧x.nd.d.vr.length≤110∧x.nd.d.typ.length≤110):
  Calls Tryz.prog 44 #[lv] w fun e w'=>e= .returned (.string (mkS (fmtP (xs.map (·.nd)))))∧Ext w w':=by
 have hl:=hR.len
 have his:=hR.cells.is
 generalize hRR:(fun (e:Ending) (w':World)=>e= .returned (.string (mkS (fmtP (xs.map (·.nd)))))∧Ext w w')=R
 refine ir44_calls fun ρ r0=> ?_
 simp -implicitDefEqProofs [ir44]
 refine eff_alloc z114 fun O w1 hO hE1 hb1 _=> ?_
 simp -implicitDefEqProofs [r0,his,hl]
 have hbd:Bd w.heap.size O [] w1:= .inl ⟨hO, .slice none 0 0,hb1.heap,⟨rfl, .inl ⟨rfl,rfl⟩⟩,by simp⟩
 obtain ⟨I,hI⟩:∃I:Nat→Env→World→Prop,∀j ρ' w',I j ρ' w'↔(ρ' 3= .pointer (some ⟨O,0,none⟩)∧ρ' 9=lv∧ρ' 10= .int .i64 (xs.length:Int)∧Ext w w'∧Bd w.heap.size O (fmtP ((xs.take j).map (·.nd))) w'):=⟨_,fun _ _ _=>Iff.rfl⟩
 refine loopC 11 xs.length I (by simp) ((hI _ _ _).2 ⟨by simp,by simp,by simp,hE1,by simpa [fmtP] using hbd⟩) ?_
 clear r0
 rintro j ρ' w' hj rj hIw
 obtain ⟨r3,r9,r10,hE,hB⟩:=(hI _ _ _).1 hIw
 have hwj:IntKind.i64.wrap ((j:Int)+1)=(j:Int)+1:=i64w (by omega)
 by_cases hlt:j<xs.length
 ·have hlt':(j:Int)<(xs.length:Int):=by omega
  have hR':=hR.ext hE
  have hrow:=hR'.row hlt
  have hkc:=hR.kids xs[j] (List.getElem_mem _)
  have hkl:=hk xs[j] (List.getElem_mem _)
  have hdd:=hd xs[j] (List.getElem_mem _)
  have hnn:=hi64 xs[j] (List.getElem_mem _)
  have hfl:(fmtP ((xs.take j).map (·.nd))).length≤1000000:=by
   have:=fmtP_len ((xs.take j).map (·.nd)) fun y hy=>by
    obtain ⟨z,hz,rfl⟩:=List.mem_map.1 hy
    have hzx:=List.mem_of_mem_take hz
    exact ⟨(hd z hzx).2.1,(hd z hzx).2.2.1,(hd z hzx).2.2.2,hk z hzx⟩
   simp only [List.length_map,List.length_take] at this
   omega
  have hOl:=Bd_lt hB
  have htk:xs.take (j+1)=xs.take j++[xs[j]]:=List.take_succ_eq_append_getElem hlt
  generalize xs[j]=x at hrow hkc hkl hdd hnn htk
  have hca:=isSl_cells hkc.is
  have hoa:=isSl_one hkc.is
  have hka:slLen x.kv=x.nd.kids.length:=by simpa using hkc.len.symm
  simp -implicitDefEqProofs [ir44_l10,rj,r10,hlt',hlt,ir44_k9,r9,his,hl,hrow]
  refine eff_alloc z44' fun X w3 hX hE3 hb3 _=> ?_
  simp -implicitDefEqProofs
  refine eff_storeN (B:=X) (by simp) hb3 (by simp [Value.cells,ndV,hca]) (by simp [Value.cells,ndV,hca,hoa]) (by simpa [Value.cells,ndV,hca] using sz44) fun w4 hO4 hb4=> ?_
  have hE4:Ext w' w4:=hO4.ext hE3 hX
  have hb4':Blk w4 X (ndV x).toArray 44:=by simpa [Value.cells,ndV,hca] using hb4
  have cX:∀{W:World},Blk W X (ndV x).toArray 44→∀q,W.cell? ⟨X,q,none⟩=(ndV x)[q]? :=fun h q=>by rw [h.cell];simp
  simp -implicitDefEqProofs [cX hb4',ndV]
  refine eff_lit L01.si67 (by decide) (by decide) (by simp [Value.cells]) fun K w5 hK hE5 hb5 _=> ?_
  simp [Value.cells] at hb5
  have hb5':Blk w5 K #[encB (UInt8.ofNat x.nd.d.kind)] 5:=blk_cast hb5 (by simp [encB];omega)
  have hsl:Sl encB w5 (.slice (some ⟨K,0,none⟩) 1 1) [UInt8.ofNat x.nd.d.kind]:=⟨by simp [isSl],rfl,by simp,fun i hi=>by
   simp at hi;subst hi
   simp only [slAddr];rw [hb5'.cell];rfl⟩
  have hbX5:=hb4'.ext hE5
  have hb2:=b2s_of hsl
  have e124:(⟨#[124]⟩:ByteArray)=mkS [124]:=rfl
  simp -implicitDefEqProofs (disch:=((try simp only [List.length_append,List.length_cons,List.length_nil]);omega)) [-strBin,strAddW,litS,hb2,cX hbX5,ndV,e124,r3]
  refine (b_strK _ (Bd_ext hB (hE4.trans' hE5)) ?_ ?_).mono ?_
  ·simp only [List.length_append,List.length_cons,List.length_nil];omega
  ·exact (hE.trans' (hE4.trans' hE5)).size
  rintro _ w6 ⟨rfl,hB6,hBl6,hKp6⟩
  have hXO:X≠O:=by have:=hE3.size;omega
  have hbX6:=hKp6 X _ 44 (by decide) hXO hbX5
  simp -implicitDefEqProofs [cX hbX6,ndV]
  obtain ⟨pre1,hpre1⟩:∃p,p=fmtP ((xs.take j).map (·.nd))++fmtH x.nd:=⟨_,rfl⟩
  have hpre1':pre1=fmtP ((xs.take j).map (·.nd))++UInt8.ofNat x.nd.d.kind::(x.nd.d.name++124::(x.nd.d.vr++124::(x.nd.d.typ++[124]))):=hpre1
  rw [←hpre1'] at hB6
  have hpl0:pre1.length≤1000300:=by rw [hpre1'];simp only [List.length_append,List.length_cons,List.length_nil];omega
  have hpl:(pre1++nibsF 16 x.nd.d.n).length≤1000316:=by have:=nibsF_len 16 x.nd.d.n;simp only [List.length_append];omega
  obtain ⟨J,hJ⟩:∃J:Nat→Env→World→Prop,∀m ρ2 w7,J m ρ2 w7↔∃(n:Int) (bs:Bs),ρ2 3= .pointer (some ⟨O,0,none⟩)∧ρ2 5= .pointer (some ⟨X,0,none⟩)∧ρ2 6= .int .i64 n∧ρ2 9=lv∧ρ2 10= .int .i64 (xs.length:Int)∧ρ2 11= .int .i64 (j:Int)∧Ext w w7∧Bd w.heap.size O bs w7∧Blk w7 X (ndV x).toArray 44∧m≤16∧bs.length≤10000000∧n.natAbs<16^m∧bs++nibsF m n=pre1++nibsF 16 x.nd.d.n:=⟨_,fun _ _ _=>Iff.rfl⟩
  refine loopM J 16 ((hJ _ _ _).2 ⟨x.nd.d.n,pre1,by simp [r3],by simp,by simp,by simp [r9],by simp [r10],by simp [rj],Below.trans (hE.trans' (hE4.trans' hE5)) hBl6,hB6,hbX6,by omega,by omega,by simp only [Nat.reducePow];omega,rfl⟩) ?_
  clear r3 r9 r10
  rintro m ρ2 w7 hJw
  obtain ⟨n,bs,s3,s5,s6,s9,s10,s11,hE7,hB7,hbX7,hm,hbl,hnl,hbs⟩:=(hJ _ _ _).1 hJw
  by_cases hn:n=0
  ·have hbs':bs=pre1++nibsF 16 x.nd.d.n:=by
    rw [←hbs]
    cases m with
    |zero=>simp [nibsF]
    |succ m=>simp [nibsF,hn]
   simp -implicitDefEqProofs [ir44_l2,s6,hn,ir44_k7,s5,cX hbX7,ndV,hkc.is,hka]
   obtain ⟨pre2,hpre2⟩:∃p,p=pre1++nibsF 16 x.nd.d.n:=⟨_,rfl⟩
   rw [hbs',←hpre2] at hB7
   rw [←hpre2] at hpl
   obtain ⟨Z,hZ⟩:∃Z:Nat→Env→World→Prop,∀q ρ' w',Z q ρ' w'↔(ρ' 3= .pointer (some ⟨O,0,none⟩)∧ρ' 9=lv∧ρ' 10= .int .i64 (xs.length:Int)∧ρ' 11= .int .i64 (j:Int)∧ρ' 44=x.kv∧ρ' 45= .int .i64 (x.nd.kids.length:Int)∧Ext w w'∧Bd w.heap.size O (pre2++(x.nd.kids.take q).flatMap kidB) w'):=⟨_,fun _ _ _=>Iff.rfl⟩
   refine loopC 46 x.nd.kids.length Z (by simp) ((hZ _ _ _).2 ⟨by simp [s3],by simp [s9],by simp [s10],by simp [s11],by simp,by simp,hE7,by simpa using hB7⟩) ?_
   clear s3 s5 s6 s9 s10 s11
   rintro q ρ3 w8 hq rq hZw
   obtain ⟨t3,t9,t10,t11,t44,t45,hE8,hB8⟩:=(hZ _ _ _).1 hZw
   have hwq:IntKind.i64.wrap ((q:Int)+1)=(q:Int)+1:=i64w (by omega)
   by_cases hqt:q<x.nd.kids.length
   ·have hqt':(q:Int)<(x.nd.kids.length:Int):=by omega
    have ca:=(hkc.ext hE8).cell q (by simpa using hqt)
    simp only [List.getElem_map,encI] at ca
    simp -implicitDefEqProofs [ir44_l5,rq,t45,hqt',hqt,ir44_k4,t44,hkc.is,hka,ca]
    refine eff_runeS (k:= .i32) (by simp;rfl) (by kernel_rfl) (by kernel_rfl) ?_
    rw [encU_mk]
    have e44:(⟨#[44]⟩:ByteArray)=mkS [44]:=rfl
    have hel:=encU_len x.nd.kids[q]
    simp -implicitDefEqProofs (disch:=((try simp only [List.length_append,List.length_cons,List.length_nil]);omega)) [-strBin,strAddW,e44,t3]
    have hlen8:=flat_len5 (x.nd.kids.take q)
    have hlq:(x.nd.kids.take q).length≤420:=by simp;omega
    refine (b_strK (44::encU x.nd.kids[q]) hB8 (by simp only [List.length_append,List.length_cons];omega) hE8.size).mono ?_
    rintro _ w9 ⟨rfl,hB9,hBl9,_⟩
    simp -implicitDefEqProofs [ir44_k3,rq,hwq,hqt]
    refine (hZ _ _ _).2 ⟨by simp [t3],by simp [t9],by simp [t10],by simp [t11],by simp [t44],by simp [t45],Below.trans hE8 hBl9, ?_⟩
    rw [List.take_succ_eq_append_getElem hqt,List.flatMap_append,←List.append_assoc]
    simpa [kidB] using hB9
   ·have hqt':¬(q:Int)<(x.nd.kids.length:Int):=by omega
    rw [List.take_of_length_le (by omega)] at hB8
    simp -implicitDefEqProofs [ir44_l5,rq,t45,hqt',hqt,ir44_k6,t3]
    have hlen8:=flat_len5 x.nd.kids
    refine (b_byteK 10 hB8 (by simp only [List.length_append];omega) hE8.size).mono ?_
    rintro _ w9 ⟨rfl,hB9,hBl9,_⟩
    simp -implicitDefEqProofs [ir44_k8,t11,hwj,hlt]
    refine (hI _ _ _).2 ⟨by simp [t3],by simp [t9],by simp [t10],Below.trans hE8 hBl9, ?_⟩
    rw [htk]
    have e:fmtP ((xs.take j++[x]).map (·.nd))=pre2++x.nd.kids.flatMap kidB++[10]:=by
     rw [hpre2,hpre1]
     simp [fmtP,fmt1]
    rw [e];exact hB9
  ·cases m with
   |zero=>simp at hnl;exact absurd hnl hn
   |succ m=>
   simp -implicitDefEqProofs [ir44_l2,s6,hn,ir44_k1,s3]
   rw [show IntKind.u8.wrap (IntKind.u8.wrap (IntKind.i64.wrap ↑((n%2^IntKind.i64.bits).toNat&&&15%2^IntKind.i64.bits))+97)=nibV n from rfl,nib_enc]
   refine (b_byteK (nibC n) hB7 (by omega) hE7.size).mono ?_
   rintro _ w8 ⟨rfl,hB8,hBl8,hKp8⟩
   simp -implicitDefEqProofs [ir44_k0,s6]
   refine ⟨m,by omega,(hJ _ _ _).2 ⟨_,bs++[nibC n],by simp [s3],by simp [s5],by simp,by simp [s9],by simp [s10],by simp [s11],Below.trans hE7 hBl8,hB8,hKp8 X _ 44 (by decide) hXO hbX7,by omega, ?_,nib_step (by omega) hnl, ?_⟩⟩
   ·rw [←hbs] at hpl;simp only [List.length_append,List.length_cons,List.length_nil,nibsF,if_neg hn] at hpl⊢;omega
   ·rw [←hbs,nibsF,if_neg hn]
    simp
 ·have hlt':¬(j:Int)<(xs.length:Int):=by omega
  rw [List.take_of_length_le (by omega)] at hB
  simp -implicitDefEqProofs [ir44_l10,rj,r10,hlt',hlt,ir44_k11,r3]
  refine (L01.b_string hB (hE.size)).mono ?_
  rintro _ w3 ⟨rfl,hB3⟩
  simp -implicitDefEqProofs
  rw [←hRR]
  exact ⟨rfl,Below.trans hE hB3⟩
end
end Go.L02
namespace Go.L02
open Go Go.Eng Go.RowKit
open Go.Proofs hiding encI
open Go.L01 (Bs Tok encT)
set_option maxRecDepth 100000
set_option maxHeartbeats 4000000
theorem graft_own {l:List Nd} {i:Nat} {u:T} (h:AtT l i u):graftO l i (u.flat 0)=l:=by
 unfold graftO graftL
 rw [subAt_eq h,T.flat_len]
 have hcut:=h.cut
 obtain ⟨pre,post,hl,h2⟩:=h
 have hs:=u.size_pos
 have e1:i+1 - u.size=pre.length:=by omega
 rw [e1] at hcut⊢
 have h3:=flat_shift u 0 pre.length
 rw [Nat.zero_add] at h3
 rw [h3,h2]
 have a1:l.take pre.length=pre:=by rw [hl];simp
 have a2:l.drop (pre.length+u.size)=post:=by rw [hl,←List.append_assoc,List.drop_append_of_le_length (by rw [List.length_append,T.flat_len];exact Nat.le_refl _),List.drop_eq_nil_of_le (by rw [List.length_append,T.flat_len];exact Nat.le_refl _)];rfl
 rw [a1,a2]
 have b1:pre.map (shN fun k=>k)=pre:=by
  conv=>rhs;rw [←List.map_id pre]
  exact List.map_congr_left fun x _=>shN_id fun _ _=>rfl
 have b2:post.map (shN (moved pre.length u.size u.size))=post:=by
  conv=>rhs;rw [←List.map_id post]
  exact List.map_congr_left fun x _=>shN_id fun k _=>by unfold moved;split<;>omega
 rw [b1,b2,←hl]
theorem nok_sub {l:List Nd} {i:Nat} {u:T} (h:AtT l i u) (hok:NOk l):NOk (u.flat 0):=by
 have hm:∀x∈u.flat 0,∃z∈l,x.d=z.d∧x.kids.length=z.kids.length:=fun x hx=>by
  rw [←flat_unshift u (i+1 - u.size),←h.cut] at hx
  obtain ⟨z,hz,rfl⟩:=List.mem_map.1 hx
  exact ⟨z,List.mem_of_mem_take (List.mem_of_mem_drop hz),rfl,by simp [shN]⟩
 refine ⟨fun x hx=> ?_,fun x hx=> ?_⟩
 ·obtain ⟨z,hz,e,_⟩:=hm x hx
  rw [e];exact hok.1 z hz
 ·obtain ⟨z,hz,_,e⟩:=hm x hx
  rw [e];exact hok.2 z hz
section
variable {P:Program} {Q:Ks} {d:Option Nat} {ty:TypeId} {K:Env→World→Prop} {ρ:Env} {w:World}
theorem eff_storeO2 {t:TypeId} {p x:Operand} {base e sz:Nat} {sv:Value} {xs:List Value} {i:Nat} (hown:Own base e sz w sv xs) (hi:i<xs.length) (hp:evE ρ p= .pointer (some (slAddr sv i)))
  (hx:(evE ρ x).cells= #[evE ρ x]) (h1:(evE ρ x).oneCell=true) (hs:sizeIs P t 1=true) (h:∀W B cur q,sv.ownBlock=some B→base≤B→Only B w W→w.heap[B]? =some (.cells cur e (0,0))→W.heap[B]? =some (.cells (cur.setIfInBounds q (evE ρ x)) e (0,0))→K (updO ρ d undef) W):effW P Q d (.store t p x) ty K ρ w:=by
 rcases hown with ⟨rfl,rfl⟩|⟨g,off,n,cap,cur,rfl,hb,hg,hn,hnc,hm,hcs,ht⟩
 ·simp at hi
 ·have hmul:n*sz≤cap*sz:=Nat.mul_le_mul_right _ hnc
  have hb0:Blk w g cur e:=⟨hg⟩
  simp only [slAddr,add_lit] at hp
  refine eff_store1 (B:=g) (i:=off+i) hp hb0 (by omega) hx h1 hs fun W hO hB=> ?_
  refine h W g cur (off+i) rfl hb hO hg ?_
  rw [Array.setIfInBounds,dif_pos (by omega)]
  exact hB.heap
theorem eff_storeNO {t:TypeId} {p x:Operand} {base e sz:Nat} {sv:Value} {xs vs:List Value} {i:Nat} (hown:Own base e sz w sv xs) (hv:(evE ρ x).cells.toList=vs) (hi:i+vs.length≤xs.length) (h0:0<vs.length) (hp:evE ρ p= .pointer (some (slAddr sv i)))
  (h1:∀v∈vs,v.oneCell=true) (hs:sizeIs P t vs.length=true) (h:∀W B,sv.ownBlock=some B→base≤B→Only B w W→Own base e sz W sv (xs.take i++vs++xs.drop (i+vs.length))→K (updO ρ d undef) W):effW P Q d (.store t p x) ty K ρ w:=by
 rcases hown with ⟨rfl,rfl⟩|⟨g,off,n,cap,cur,rfl,hb,hg,hn,hnc,hm,hcs,ht⟩
 ·have:=hi;simp only [List.length_nil] at this;omega
 ·have hmul:n*sz≤cap*sz:=Nat.mul_le_mul_right _ hnc
  have hb0:Blk w g cur e:=⟨hg⟩
  have hl:(evE ρ x).cells.size=vs.length:=by rw [←hv,Array.length_toList]
  simp only [slAddr] at hp
  show sizeIs P t (evE ρ x).cells.size=true∧ptrK (evE ρ p) _
  rw [hp,hl]
  refine ⟨hs, ?_⟩
  show storesW ⟨g,off+i,none⟩ (evE ρ x).cells.toList 0 _ w
  rw [hv]
  refine storesW_shift vs 0 w ?_
  rw [Nat.add_zero]
  refine storesW_blk vs (off+i) w cur hb0 (by omega) h1 fun W hO hB=> ?_
  refine h W g rfl hb hO (.inr ⟨g,off,n,cap,_,rfl,hb,hB.heap, ?_,hnc,hm, ?_, ?_⟩)
  ·simp;omega
  ·simp;omega
  ·have hd:(cur.toList.take (off+i)++vs++cur.toList.drop (off+i+vs.length)).drop off=(cur.toList.drop off).take i++(vs++(cur.toList.drop off).drop (i+vs.length)):=by
    rw [List.append_assoc,List.drop_append_of_le_length (by simp;omega),List.drop_take,List.drop_drop,show off+i - off=i by omega,Nat.add_assoc off i]
   simp only
   rw [hd,←ht]
   have hlen:i≤(cur.toList.drop off).length:=by simp;omega
   rw [List.take_append,List.take_append,List.length_take,Nat.min_eq_left hlen,List.take_of_length_le (l:=(cur.toList.drop off).take i) (by rw [List.length_take];omega),List.take_of_length_le (l:=vs) (by omega),List.take_take,Nat.min_eq_left (by omega),List.drop_take,List.append_assoc]
   congr 3;omega
end
theorem own_any {b B:Nat} {w W:World} {v:Value} {ks:List Int} {q:Nat} {z:Int} {cur:Array Value} (h:Own b 3 1 w v (ks.map encI)) (hO:Only B w W) (hc:w.heap[B]? =some (.cells cur 3 (0,0))) (hW:W.heap[B]? =some (.cells (cur.setIfInBounds q (encI z)) 3 (0,0))):
  ∃ks':List Int,ks'.length=ks.length∧Own b 3 1 W v (ks'.map encI):=by
 rcases h with ⟨rfl,h0⟩|⟨g,off,n,cap,cur',rfl,hb,hg,hn,hnc,hm,hcs,ht⟩
 ·have:ks=[]:=by simpa using h0
  exact ⟨[],by rw [this], .inl ⟨rfl,rfl⟩⟩
 ·by_cases hgB:g=B
  ·subst hgB
   rw [hc] at hg
   cases hg
   have hn':ks.length=n:=by simpa using hn
   by_cases hq:q<off
   ·refine ⟨ks,rfl, .inr ⟨g,off,n,cap,_,rfl,hb,hW,hn,hnc,hm,by simpa using hcs, ?_⟩⟩
    rw [Array.toList_setIfInBounds,List.drop_set_of_lt hq];exact ht
   ·refine ⟨ks.set (q - off) z,by simp, .inr ⟨g,off,n,cap,_,rfl,hb,hW,by simpa using hn',hnc,hm,by simpa using hcs, ?_⟩⟩
    rw [Array.toList_setIfInBounds,show q=off+(q - off) by omega,←List.set_drop,List.take_set,ht,List.map_set]
    congr 1;omega
  ·exact ⟨ks,rfl, .inr ⟨g,off,n,cap,cur',rfl,hb,(hO.block g hgB).trans hg,hn,hnc,hm,hcs,ht⟩⟩
def Loose (base:Nat) (W:World) (v:Value) (N:Nat) (kvs:List Value):Prop:=∃zs:List NV,OwnN base W v zs∧zs.length=N∧zs.map (·.kv)=kvs∧∀z∈zs,z.nd.kids.length≤1000000
theorem Loose.store {base B:Nat} {w W:World} {v:Value} {N q:Nat} {z:Int} {kvs:List Value} {cur:Array Value} (h:Loose base w v N kvs) (hO:Only B w W) (hc:w.heap[B]? =some (.cells cur 3 (0,0))) (hW:W.heap[B]? =some (.cells (cur.setIfInBounds q (encI z)) 3 (0,0))):Loose base W v N kvs:=by
 obtain ⟨zs,hz,hl,hk,hb⟩:=h
 have hrow:Own base 44 6 W v (nvV zs):=L01.Own.same hz.own fun k hk=>hO.block k fun e=>by
  obtain ⟨c,hcc⟩:=Own.row hz.own hk
  rw [e,hc] at hcc
  cases hcc
 have key:∀zs:List NV,(∀y∈zs,Own base 3 1 w y.kv (y.nd.kids.map encI))→(∀y∈zs,y.nd.kids.length≤1000000)→∃ys:List NV,nvV ys=nvV zs∧ys.length=zs.length∧ys.map (·.kv)=zs.map (·.kv)∧(∀y∈ys,Own base 3 1 W y.kv (y.nd.kids.map encI))∧∀y∈ys,y.nd.kids.length≤1000000:=by
  intro zs
  induction zs with
  |nil=>exact fun _ _=>⟨[],rfl,rfl,rfl,fun y hy=>(by cases hy),fun y hy=>(by cases hy)⟩
  |cons y zs ih=>
   intro h1 h2
   obtain ⟨ys,e1,e2,e3,e4,e5⟩:=ih (fun y hy=>h1 y (by simp [hy])) fun y hy=>h2 y (by simp [hy])
   obtain ⟨ks',hkl,hko⟩:=own_any (h1 y (by simp)) hO hc hW
   refine ⟨⟨⟨y.nd.d,ks'⟩,y.kv⟩::ys, ?_,by simp [e2],by simp [e3],fun x hx=> ?_,fun x hx=> ?_⟩
   ·show ndV _++nvV ys=ndV y++nvV zs
    rw [e1];rfl
   ·rcases List.mem_cons.1 hx with rfl|hx
    ·exact hko
    ·exact e4 x hx
   ·rcases List.mem_cons.1 hx with rfl|hx
    ·show ks'.length≤_
     rw [hkl];exact h2 y (by simp)
    ·exact e5 x hx
 obtain ⟨ys,e1,e2,e3,e4,e5⟩:=key zs hz.kid hb
 exact ⟨ys,⟨by rw [e1];exact hrow,e4⟩,by omega,by rw [e3,hk],e5⟩
def ndZ:NV:=⟨⟨{kind:=0},[]⟩, .slice none 0 0⟩
theorem Loose.zero {base B:Nat} {w W:World} {v:Value} {N j:Nat} {zs:List NV} (hz:OwnN base w v zs) (hl:zs.length=N) (hb:∀z∈zs,z.nd.kids.length≤1000000) (hj:j<N) (hB:v.ownBlock=some B) (hO:Only B w W)
  (ho:Own base 44 6 W v ((nvV zs).take (j*6)++ndV ndZ++(nvV zs).drop (j*6+6))):∃kvs,Loose base W v N kvs:=by
 refine ⟨(zs.set j ndZ).map (·.kv),zs.set j ndZ,⟨?_,fun y hy=> ?_⟩,by simpa using hl,rfl,fun y hy=> ?_⟩
 ·have e:nvV (zs.set j ndZ)=(nvV zs).take (j*6)++ndV ndZ++(nvV zs).drop (j*6+6):=by
   rw [nvV_take,show j*6+6=(j+1)*6 by omega,nvV_drop,List.set_eq_take_append_cons_drop,if_pos (by omega),nvV_append]
   show _++(ndV ndZ++nvV _)=_
   simp
  rw [e];exact ho
 ·rcases List.mem_or_eq_of_mem_set hy with hy|rfl
  ·refine L01.Own.same (hz.kid y hy) fun k hk2=>hO.block k fun e=> ?_
   obtain ⟨c,hc⟩:=Own.row hz.own hB
   obtain ⟨c',hc'⟩:=Own.row (hz.kid y hy) hk2
   rw [e,hc] at hc'
   cases hc'
  ·exact Own.nil _ _ _ _
 ·rcases List.mem_or_eq_of_mem_set hy with hy|rfl
  ·exact hb y hy
  ·simp [ndZ]
theorem bu44:Tryz.prog.built 44 []=some #[.int .u8 0, .string ⟨#[]⟩, .string ⟨#[]⟩, .string ⟨#[]⟩, .int .i64 0, .slice none 0 0]:=by kernel_rfl
theorem law11 {w:World} {lv:Value} {xs:List NV} (i:Int) (hG:L01.G w) (hM:MaxL w) (hR:Rd w lv xs) (hlen:xs.length<4611686018427387904) (hk8:∀x∈xs,x.nd.d.kind<256) (hkl:∀x∈xs,x.nd.kids.length<4611686018427387904)
  (hi64:∀x∈xs, -9223372036854775808≤x.nd.d.n∧x.nd.d.n≤9223372036854775807):Calls Tryz.prog 11 #[lv, .int .i64 i] w (okR w):=by
 have hl:=hR.len
 have his:=hR.cells.is
 generalize hRR:okR w=R
 have rd:∀{W:World},Ext w W→Calls Tryz.prog 14 #[] W fun e w'=>e= .returned (.bool true)∧Ext W w':=fun {W} hE=>(x_read (hG.ext hE) (hM.ext hE)).mono fun e w' h=>⟨h.1,h.2⟩
 refine ir11_calls fun ρ r0 r1=> ?_
 simp -implicitDefEqProofs [ir11,r0]
 refine (p_few hR hlen hkl).mono ?_
 rintro _ w1 ⟨rfl,hE1⟩
 cases hf:fewB (xs.map (·.nd)) with
 |false=>
  simp -implicitDefEqProofs
  refine (rd hE1).mono ?_
  rintro _ w2 ⟨rfl,hE2⟩
  simp -implicitDefEqProofs
  rw [←hRR]
  exact ⟨rfl,hE1.trans' hE2⟩
 |true=>
 have hnok:NOk (xs.map (·.nd)):=few_nok hf fun x hx=>by obtain ⟨y,hy,rfl⟩:=List.mem_map.1 hx;exact hk8 y hy
 have h410:=few_len hf
 rw [List.length_map] at h410
 have hsm:∀x∈xs,x.nd.d.name.length≤40∧x.nd.d.vr.length≤110∧x.nd.d.typ.length≤110∧x.nd.kids.length≤420:=fun x hx=>by
  have:=few_all hf x.nd (List.mem_map.2 ⟨x,hx,rfl⟩)
  simp only [ndSm,Bool.and_eq_true,decide_eq_true_eq] at this
  exact ⟨this.1.1.1,this.1.1.2,this.1.2,this.2⟩
 have fm:∀{W:World},Ext w W→Calls Tryz.prog 44 #[lv] W fun e w'=>e= .returned (.string (mkS (fmtP (xs.map (·.nd)))))∧Ext W w':=fun {W} hE=>
  p_fmt (hR.ext hE) h410 (fun x hx=>(hsm x hx).2.2.2) hi64 fun x hx=>⟨hk8 x hx,(hsm x hx).1,(hsm x hx).2.1,(hsm x hx).2.2.1⟩
 simp -implicitDefEqProofs [ir11_k8,r0,r1]
 refine (fm hE1).mono ?_
 rintro _ w2 ⟨rfl,hE2⟩
 have hE02:=hE1.trans' hE2
 simp -implicitDefEqProofs [r0,r1]
 refine (p_Subtree (hG.ext hE02) (hM.ext hE02) (hR.ext hE02) hnok i).mono ?_
 rintro _ w3 ⟨av,ys,rfl,hys,hE3,hy0,hy1⟩
 have hE03:=hE02.trans' hE3
 have hysok:NOk (ys.map (·.nd)):=by
  by_cases hb:bodyE (xs.map (·.nd)) i=0
  ·obtain ⟨_,_,_,_,t,u,_,_,_,hu⟩:=bodyE_tree hb
   rw [hy1 hb u hu];exact nok_sub hu hnok
  ·rw [hy0 hb];exact ⟨fun x hx=>(by cases hx),fun x hx=>(by cases hx)⟩
 have hysl:ys.length≤1000000:=by
  by_cases hb:bodyE (xs.map (·.nd)) i=0
  ·obtain ⟨_,_,_,_,t,u,_,_,_,hu⟩:=bodyE_tree hb
   have h1:=congrArg List.length (hy1 hb u hu)
   rw [List.length_map,T.flat_len] at h1
   have h2:=hu.le
   have h3:=hu.lt
   rw [List.length_map] at h3
   omega
  ·rw [hy0 hb];simp
 have hgr:bodyE (xs.map (·.nd)) i=0→graftE (xs.map (·.nd)) i (ys.map (·.nd))=0:=fun hb=>by
  obtain ⟨hc,_,_,_,t,u,ht,_,_,hu⟩:=bodyE_tree hb
  have h1:=hy1 hb u hu
  unfold graftE
  rw [if_neg (fun h=>h hb),h1,postorder_flat,if_neg (by decide),graft_own hu,hc]
  rfl
 simp -implicitDefEqProofs [r0,r1]
 refine (p_Graft (hG.ext hE03) (hM.ext hE03) (hR.ext hE03) hnok hys.rd hysok hysl i).mono ?_
 rintro _ w4 ⟨bv,zs,rfl,hzs,hE4,hz1⟩
 have hE04:=hE03.trans' hE4
 have hzt:zs.length≤400∧∀z∈zs,z.nd.kids.length≤1000000:=by
  by_cases hg:graftE (xs.map (·.nd)) i (ys.map (·.nd))=0
  ·rw [if_pos hg] at hz1
   have hc:checkNodes (graftO (xs.map (·.nd)) i.toNat (ys.map (·.nd)))=true:=by
    unfold graftE at hg
    split at hg
    ·rename_i h;exact absurd hg h
    ·split at hg
     ·cases hg
     ·unfold codeOf at hg
      split at hg
      ·assumption
      ·cases hg
   obtain ⟨t,ht,h400⟩:=check_tree hc
   rw [←hz1] at ht
   refine ⟨by have:=congrArg List.length ht;rw [List.length_map,T.flat_len] at this;omega,fun z hz=> ?_⟩
   have:=T.kids_le t 0 z.nd (by rw [←ht];exact List.mem_map.2 ⟨z,hz,rfl⟩)
   omega
  ·rw [if_neg hg] at hz1
   have:zs=[]:=List.map_eq_nil_iff.1 hz1
   rw [this];exact ⟨by simp,by simp⟩
 have hL0:Loose w3.heap.size w4 bv zs.length (zs.map (·.kv)):=⟨zs,hzs,rfl,rfl,hzt.2⟩
 have hisz:=hzs.own.isl
 have hlz:slLen bv=zs.length:=hzs.rd.len
 obtain ⟨E,hEE⟩:∃E,E=graftE (xs.map (·.nd)) i (ys.map (·.nd)):=⟨_,rfl⟩
 rw [←hEE] at hgr⊢
 clear hz1 hEE
 obtain ⟨N,hN⟩:∃N,N=zs.length:=⟨_,rfl⟩
 rw [←hN] at hL0 hlz hzt
 simp -implicitDefEqProofs [hisz,hlz]
 obtain ⟨J,hJ⟩:∃J:Nat→Env→World→Prop,∀j ρ' w',J j ρ' w'↔(ρ' 0=lv∧ρ' 1= .int .i64 i∧ρ' 5= .string (mkS (fmtP (xs.map (·.nd))))∧ρ' 6=av∧ρ' 7= .int .i64 (bodyE (xs.map (·.nd)) i)∧ρ' 8=bv∧ρ' 9= .int .i64 E∧ρ' 34= .int .i64 (N:Int)∧Ext w3 w'∧∃kvs,Loose w3.heap.size w' bv N kvs):=⟨_,fun _ _ _=>Iff.rfl⟩
 refine loopC 35 N J (by simp) ((hJ _ _ _).2 ⟨by simp [r0],by simp [r1],by simp,by simp,by simp,by simp,by simp,by simp,hE4,_,hL0⟩) ?_
 clear r0 r1 hL0
 rintro j ρ' w' hj rj hJw
 obtain ⟨r0,r1,r5,r6,r7,r8,r9,r34,hE,kvs,hL⟩:=(hJ _ _ _).1 hJw
 have hwj:IntKind.i64.wrap ((j:Int)+1)=(j:Int)+1:=i64w (by omega)
 have low:∀{W:World} {B:Nat} {W':World},Ext w3 W→Only B W W'→w3.heap.size≤B→Ext w3 W':=fun h1 h2 h3=>h2.ext h1 h3
 by_cases hlt:j<N
 ·have hlt':(j:Int)<(N:Int):=by omega
  have rowk:∀{W:World} {kvs:List Value},Loose w3.heap.size W bv N kvs→∃kv,kvs[j]? =some kv∧W.cell? (slAddr bv (j*6+5))=some kv∧∃ks:List Int,ks.length≤1000000∧Own w3.heap.size 3 1 W kv (ks.map encI):=fun {W kvs} h=>by
   obtain ⟨zs',hz,hl2,hk,hb⟩:=h
   have hjl:j<zs'.length:=by omega
   refine ⟨zs'[j].kv,by rw [←hk,List.getElem?_map,List.getElem?_eq_getElem hjl];rfl, ?_,zs'[j].nd.kids,hb _ (List.getElem_mem _),hz.kid _ (List.getElem_mem _)⟩
   rw [hz.rd.cell hjl (by omega)];rfl
  obtain ⟨kv,hkj,hck,ks,hks,hko⟩:=rowk hL
  have hki:=hko.isl
  have hkn:slLen kv=ks.length:=by have:=(L01.own_cells hko).len;simpa using this.symm
  simp -implicitDefEqProofs [ir11_l6,rj,r34,hlt',hlt,ir11_k5,r8,hisz,hlz,hck,hki,hkn]
  obtain ⟨Z,hZ⟩:∃Z:Nat→Env→World→Prop,∀q ρ' w',Z q ρ' w'↔(ρ' 0=lv∧ρ' 1= .int .i64 i∧ρ' 5= .string (mkS (fmtP (xs.map (·.nd))))∧ρ' 6=av∧ρ' 7= .int .i64 (bodyE (xs.map (·.nd)) i)∧ρ' 8=bv∧ρ' 9= .int .i64 E∧ρ' 34= .int .i64 (N:Int)∧ρ' 35= .int .i64 (j:Int)∧ρ' 10= .int .i64 (j:Int)∧ρ' 43= .int .i64 (ks.length:Int)∧Ext w3 w'∧Loose w3.heap.size w' bv N kvs):=⟨_,fun _ _ _=>Iff.rfl⟩
  refine loopC 44 ks.length Z (by simp) ((hZ _ _ _).2 ⟨by simp [r0],by simp [r1],by simp [r5],by simp [r6],by simp [r7],by simp [r8],by simp [r9],by simp [r34],by simp [rj],by simp,by simp,hE,hL⟩) ?_
  clear r0 r1 r5 r6 r7 r8 r9 r34 rj hL hck hE
  rintro q ρ2 w5 hq rq hZw
  obtain ⟨s0,s1,s5,s6,s7,s8,s9,s34,s35,s10,s43,hE,hL⟩:=(hZ _ _ _).1 hZw
  have hwq:IntKind.i64.wrap ((q:Int)+1)=(q:Int)+1:=i64w (by omega)
  by_cases hqt:q<ks.length
  ·have hqt':(q:Int)<(ks.length:Int):=by omega
   obtain ⟨kv2,hkj2,hck2,ks2,hks2,hko2⟩:=rowk hL
   rw [hkj] at hkj2
   obtain rfl:=Option.some.inj hkj2
   have hkn2:ks2.length=ks.length:=by have:=(L01.own_cells hko2).len;rw [hkn] at this;simpa using this
   simp -implicitDefEqProofs [ir11_l2,rq,s43,hqt',hqt,ir11_k1,s8,s10,hlt',hlt,hisz,hlz,hck2,hki,hkn]
   refine eff_storeO2 (i:=q) hko2 (by rw [List.length_map];omega) (by simp) (by simp [Value.cells]) (by simp) sz3' fun W B cur p hB hBb hO hc hW=> ?_
   simp -implicitDefEqProofs [ir11_k0,rq,hwq,hqt]
   exact (hZ _ _ _).2 ⟨by simp [s0],by simp [s1],by simp [s5],by simp [s6],by simp [s7],by simp [s8],by simp [s9],by simp [s34],by simp [s35],by simp [s10],by simp [s43],low hE hO hBb,hL.store (z:= -5) (q:=p) hO hc (by simpa [encI] using hW)⟩
  ·have hqt':¬(q:Int)<(ks.length:Int):=by omega
   obtain ⟨zs',hz,hl2,hk,hb⟩:=hL
   have hbu:=bu44
   simp -implicitDefEqProofs [ir11_l2,rq,s43,hqt',hqt,ir11_k3,s8,s10]
   rw [bu44]
   dsimp only [onO]
   simp -implicitDefEqProofs [hisz,hlz,hlt',hlt]
   refine eff_storeNO (i:=j*6) (vs:=ndV ndZ) hz.own (by simp [Value.cells,ndV,ndZ,mkS]) (by rw [nvV_len];simp [ndV];omega) (by simp [ndV]) (by simp) (by simp [ndV,ndZ]) sz44 fun W B hB hBb hO ho=> ?_
   simp -implicitDefEqProofs [ir11_k4,s35,hwj,hlt]
   exact (hJ _ _ _).2 ⟨by simp [s0],by simp [s1],by simp [s5],by simp [s6],by simp [s7],by simp [s8],by simp [s9],by simp [s34],low hE hO hBb,Loose.zero hz hl2 hb hlt hB hO ho⟩
 ·have hlt':¬(j:Int)<(N:Int):=by omega
  have hE0:=hE03.trans' hE
  have hysE:=hys.ext hE
  simp -implicitDefEqProofs [ir11_l6,rj,r34,hlt',hlt,ir11_k7,r0,r1]
  refine (p_Subtree (hG.ext hE0) (hM.ext hE0) (hR.ext hE0) hnok i).mono ?_
  rintro _ w5 ⟨cv,cs,rfl,hcs,hE5,hc0,hc1⟩
  have hE05:=hE0.trans' hE5
  simp -implicitDefEqProofs
  refine (rd hE05).mono ?_
  rintro _ w6 ⟨rfl,hE56⟩
  have hE06:=hE05.trans' hE56
  simp -implicitDefEqProofs [r0]
  refine (fm hE06).mono ?_
  rintro _ w7 ⟨rfl,hE7⟩
  have hE07:=hE06.trans' hE7
  have hE57:Ext w5 w7:=hE56.trans' hE7
  have heq:ys.map (·.nd)=cs.map (·.nd):=by
   by_cases hb:bodyE (xs.map (·.nd)) i=0
   ·obtain ⟨_,_,_,_,t,u,_,_,_,hu⟩:=bodyE_tree hb
    rw [hy1 hb u hu,hc1 hb u hu]
   ·rw [hy0 hb,hc0 hb]
  have hcl:cs.length=ys.length:=by have:=congrArg List.length heq;simpa using this.symm
  have hyk:∀x∈ys,x.nd.kids.length<4611686018427387904:=fun x hx=>by have:=hysok.2 x.nd (List.mem_map.2 ⟨x,hx,rfl⟩);omega
  have hck:∀x∈cs,x.nd.kids.length<4611686018427387904:=fun x hx=>by
   have:=hysok.2 x.nd (by rw [heq];exact List.mem_map.2 ⟨x,hx,rfl⟩);omega
  simp -implicitDefEqProofs [r5,r6,r7]
  refine (p_sameN (hysE.ext (hE5.trans' hE57)).rd (hcs.ext hE57).rd (by omega) (by omega) hyk hck).mono ?_
  rintro _ w8 ⟨rfl,hE8⟩
  rw [decide_eq_true heq]
  by_cases hb:bodyE (xs.map (·.nd)) i=0
  ·simp -implicitDefEqProofs [r7,r9,hb,hgr hb]
   rw [←hRR]
   exact ⟨rfl,hE07.trans' hE8⟩
  ·simp -implicitDefEqProofs [r7,r9,hb]
   rw [←hRR]
   exact ⟨rfl,hE07.trans' hE8⟩
end Go.L02
