/- Texts of mine for the claims about layer 2 (tree), joined: L01N, L1D, L1E, L1F, L1G, L1Id, L1H, L1J, L1K, L1L, L02A, L02B, L02Ib, L02C, L02D, L02J1, L02J2, L02J3, L02J4, L02J5, L02J6, L02J7, L02J8, L02K1, L02K5, L02M1, L02M2, L02Ih, L02M3, L02M5, L02M6, L02M7, L02M8, L02M9, L02Y1, L02Y2. -/
import Derived.Test.YtbcmiempigoooaaGreatDoorJbk
import Derived.Lib.AtoiAll
import Derived.Lib.ItoaNum
import Derived.Test.YtbcmiempigoooaaGreatDoorProg
import Derived.KernelRfl
set_option linter.all false
set_option linter.unusedSimpArgs false
set_option linter.unusedVariables false
namespace Go.L01
open Go.Eng Go.Lib
def valF (a:Nat) (l:Bs):Nat:=l.foldl (fun a c=>a*10+(c.toNat - 48)) a
theorem valF_cons (a:Nat) (c:UInt8) (l:Bs):valF a (c::l)=valF (a*10+(c.toNat - 48)) l:=by unfold valF;rw [List.foldl_cons]
theorem valF_ge:∀(l:Bs) (a:Nat),a≤valF a l
 |[],a=>Nat.le_refl _
 |c::l,a=>by rw [valF_cons];have:=valF_ge l (a*10+(c.toNat - 48));omega
theorem valF_lt:∀(l:Bs) (a:Nat),(∀c∈l,digit c=true)→valF a l<(a+1)*10^l.length
 |[],a,_=>by simp [valF]
 |c::l,a,h=>by
  have hc:=h c (by simp)
  simp [digit] at hc
  rw [valF_cons]
  have:=valF_lt l (a*10+(c.toNat - 48)) fun x hx=>h x (by simp [hx])
  refine Nat.lt_of_lt_of_le this ?_
  rw [List.length_cons,Nat.pow_succ,Nat.mul_comm (10^l.length) 10,←Nat.mul_assoc]
  exact Nat.mul_le_mul_right _ (by omega)
theorem valF_snoc (a:Nat) (l:Bs) (c:UInt8):valF a (l++[c])=valF a l*10+(c.toNat - 48):=by simp [valF]
theorem parse_val:∀(l:Bs) (a:Nat),(∀c∈l,digit c=true)→valF a l<10000000000→parseUint10 a l= .ok (valF a l)
 |[],a,_,_=>rfl
 |c::l,a,h,hv=>by
  have hc:=h c (by simp)
  simp [digit] at hc
  rw [valF_cons] at hv⊢
  have hge:=valF_ge l (a*10+(c.toNat - 48))
  rw [parseUint10,if_pos hc,if_neg (by omega),if_neg (by omega)]
  exact parse_val l _ (fun x hx=>h x (by simp [hx])) hv
theorem ofNat48 {c:UInt8} (h:digit c=true):UInt8.ofNat (48+(c.toNat - 48))=c:=by
 simp [digit] at h
 have:48+(c.toNat - 48)=c.toNat:=by omega
 rw [this];simp
theorem dec_val:∀(n:Nat) (l:Bs),l.length=n→l≠[]→(∀c∈l,digit c=true)→(l.length=1∨l.getD 0 0≠48)→decDigits (valF 0 l)=l:=by
 intro n
 induction n with
 |zero=>intro l hl h0;exact absurd (List.length_eq_zero_iff.1 hl) h0
 |succ n ih=>
  intro l hl h0 hd hz
  rcases List.eq_nil_or_concat l with rfl|⟨t,c,rfl⟩
  ·exact absurd rfl h0
  rw [List.concat_eq_append] at*
  have hc:digit c=true:=hd c (by simp)
  rw [valF_snoc]
  have hc':=hc
  simp [digit] at hc'
  by_cases ht:t=[]
  ·subst ht
   simp only [valF,List.foldl_nil,List.nil_append]
   rw [decDigits,dif_pos (by omega),Nat.zero_mul,Nat.zero_add,ofNat48 hc]
  ·obtain ⟨a,t',rfl⟩:∃a t',t=a::t':=by cases t with|nil=>exact absurd rfl ht|cons a t'=>exact ⟨a,t',rfl⟩
   have ha:a≠48:=by
    rcases hz with h|h
    ·simp at h
    ·simpa using h
   have had:=hd a (by simp)
   simp [digit] at had
   have ha':a.toNat≠48:=fun e=>ha (UInt8.toNat_inj.1 e)
   have hv:1≤valF 0 (a::t'):=by
    rw [valF_cons]
    have:=valF_ge t' (0*10+(a.toNat - 48));omega
   have h1:=ih (a::t') (by simp at hl⊢;omega) (by simp) (fun x hx=>hd x (by simp at hx⊢;rcases hx with h|h<;>simp [h])) (.inr (by simpa using ha))
   rw [decDigits,dif_neg (by omega)]
   have e1:(valF 0 (a::t')*10+(c.toNat - 48)) / 10=valF 0 (a::t'):=by omega
   have e2:(valF 0 (a::t')*10+(c.toNat - 48))%10=c.toNat - 48:=by omega
   rw [e1,e2,h1,ofNat48 hc]
theorem dec_digit (u:Nat):∀c∈decDigits u,digit c=true:=by
 induction u using Nat.strongRecOn with
 |_ u ih=>
  have one:∀d,d<10→digit (UInt8.ofNat (48+d))=true:=by decide
  rw [decDigits]
  split
  ·intro c hc
   rw [List.mem_singleton] at hc;subst hc;exact one u (by omega)
  ·intro c hc
   simp only [List.mem_append,List.mem_singleton] at hc
   rcases hc with hc|hc
   ·exact ih (u / 10) (by omega) c hc
   ·subst hc;exact one _ (by omega)
theorem dec_head (u:Nat) (h:0<u):decDigits u≠[]∧(decDigits u).getD 0 0≠48:=by
 induction u using Nat.strongRecOn with
 |_ u ih=>
  have one:∀d,0<d→d<10→UInt8.ofNat (48+d)≠48:=by
   intro d h1 h2
   match d,h1,h2 with
   |1,_,_|2,_,_|3,_,_|4,_,_|5,_,_|6,_,_|7,_,_|8,_,_|9,_,_=>decide
  rw [decDigits]
  split
  ·rename_i h10
   exact ⟨by simp,one u h h10⟩
  ·obtain ⟨h1,h2⟩:=ih (u / 10) (by omega) (by omega)
   cases he:decDigits (u / 10) with
   |nil=>exact absurd he h1
   |cons a t=>
    rw [he] at h2
    exact ⟨by simp,by simpa using h2⟩
theorem dec_len (u:Nat):(decDigits u).length=nDigits u:=by rw [decDigits_eq];simp
theorem dec_len_le {u:Nat} (h:u≤1000000000):(decDigits u).length≤10∧((decDigits u).length<10∨u=1000000000):=by
 rw [dec_len]
 have hp:=nDigits_pos u
 by_cases h1:u=1000000000
 ·have:nDigits u=9+1:=nDigits_unique 9 u (by omega) (by omega)
  omega
 ·have:nDigits u<10:=by
   rcases Nat.lt_or_ge (nDigits u) 10 with hh|hh
   ·exact hh
   ·exfalso
    have key:∀(n u:Nat),nDigits u=n+1→(n=0∨10^n≤u):=by
     intro n
     induction n with
     |zero=>intro u _;exact .inl rfl
     |succ n ih=>
      intro u hu
      right
      have h10:¬u<10:=fun h=>by rw [nDigits_small h] at hu;omega
      rw [nDigits_big h10] at hu
      rcases ih (u / 10) (by omega) with h0|h0
      ·subst h0;simpa using h10
      ·rw [Nat.pow_succ];omega
    rcases key (nDigits u - 1) u (by omega) with h0|h0
    ·omega
    ·have:(10:Nat)^9≤10^(nDigits u - 1):=Nat.pow_le_pow_right (by decide) (by omega)
     omega
  omega
theorem digitsL_all {s:Bs}:digitsL s=s.length↔∀c∈s,digit c=true:=by
 unfold digitsL
 constructor
 ·intro h c hc
  have h1:s.takeWhile digit=s:=(List.takeWhile_prefix digit).eq_of_length h
  have h2:c∈s.takeWhile digit:=by rw [h1];exact hc
  exact List.all_eq_true.1 (List.all_takeWhile (p:=digit) (l:=s)) c h2
 ·intro h
  have:s.takeWhile digit=s:=by
   have:=List.takeWhile_append_of_pos (p:=digit) (l₁:=s) (l₂:=[]) h
   simpa using this
  rw [this]
def numOk (s:Bs):Bool:=match atoiAll s with
 | .ok v=>decide (0≤v)&&decide (v≤1000000000)&&decide (itoa v=s)
 |_=>false
theorem most_val:decDigits 1000000000=most:=by
 have:valF 0 most=1000000000:=by decide
 rw [←this]
 exact dec_val 10 most rfl (by decide) (by decide) (.inr (by decide))
theorem numOk_eq (s:Bs):numOk s=isNumber s:=by
 rw [Bool.eq_iff_iff]
 constructor
 ·intro h
  unfold numOk at h
  split at h
  ·rename_i v hv
   simp only [Bool.and_eq_true,decide_eq_true_eq] at h
   obtain ⟨⟨h0,h1⟩,h2⟩:=h
   rw [itoa,if_neg (by omega)] at h2
   have hd:=dec_digit v.toNat
   have hl:=dec_len_le (u:=v.toNat) (by omega)
   rw [h2] at hd hl
   have hpos:0<s.length:=by rw [←h2,dec_len];exact nDigits_pos _
   have hdl:=digitsL_all.2 hd
   have hz:1<s.length→s.getD 0 0≠48:=by
    intro h1
    rw [←h2]
    refine (dec_head v.toNat ?_).2
    rcases Nat.eq_zero_or_pos v.toNat with h|h
    ·rw [←h2,h,decDigits] at h1;simp at h1
    ·exact h
   have hm:s.length<10∨s=most:=by
    rcases hl.2 with h|h
    ·exact .inl h
    ·right;rw [←h2,h,most_val]
   unfold isNumber
   simp only [Bool.and_eq_true,Bool.not_eq_true',Bool.or_eq_false_iff,Bool.and_eq_false_iff,decide_eq_false_iff_not,Bool.or_eq_true,decide_eq_true_eq]
   exact ⟨⟨⟨⟨by omega,by omega⟩,by omega⟩,(Nat.lt_or_ge 1 s.length).elim (fun h=> .inr (hz h)) fun h=> .inl (by omega)⟩,hm⟩
  ·cases h
 ·intro h
  unfold isNumber at h
  simp only [Bool.and_eq_true,Bool.not_eq_true',Bool.or_eq_false_iff,Bool.and_eq_false_iff,decide_eq_false_iff_not,Bool.or_eq_true,decide_eq_true_eq] at h
  obtain ⟨⟨⟨⟨h0,h10⟩,hd⟩,hz⟩,hm⟩:=h
  have hd':=digitsL_all.1 (Decidable.of_not_not hd)
  have hv:valF 0 s≤1000000000:=by
   rcases hm with h|h
   ·have h1:=valF_lt s 0 hd'
    have h2:(10:Nat)^s.length≤10^9:=Nat.pow_le_pow_right (by decide) (by omega)
    omega
   ·rw [h];decide
  have hne:s≠[]:=fun e=>h0 (by rw [e];rfl)
  have hdec:=dec_val s.length s rfl hne hd' (by
   rcases hz with h|h
   ·left;omega
   ·exact .inr h)
  obtain ⟨c,r,rfl⟩:∃c r,s=c::r:=by cases s with|nil=>exact absurd rfl hne|cons c r=>exact ⟨c,r,rfl⟩
  have hc:=hd' c (by simp)
  simp [digit] at hc
  have ha:atoiAll (c::r)= .ok (valF 0 (c::r):Int):=by
   unfold atoiAll
   simp only []
   rw [if_neg (by omega),parseMag,if_neg (by simp),parse_val _ 0 hd' (by omega)]
   simp only []
   rw [if_neg (by omega),if_neg (by omega),if_neg (by omega)]
  unfold numOk
  rw [ha]
  simp only [Bool.and_eq_true,decide_eq_true_eq]
  refine ⟨⟨by omega,by omega⟩, ?_⟩
  rw [itoa,if_neg (by omega)]
  exact hdec
end Go.L01
namespace Go.L01
open Go Go.Eng Go.RowKit Go.Proofs
set_option maxRecDepth 100000
set_option maxHeartbeats 2000000
theorem tk_succ (l:List Bs) (k:Nat) (h:k<l.length) (s:Bs):(l.take (k+1)).contains s=((l.take k).contains s||decide (l[k]=s)):=by
 rw [List.take_add_one,List.getElem?_eq_getElem h,Bool.eq_iff_iff]
 simp only [Option.toList_some,List.contains_eq_mem,List.mem_append,List.mem_singleton,decide_eq_true_eq,Bool.or_eq_true]
 exact or_congr Iff.rfl ⟨fun h=>h.symm,fun h=>h.symm⟩
theorem t_reserved {w:World} (hG:G w):Calls Tryz.prog 233 #[] w fun e w'=>∃B ps,e= .returned (.map (some B))∧Ext w w'∧MapB w' B ps∧∀s,lookP ps (mkS s)=if isWord s then some (.bool true) else none:=by
 refine ir233_calls fun ρ=> ?_
 simp [ir233]
 refine eff_makeMap fun B W hB hE hm hsz=> ?_
 simp
 refine (t_words (hG.ext hE)).mono ?_
 rintro _ W2 ⟨v,rfl,hO,hE2⟩
 have hl:=Own.sl (enc:=encT) (xs:=wordsL) hO (by decide)
 simp [hl.is,hl.len]
 refine loopC 7 46 (fun k ρ' w'=>Ext w w'∧B<w'.heap.size∧ρ' 1= .map (some B)∧ρ' 5=v∧ρ' 6= .int .i64 46∧Own W.heap.size 9 1 w' v (wordsL.map encT)∧∃ps,MapB w' B ps∧∀s,lookP ps (mkS s)=if (wordsL.take k).contains s then some (.bool true) else none)
  (by simp) ⟨hE.trans' hE2,by have:=hE2.size;omega,by simp,by simp,by simp [wordsL_len],hO,[],hm.ext hE2,by simp⟩ ?_
 rintro k ρ' w' hk h7 ⟨hE3,hBs,h1,h5,h6,hO3,ps,hm3,hps⟩
 have hl3:=Own.sl (enc:=encT) (xs:=wordsL) hO3 (by decide)
 by_cases hlt:k<46
 ·have hlt':k<wordsL.length:=hlt
  have hltI:(k:Int)<46:=by omega
  simp [hltI,ir233_l2,ir233_k1,h1,h5,h6,h7,hlt,hl3.is,hl3.len,hlt',hl3.cell k hlt',encT]
  refine eff_mapUpdate (s:=mkS wordsL[k]) (kt:=9) (et:=4) (by kernel_rfl) (by kernel_rfl) (by simp) (by simp) hm3 fun W6 hO6 hm6=> ?_
  simp at hm6
  simp [ir233_k0,h1,h5,h6,h7,i64w (n:=(k:Int)+1) (by omega)]
  refine ⟨hO6.ext hE3 hB,by rw [hO6.size];exact hBs,by simpa [encT] using hO3.only hO6 (by omega),_,hm6,fun s=> ?_⟩
  have hc:=tk_succ wordsL k hlt' s
  simp only [List.contains_eq_mem] at hc hps
  rw [look_setP,hps]
  by_cases hs:wordsL[k]=s
  ·simp [hs]
   have:s∈List.take (k+1) wordsL:=by simpa [hs] using hc
   exact this
  ·have:¬mkS wordsL[k]=mkS s:=fun h=>hs (mkS_inj.1 h)
   simp [this]
   have hiff:(s∈List.take (k+1) wordsL)↔s∈List.take k wordsL:=by simpa [hs] using hc
   simp [hiff]
 ·have hk':k=46:=by omega
  subst hk'
  simp [ir233_l2,h6,h7,ir233_k3,h1]
  exact ⟨hE3,ps,hm3,hps⟩
@[simp] theorem cb229:callB Tryz.prog 229=true:=by kernel_rfl
@[simp] theorem cb160:callB Tryz.prog 160=true:=by kernel_rfl
@[simp] theorem cb165:callB Tryz.prog 165=true:=by kernel_rfl
@[simp] theorem cb231:callB Tryz.prog 231=true:=by kernel_rfl
@[simp] theorem cb163:callB Tryz.prog 163=true:=by kernel_rfl
@[simp] theorem cb168:callB Tryz.prog 168=true:=by kernel_rfl
@[simp] theorem cb77:callB Tryz.prog 77=true:=by kernel_rfl
@[simp] theorem cb79:callB Tryz.prog 79=true:=by kernel_rfl
@[simp] theorem cb309:callB Tryz.prog 309=true:=by kernel_rfl
@[simp] theorem cb245:callB Tryz.prog 245=true:=by kernel_rfl
@[simp] theorem cb244:callB Tryz.prog 244=true:=by kernel_rfl
@[simp] theorem cb273:callB Tryz.prog 273=true:=by kernel_rfl
@[simp] theorem cb171:callB Tryz.prog 171=true:=by kernel_rfl
theorem t_isWord {w:World} (hG:G w) (s:Bs):Calls Tryz.prog 166 #[.string (mkS s)] w fun e w'=>e= .returned (.bool (isWord s))∧Ext w w':=by
 refine ir166_calls fun ρ h0=> ?_
 simp [ir166]
 refine (t_reserved hG).mono ?_
 rintro _ w1 ⟨B,ps,rfl,hE,hm,hps⟩
 simp [h0]
 refine eff_lookup (s:=mkS s) (kt:=9) (et:=4) (z:= .bool false) (by kernel_rfl) (by kernel_rfl) (by kernel_rfl) (by simp) (by simp) hm false ?_
 simp [hps]
 cases hw:isWord s<;>simp [hE]
theorem r_isWord {w:World} (s:Bs):Calls Tryz.prog 169 #[.string (mkS s)] w fun e w'=>e= .returned (.bool (isWord s))∧Ext w w':=by
 refine ir169_calls fun ρ h0=> ?_
 simp [ir169]
 refine r_words.mono ?_
 rintro _ w1 ⟨v,rfl,hN⟩
 simp [h0]
 refine (r_in s (hN.sl (by decide))).mono ?_
 rintro _ w2 ⟨rfl,rfl⟩
 simp
 exact ⟨by rw [isWord,List.contains_eq_mem],hN.2⟩
theorem s_index {w:World} {v:Value} {l:List Bs} (s:Bs) (hl:SlT w v l):Calls Tryz.prog 229 #[v, .string (mkS s)] w fun e w'=>∃n:Int,e= .returned (.int .i64 n)∧(0≤n↔l.contains s=true)∧w'=w:=by
 have hbd:=hl.bd
 refine ir229_calls fun ρ h0 h1=> ?_
 simp [ir229,h0,hl.is,hl.len]
 refine loopC 8 l.length (fun k ρ' w'=>w'=w∧ρ' 0=v∧ρ' 1= .string (mkS s)∧ρ' 7= .int .i64 l.length∧∀j (hj:j<l.length),j<k→l[j]≠s) (by simp) ⟨rfl,by simp [h0],by simp [h1],by simp,by simp⟩ ?_
 rintro k ρ' w' hk h8 ⟨rfl,h0,h1,h7,hall⟩
 by_cases hlt:k<l.length
 ·simp [ir229_l2,ir229_k1,h8,h7,h0,h1,hl.is,hl.len,hlt,hl.cell k hlt,encT,mkS_inj]
  by_cases he:l[k]=s
  ·have he':s=l[k]:=he.symm
   simp [he']
  ·have he':¬s=l[k]:=fun h=>he h.symm
   simp [he',ir229_k0,h8,i64w (n:=(k:Int)+1) (by omega),h0,h1,h7]
   intro j hj hjk
   by_cases e:j=k
   ·subst e;exact he
   ·exact hall j hj (by omega)
 ·have hk':k=l.length:=by omega
  subst hk'
  simp [ir229_l2,h8,h7,ir229_k3]
  intro hm
  obtain ⟨j,hj,rfl⟩:=List.getElem_of_mem hm
  exact hall j hj hj rfl
theorem s_contains {w:World} {v:Value} {l:List Bs} (s:Bs) (hl:SlT w v l):Calls Tryz.prog 160 #[v, .string (mkS s)] w fun e w'=>e= .returned (.bool (l.contains s))∧w'=w:=by
 refine ir160_calls fun ρ h0 h1=> ?_
 simp [ir160,h0,h1]
 refine (s_index s hl).mono ?_
 rintro _ _ ⟨n,rfl,hn,rfl⟩
 simp
 simpa using hn
theorem u8wrap (c:UInt8):IntKind.u8.wrap (c.toNat:Int)=c.toNat:=by
 have hc:=c.toNat_lt
 exact u8w (by omega)
theorem t_notPart (c:UInt8) (w:World):Calls Tryz.prog 164 #[.int .i32 (c.toNat:Int)] w fun e w'=>e= .returned (.bool (!part c))∧w'=w:=by
 refine ir164_calls fun ρ h0=> ?_
 by_cases h:c.toNat≤126
 ·have h1:(c.toNat:Int)≤126:=by omega
  have h2:¬126<(c.toNat:Int):=by omega
  simp [ir164,h0,h1,h2,u8wrap]
  refine (t_part c w).mono ?_
  rintro _ _ ⟨rfl,rfl⟩
  simp [h2]
 ·have h1:¬(c.toNat:Int)≤126:=by omega
  have h2:126<(c.toNat:Int):=by omega
  simp [ir164,h0,h1,h2,part,letter,digit]
  omega
theorem t_notPartHigh {r:Int} (h2:126<r) (w:World):Calls Tryz.prog 164 #[.int .i32 r] w fun e w'=>e= .returned (.bool true)∧w'=w:=by
 refine ir164_calls fun ρ h0=> ?_
 have h1:¬r≤126:=by omega
 simp [ir164,h0,h1,h2]
def posOf (w:World) (B:Nat):Nat:=match w.heap[B]? with
 |some (.stringIter _ k)=>k
 |_=>0
theorem posOf_eq {w:World} {B k:Nat} {s:ByteArray} (h:w.heap[B]? =some (.stringIter s k)):posOf w B=k:=by simp [posOf,h]
theorem s_indexFunc {w:World} (s:Bs):Calls Tryz.prog 231 #[.string (mkS s), .func (.func 164) #[] #[], .bool true] w fun e w'=>∃n:Int,e= .returned (.int .i64 n)∧(n<0↔s.all part=true)∧Ext w w':=by
 have hsz:(mkS s).size=s.length:=rfl
 refine ir231_calls fun ρ h0 h1 h2=> ?_
 simp [ir231,h0]
 refine eff_rangeS (s:=mkS s) (by kernel_rfl) (by simp) fun B W hB hE hit=> ?_
 simp
 refine loopI (fun ρ' w'=>∃k,k≤s.length∧Ext w w'∧ρ' 1= .func (.func 164) #[] #[]∧ρ' 2= .bool true∧ρ' 10= .pointer (some ⟨B,0,none⟩)∧w'.heap[B]? =some (.stringIter (mkS s) k)∧∀j (hj:j<s.length),j<k→part s[j]=true)
  (fun _ w'=>s.length - posOf w' B) ⟨0,Nat.zero_le _,hE,by simp [h1],by simp [h2],by simp,hit,by simp⟩ ?_
 rintro ρ' w' ⟨k,hk,hE',h1,h2,h10,hit,hall⟩
 have hpos:=posOf_eq hit
 simp [ir231_l1]
 refine eff_nextS (s:=mkS s) (by simpa using h10) hit (fun hlt W2 hO hit2=> ?_) (fun hlt=> ?_)
 ·rw [hsz] at hlt
  have hcell:(mkS s)[k]'(by rw [hsz];exact hlt)=s[k]:=by
   show (mkS s).data[k]=_
   simp [mkS]
  simp [ir231_k0,h1,h2]
  refine eff_callv (f:=164) (by kernel_rfl) (fs:= #[]) (caps:= #[]) (by simp) ?_
  simp
  by_cases ha:s[k].toNat<128
  ·have hd:=decode_ascii (mkS s) k (by rw [hsz];exact hlt) (by rw [hcell];exact ha)
   rw [hcell] at hd
   rw [hd] at hit2⊢
   refine (t_notPart s[k] W2).mono ?_
   rintro _ _ ⟨rfl,rfl⟩
   cases hp:part s[k] with
   |true=>
    simp [hp,h2,hpos]
    refine ⟨⟨k+1,by omega,hO.ext hE' hB,h1,h10,hit2, ?_⟩, ?_⟩
    ·intro j hj hjk
     by_cases e:j=k
     ·subst e;exact hp
     ·exact hall j hj (by omega)
    ·rw [posOf_eq hit2];omega
   |false=>
    simp [hp,h2]
    have hna:¬∀x∈s,part x=true:=fun h=>by
     rw [h s[k] (List.getElem_mem _)] at hp;cases hp
    refine ⟨by simpa using hna,hO.ext hE' hB⟩
  ·obtain ⟨h128,hw⟩:=decode_high (mkS s) k (by rw [hsz];exact hlt) (by rw [hcell];omega)
   refine (t_notPartHigh (r:=((Utf8.decode (mkS s) k).1:Int)) (by omega) W2).mono ?_
   rintro _ _ ⟨rfl,rfl⟩
   simp [h2]
   have hp:part s[k]=false:=by simp [part,letter,digit];omega
   have hna:¬∀x∈s,part x=true:=fun h=>by
    rw [h s[k] (List.getElem_mem _)] at hp;cases hp
   refine ⟨by simpa using hna,hO.ext hE' hB⟩
 ·rw [hsz] at hlt
  simp [ir231_k2]
  refine ⟨fun x hx=> ?_,hE'⟩
  obtain ⟨j,hj,rfl⟩:=List.getElem_of_mem hx
  exact hall j hj (by omega)
theorem s_IndexFunc {w:World} (s:Bs):Calls Tryz.prog 163 #[.string (mkS s), .func (.func 164) #[] #[]] w fun e w'=>∃n:Int,e= .returned (.int .i64 n)∧(n<0↔s.all part=true)∧Ext w w':=by
 refine ir163_calls fun ρ h0 h1=> ?_
 simp [ir163,h0,h1]
 refine (s_indexFunc s).mono ?_
 rintro _ w' ⟨n,rfl,hn,hE⟩
 simp
 exact ⟨by simpa using hn,hE⟩
theorem runL_all {s:Bs}:runL s=s.length↔s.all part=true:=by
 unfold runL
 rw [List.all_eq_true]
 constructor
 ·intro h c hc
  have h1:s.takeWhile part=s:=(List.takeWhile_prefix part).eq_of_length h
  have h2:c∈s.takeWhile part:=by rw [h1];exact hc
  exact List.all_eq_true.1 (List.all_takeWhile (p:=part) (l:=s)) c h2
 ·intro h
  have:s.takeWhile part=s:=by
   have:=List.takeWhile_append_of_pos (p:=part) (l₁:=s) (l₂:=[]) h
   simpa using this
  rw [this]
theorem t_isName {w:World} (hG:G w) (s:Bs):Calls Tryz.prog 77 #[.string (mkS s)] w fun e w'=>e= .returned (.bool (isName s))∧Ext w w':=by
 refine ir77_calls fun ρ h0=> ?_
 by_cases hl:0<s.length∧s.length≤12
 ·obtain ⟨h1,h2⟩:=hl
  have h1':0<(s.length:Int):=by omega
  have h2':(s.length:Int)≤12:=by omega
  have hg:s.getD 0 0=s[0]:=by simp [List.getD_eq_getElem?_getD,h1]
  simp [ir77,h0,h1,h2,h1',h2']
  refine (t_letter s[0] w).mono ?_
  rintro _ _ ⟨rfl,rfl⟩
  cases hc:letter s[0] with
  |false=>
   have hn:isName s=false:=by unfold isName;rw [hg,hc];simp
   simp [hn];exact ext_refl _
  |true=>
   simp [h0]
   refine (s_IndexFunc s).mono ?_
   rintro _ w1 ⟨n,rfl,hn,hE⟩
   have hr:(n<0)↔runL s=s.length:=hn.trans runL_all.symm
   by_cases hn0:n<0
   ·simp [hn0,h0]
    refine (t_isWord (hG.ext hE) s).mono ?_
    rintro _ w2 ⟨rfl,hE2⟩
    simp [isName,h1,h2,hg,hc,hr.1 hn0]
    exact hE.trans' hE2
   ·have:¬runL s=s.length:=fun h=>hn0 (hr.2 h)
    simp [hn0,isName,this]
    exact hE
 ·have hn:isName s=false:=by
   unfold isName
   rcases Nat.eq_zero_or_pos s.length with h|h
   ·simp [h]
   ·have:¬s.length≤12:=fun h2=>hl ⟨h,h2⟩
    simp [this]
  by_cases h1:0<s.length
  ·have h1':0<(s.length:Int):=by omega
   have h2':¬(s.length:Int)≤12:=by omega
   simp [ir77,h0,h1,h1',h2',hn]
   exact ext_refl _
  ·have h1':¬0<(s.length:Int):=by omega
   simp [ir77,h0,h1,h1',hn]
   exact ext_refl _
theorem r_isName {w:World} (s:Bs):Calls Tryz.prog 79 #[.string (mkS s)] w fun e w'=>e= .returned (.bool (isName s))∧Ext w w':=by
 refine ir79_calls fun ρ h0=> ?_
 by_cases hl:0<s.length∧s.length≤12
 ·obtain ⟨h1,h2⟩:=hl
  have h1':0<(s.length:Int):=by omega
  have h2':(s.length:Int)≤12:=by omega
  have hg:s.getD 0 0=s[0]:=by simp [List.getD_eq_getElem?_getD,h1]
  simp [ir79,h0,h1,h2,h1',h2']
  refine (r_letter s[0] w).mono ?_
  rintro _ _ ⟨rfl,rfl⟩
  cases hc:letter s[0] with
  |false=>
   have hn:isName s=false:=by unfold isName;rw [hg,hc];simp
   simp [hn];exact ext_refl _
  |true=>
   simp [h0]
   refine (r_run s (by omega) _).mono ?_
   rintro _ _ ⟨rfl,rfl⟩
   by_cases hn0:runL s=s.length
   ·simp [hn0,h0]
    refine (r_isWord s).mono ?_
    rintro _ w2 ⟨rfl,hE2⟩
    simp [isName,h1,h2,hg,hc,hn0]
    exact hE2
   ·have hn0':¬(runL s:Int)=(s.length:Int):=by omega
    simp [hn0,hn0',h0,isName]
    exact ext_refl _
 ·have hn:isName s=false:=by
   unfold isName
   rcases Nat.eq_zero_or_pos s.length with h|h
   ·simp [h]
   ·have:¬s.length≤12:=fun h2=>hl ⟨h,h2⟩
    simp [this]
  by_cases h1:0<s.length
  ·have h1':0<(s.length:Int):=by omega
   have h2':¬(s.length:Int)≤12:=by omega
   simp [ir79,h0,h1,h1',h2',hn]
   exact ext_refl _
  ·have h1':¬0<(s.length:Int):=by omega
   simp [ir79,h0,h1,h1',hn]
   exact ext_refl _
theorem s_atoi {w:World} (hG:G w) (s:Bs) (hs:s.length≤281474976710656):Calls Tryz.prog 273 #[.string (mkS s)] w fun e w'=>Ext w w'∧∃(n:Int) (x:Value),e= .returned (.tuple #[.int .i64 n,x])∧
  ((Lib.atoiAll s= .ok n∧x= .nilIface)∨((∀v,Lib.atoiAll s≠ .ok v)∧∃u p,x= .iface u p)):=by
 cases ha:Lib.atoiAll s
 ·rename_i v
  refine (Tryz.atoi_ok (mkS s) (by show s.length≤_;omega) v ha w).mono ?_
  rintro _ w' ⟨rfl,hw⟩
  refine ⟨?_,v,_,rfl, .inl ⟨rfl,rfl⟩⟩
  rcases hw with rfl|⟨t,rfl⟩
  ·exact ext_refl _
  ·exact ⟨rfl,rfl,rfl,by rw [Lib.bytesWorld_size];omega,fun k hk=>Lib.bytesWorld_at_old _ _ _ _ hk⟩
 ·obtain ⟨te,pe,hv⟩:=hG.es
  refine (Tryz.atoi_syntax (mkS s) hs ha _ w hv (.inr ⟨te,pe,rfl⟩)).mono ?_
  rintro _ w' ⟨N,rfl,_,_,hB⟩
  exact ⟨hB,_,_,rfl, .inr ⟨by simp,_,_,rfl⟩⟩
 ·obtain ⟨te,pe,hv⟩:=hG.er
  refine (Tryz.atoi_range (mkS s) hs ha _ w hv (.inr ⟨te,pe,rfl⟩)).mono ?_
  rintro _ w' ⟨N,rfl,_,_,hB⟩
  exact ⟨hB,_,_,rfl, .inr ⟨by simp,_,_,rfl⟩⟩
theorem s_itoa {w:World} (hG:G w) {n:Int} (h0:0≤n) (h1:n≤9223372036854775807):Calls Tryz.prog 171 #[.int .i64 n] w fun e w'=>e= .returned (.string (mkS (Lib.itoa n)))∧Ext w w':=by
 refine (Tryz.itoa n (by omega) h1 w hG.pow).mono ?_
 rintro _ w' ⟨rfl,k,os,rfl⟩
 refine ⟨rfl,rfl,rfl,rfl,by simp [Sort.grow,World.drewN],fun j hj=> ?_⟩
 rw [Sort.heap_grow_old _ _ (by simpa [World.drewN] using hj)]
 rfl
theorem t_isNumber {w:World} (hG:G w) (s:Bs) (hs:s.length≤281474976710656):Calls Tryz.prog 309 #[.string (mkS s)] w fun e w'=>e= .returned (.bool (isNumber s))∧Ext w w':=by
 refine ir309_calls fun ρ h0=> ?_
 simp [ir309,h0]
 refine (s_atoi hG s hs).mono ?_
 rintro _ w1 ⟨hE,n,x,rfl,⟨ha,rfl⟩|⟨ha,u,p,rfl⟩⟩
 ·have hn:isNumber s=(decide (0≤n)&&decide (n≤1000000000)&&decide (Lib.itoa n=s)):=by
   rw [←numOk_eq,numOk,ha]
  simp
  refine eff_eqlNilI (by kernel_rfl) (by simp) ?_
  by_cases h1:0≤n
  ·by_cases h2:n≤1000000000
   ·simp [h1,h2]
    refine (s_itoa (hG.ext hE) h1 (by omega)).mono ?_
    rintro _ w2 ⟨rfl,hE2⟩
    simp [h0,hn,h1,h2,mkS_inj]
    exact hE.trans' hE2
   ·simp [h1,h2,hn]
    exact hE
  ·simp [h1,hn]
   exact hE
 ·have hn:isNumber s=false:=by
   rw [←numOk_eq,numOk]
   cases h:Lib.atoiAll s with
   |ok v=>exact absurd h (ha v)
   |_=>rfl
  simp
  refine eff_eqlNilI' (by kernel_rfl) (by simp;exact ⟨rfl,rfl⟩) ?_
  simp [hn]
  exact hE
theorem r_isNumber (s:Bs) (hs:s.length<4611686018427387904) (w:World):Calls Tryz.prog 245 #[.string (mkS s)] w fun e w'=>e= .returned (.bool (isNumber s))∧w'=w:=by
 refine ir245_calls fun ρ h0=> ?_
 have g0:(s.length=0)=((s.length:Int)=0):=by rw [eq_iff_iff];omega
 by_cases h1:s.length=0∨10<s.length
 ·have hn:isNumber s=false:=by
   unfold isNumber
   rcases h1 with h|h<;>simp [h]
  rcases h1 with h|h
  ·have h':s=[]:=List.length_eq_zero_iff.1 h
   subst h'
   simp [ir245,h0,hn]
  ·have h2:(10:Int)<s.length:=by omega
   have h3:s≠[]:=fun e=>by subst e;simp at h
   simp [ir245,h0,hn,h2,h3]
 ·have h2:¬s.length=0:=fun h=>h1 (.inl h)
  have h3:¬10<s.length:=fun h=>h1 (.inr h)
  have h2':s≠[]:=fun e=>h2 (by rw [e];rfl)
  have h3':¬(10:Int)<s.length:=by omega
  have h0s:0<s.length:=by omega
  simp [ir245,h0,h2',h3']
  refine (r_digits s hs w).mono ?_
  rintro _ w2 ⟨rfl,rfl⟩
  have hx:s[0]? =some s[0]:=List.getElem?_eq_getElem h0s
  have hg:s.getD 0 0=s[0]:=by simp [List.getD_eq_getElem?_getD,h0s]
  have hb:isNumber s=(!(decide (digitsL s≠s.length)||(decide (1<s.length)&&decide (s[0]=48)))&&(decide (s.length<10)||decide (s=most))):=by
   unfold isNumber
   rw [hg]
   simp [h2',h3]
  rw [hb]
  by_cases hd:digitsL s=s.length
  ·have hu:=u8_eq s[0] 48 (by decide)
   have hk:∀ρ:Env,ρ 0= .string (mkS s)→ir245_k0.wp ⟨Tryz.prog,35,ir245_V,[]⟩ (retK [.tmp 2] fun e w'=>e= .returned (.bool (decide (s.length<10)||decide (s=most)))∧w'=w2) (ksOf [.tmp 2] fun e w'=>e= .returned (.bool (decide (s.length<10)||decide (s=most)))∧w'=w2) ρ w2:=by
    intro ρ h0
    by_cases hl:s.length<10
    ·have hl':(s.length:Int)<10:=by omega
     simp [ir245_k0,h0,hl,hl']
    ·have hl':¬(s.length:Int)<10:=by omega
     have e:(⟨#[49,48,48,48,48,48,48,48,48,48]⟩:ByteArray)=mkS most:=rfl
     simp [ir245_k0,h0,hl,hl',e,mkS_inj]
   by_cases h1s:1<s.length
   ·have h1':(1:Int)<s.length:=by omega
    by_cases h48:s[0]=48
    ·have:(s[0].toNat:Int)=48:=hu.2 h48
     simp [hd,h0,h1s,h1',h48,this,hx]
    ·have:¬(s[0].toNat:Int)=48:=fun h=>h48 (hu.1 h)
     simp [hd,h0,h1s,h1',h48,this,hx]
     exact hk _ (by simp [h0])
   ·have h1':¬(1:Int)<s.length:=by omega
    simp [hd,h0,h1s,h1']
    exact hk _ (by simp [h0])
  ·have hd':¬(digitsL s:Int)=s.length:=by omega
   simp [h0,hd,hd']
def encK (t:Tok):Value:= .agg #[.int .u8 (t.kind:Int), .string (mkS t.text), .int .i64 t.line]
end Go.L01
namespace Go.L01
open Go Go.Eng Go.RowKit Go.Proofs
set_option maxRecDepth 100000
set_option maxHeartbeats 2000000
@[simp] theorem cb306:callB Tryz.prog 306=true:=by kernel_rfl
@[simp] theorem cb304:callB Tryz.prog 304=true:=by kernel_rfl
@[simp] theorem cb307:callB Tryz.prog 307=true:=by kernel_rfl
@[simp] theorem cb303:callB Tryz.prog 303=true:=by kernel_rfl
@[simp] theorem cb305:callB Tryz.prog 305=true:=by kernel_rfl
@[simp] theorem cb308:callB Tryz.prog 308=true:=by kernel_rfl
@[simp] theorem cb311:callB Tryz.prog 311=true:=by kernel_rfl
@[simp] theorem cb198:callB Tryz.prog 198=true:=by kernel_rfl
abbrev scC (s:Bs) (at' line:Int) (cv:Value):Array Value:= #[.string (mkS s), .int .i64 at', .int .i64 line,cv]
theorem sz3:sizeIs Tryz.prog 3 1=true:=by kernel_rfl
theorem drop_ext (s:Bs) (k:Nat):(mkS s).extract k s.length=mkS (s.drop k):=by
 apply ByteArray.ext
 apply Array.ext'
 show ((mkS s).extract k s.length).data.toList=_
 simp [mkS]
 exact List.take_of_length_le (by simp)
theorem cut_ext (s:Bs) (k n:Nat):(mkS s).extract k (k+n)=mkS ((s.drop k).take n):=by
 apply ByteArray.ext
 apply Array.ext'
 show ((mkS s).extract k (k+n)).data.toList=_
 simp [mkS]
theorem t_rest {w:World} {B k:Nat} {s:Bs} {line:Int} {cv:Value} (hb:Blk w B (scC s k line cv) 217) (hk:k≤s.length):
  Calls Tryz.prog 306 #[.pointer (some ⟨B,0,none⟩)] w fun e w'=>e= .returned (.string (mkS (s.drop k)))∧Ext w w':=by
 refine ir306_calls fun ρ h0=> ?_
 simp [ir306,h0,hb.cell,hk,ir306_k0,drop_ext]
theorem t_over {w:World} {B k n:Nat} {s:Bs} {line:Int} {cv:Value} (hb:Blk w B (scC s k line cv) 217) (hk:k+n≤s.length) (hs:s.length<4611686018427387904) (hl:0≤line∧line≤4611686018427387904):
  Calls Tryz.prog 304 #[.pointer (some ⟨B,0,none⟩), .int .i64 (n:Int)] w fun e w'=>e= .returned (.string (mkS ((s.drop k).take n)))∧Blk w' B (scC s ((k:Int)+(n:Int)) (line+((((s.drop k).take n).count 10:Nat):Int)) cv) 217∧w.grownBy w' (some B):=by
 have hkn:(k:Int)+(n:Int)≤s.length:=by omega
 have hkn0:(0:Int)≤(k:Int)+(n:Int):=by omega
 have hk2:(k:Int)≤(k:Int)+(n:Int):=by omega
 have ht:((k:Int)+(n:Int)).toNat=k+n:=by omega
 refine ir304_calls fun ρ h0 h1=> ?_
 simp [ir304,h0,h1,hb.cell,i64w (n:=(k:Int)+(n:Int)) (by omega),hkn,hkn0,hk2,ht,cut_ext]
 intro w1 hE1
 simp [ir304_k1]
 refine raw_ord ir304_o2_ok (Ext w1) fun w2 hw2 _=>⟨hw2, ?_⟩
 have hc:∀w',Ext w1 w'→∀i,w'.cell? ⟨B,i,none⟩=(scC s k line cv)[i]? :=fun w' h=>((hb.ext hE1).ext h).cell
 simp+contextual [ir304_o2,h0,hc,hw2]
 refine (Tryz.count_one (mkS ((s.drop k).take n)) 10 w2).mono ?_
 rintro _ _ ⟨rfl,rfl⟩
 have hcl:((s.drop k).take n).count 10≤s.length:=by
  refine Nat.le_trans List.count_le_length ?_
  simp;omega
 simp+contextual [Lib.countByte,h0,hw2,i64w (n:=line+((((s.drop k).take n).count 10:Nat):Int)) (by omega)]
 refine eff_store1 (B:=B) (i:=2) (by simp) ((hb.ext hE1).ext hw2) (by simp) rfl rfl sz3 fun W3 hO3 hb3=> ?_
 simp at hb3
 simp [ir304_k0,h0,h1,hb3.cell,i64w (n:=(k:Int)+(n:Int)) (by omega)]
 refine eff_store1 (B:=B) (i:=1) (by simp) hb3 (by simp) rfl rfl sz3 fun W4 hO4 hb4=> ?_
 simp at hb4⊢
 exact ⟨hb4,gb_only (gb_only (gb_ext (gb_ext (gb_refl _ w) hE1) hw2) hO3) hO4⟩
def Class (f:Value) (p:UInt8→Bool):Prop:=∃i,f= .func (.func i) #[] #[]∧callB Tryz.prog i=true∧∀c w,Calls Tryz.prog i #[encB c] w fun e w'=>e= .returned (.bool (p c))∧w'=w
theorem cl_part:Class (.func (.func 165) #[] #[]) part:=⟨165,rfl,by kernel_rfl,t_part⟩
theorem cl_digit:Class (.func (.func 232) #[] #[]) digit:=⟨232,rfl,by kernel_rfl,t_digit⟩
theorem t_run {w:World} {B k:Nat} {s:Bs} {line:Int} {cv f:Value} {p:UInt8→Bool} (hb:Blk w B (scC s k line cv) 217) (hk:k≤s.length) (hs:s.length<4611686018427387904) (hf:Class f p):
  Calls Tryz.prog 307 #[.pointer (some ⟨B,0,none⟩),f] w fun e w'=>e= .returned (.int .i64 (((s.drop k).takeWhile p).length:Int))∧Ext w w':=by
 obtain ⟨i,rfl,hcb,hcl⟩:=hf
 refine ir307_calls fun ρ h0 h1=> ?_
 simp [ir307,h0]
 refine (t_rest hb hk).mono ?_
 rintro _ w1 ⟨rfl,hE⟩
 simp
 generalize hr:s.drop k=r
 have hrl:r.length≤s.length:=by rw [←hr];simp
 refine loopC 11 r.length (fun k ρ' w'=>w'=w1∧ρ' 1= .func (.func i) #[] #[]∧ρ' 5= .string (mkS r)∧ρ' 10= .int .i64 r.length∧∀j (hj:j<r.length),j<k→p r[j]=true) (by simp) ⟨rfl,by simp [h1],by simp [hr],by simp [←hr],by simp⟩ ?_
 rintro k ρ' w' hk h11 ⟨rfl,h1,h5,h10,hall⟩
 by_cases hlt:k<r.length
 ·simp [ir307_l2,ir307_k1,h11,h10,h5,h1,hlt]
  refine eff_callv (f:=i) hcb (fs:= #[]) (caps:= #[]) (by simp) ?_
  simp
  refine (hcl r[k] _).mono ?_
  rintro _ _ ⟨rfl,rfl⟩
  cases hp:p r[k] with
  |true=>
   simp [ir307_k0,h11,h1,h5,h10,i64w (n:=(k:Int)+1) (by omega)]
   intro j hj hjk
   by_cases e:j=k
   ·subst e;exact hp
   ·exact hall j hj (by omega)
  |false=>
   simp
   exact ⟨(tw_len r k (by omega) (fun j hj h=>hall j hj h) fun _=>hp).symm,hE⟩
 ·have hk':k=r.length:=by omega
  subst hk'
  simp [ir307_l2,h11,h10,h5,ir307_k3]
  exact ⟨(tw_len r r.length (Nat.le_refl _) (fun j hj h=>hall j hj h) fun h=>by omega).symm,hE⟩
theorem retK_c1 {t n B:Nat} {ρ:Env} {w:World} {cs:Array Value} {T:TypeId} {R:Ending→World→Prop} (hp:ρ t= .pointer (some ⟨B,0,none⟩)) (hb:Blk w B cs T) (hn:cs.size=n) (h:R (.returned (.agg cs)) w):retK [.cellN t n] R ρ w:=by
 subst hn
 simp only [retK,resVals,RV.val,hp,pv1_loadN,row_blk hb,Option.map_some,Option.bind_some]
 exact h
theorem z134:zeroCellsOf Tryz.prog 289=some #[.nilFunc, .nilFunc, .nilFunc]:=by kernel_rfl
theorem bu134:Tryz.prog.built 289 [(0, .func (.func 165) #[] #[]),(1, .func (.func 232) #[] #[]),(2, .func (.func 346) #[] #[])]=some #[.func (.func 165) #[] #[], .func (.func 232) #[] #[], .func (.func 346) #[] #[]]:=by kernel_rfl
theorem sz134:sizeIs Tryz.prog 289 3=true:=by kernel_rfl
theorem bu31 (a b:Int):Tryz.prog.built 26 [(0, .int .i64 a),(1, .int .i64 b)]=some #[.int .i64 a, .int .i64 b]:=by kernel_rfl
theorem bu84 (a b:Int):Tryz.prog.built 212 [(0, .agg #[.int .i64 a, .int .i64 b])]=some #[.int .i64 a, .int .i64 b]:=by kernel_rfl
theorem t_classes {w:World}:Calls Tryz.prog 303 #[] w fun e w'=>e= .returned (.agg #[.func (.func 165) #[] #[], .func (.func 232) #[] #[], .func (.func 346) #[] #[]])∧Ext w w':=by
 refine ir303_calls fun ρ=> ?_
 simp [ir303]
 refine eff_alloc z134 fun B W hB hE hb _=> ?_
 simp [bu134]
 refine eff_storeN (B:=B) (by simp) hb (by simp [Value.cells]) (by simp [Value.cells];decide) (by simpa [Value.cells] using sz134) fun W2 hO hb2=> ?_
 simp [Value.cells] at hb2
 simp
 refine retK_c1 (by simp) hb2 rfl ?_
 exact ⟨rfl,hO.ext hE hB⟩
theorem t_fail {w:World} {B:Nat} {s:Bs} {a line e:Int} {cv:Value} (hb:Blk w B (scC s a line cv) 217):
  Calls Tryz.prog 308 #[.pointer (some ⟨B,0,none⟩), .int .i64 e] w fun en w'=>en= .panicked [{v:= .iface 212 (.agg #[.int .i64 e, .int .i64 line]),recovered:=false}]∧w'=w:=by
 refine ir308_calls fun ρ h0 h1=> ?_
 simp [ir308,h0,h1,hb.cell,bu31,bu84]
 refine eff_panic (by simp;exact ⟨rfl,rfl⟩) ?_
 simp
end Go.L01
namespace Go.L01
open Go Go.Eng Go.RowKit Go.Proofs
set_option maxRecDepth 100000
set_option maxHeartbeats 2000000
structure Sc (base B:Nat) (W:World) (s:Bs) (k:Nat) (line:Int) (coms:List Bs) (cv:Value):Prop where
 blk:Blk W B (scC s k line cv) 217
 own:Own base 9 1 W cv (coms.map encT)
 ne:cv.ownBlock≠some B
 bB:base≤B
 bW:base≤W.heap.size
 kl:k≤s.length
 sl:s.length≤20000
 l0:1≤line
 l1:line≤(k:Int)+1
 cl:coms.length≤k
structure Tn (B:Nat) (cv cv':Value) (W W':World):Prop where
 os:W'.os=W.os
 tape:W'.tape=W.tape
 output:W'.output=W.output
 size:W.heap.size≤W'.heap.size
 block:∀k,k<W.heap.size→k≠B→cv.ownBlock≠some k→W'.heap[k]? =W.heap[k]?
 own:cv'.ownBlock=cv.ownBlock∨∀k,cv'.ownBlock=some k→W.heap.size≤k
theorem Tn.refl (B:Nat) (cv:Value) (W:World):Tn B cv cv W W:=⟨rfl,rfl,rfl,Nat.le_refl _,fun _ _ _ _=>rfl, .inl rfl⟩
theorem Tn.trans {B:Nat} {a b c:Value} {U V W:World} (h:Tn B a b U V) (k:Tn B b c V W):Tn B a c U W:=by
 refine ⟨k.os.trans h.os,k.tape.trans h.tape,k.output.trans h.output,Nat.le_trans h.size k.size,fun i hi hB ha=> ?_, ?_⟩
 ·rw [k.block i (Nat.lt_of_lt_of_le hi h.size) hB ?_,h.block i hi hB ha]
  rcases h.own with h'|h'
  ·rw [h'];exact ha
  ·intro e;have:=h' i e;omega
 ·rcases k.own with k'|k'
  ·rcases h.own with h'|h'
   ·exact .inl (k'.trans h')
   ·exact .inr fun i hi=>h' i (k'▸hi)
  ·exact .inr fun i hi=>Nat.le_trans h.size (k' i hi)
theorem Tn.ext {B:Nat} {a:Value} {U V:World} (h:Ext U V):Tn B a a U V:=⟨h.os,h.tape,h.output,h.size,fun k hk _ _=>h.block k hk, .inl rfl⟩
theorem Tn.gb {B:Nat} {a:Value} {U V:World} (h:U.grownBy V (some B)):Tn B a a U V:=⟨h.os,h.tape,h.output,h.size,fun k hk hB _=>h.block k hk (by simpa using hB), .inl rfl⟩
theorem Sc.ext {base B:Nat} {W W':World} {s:Bs} {k:Nat} {line:Int} {coms:List Bs} {cv:Value} (h:Sc base B W s k line coms cv) (hE:Ext W W'):Sc base B W' s k line coms cv:=
 ⟨h.blk.ext hE,h.own.ext hE,h.ne,h.bB,Nat.le_trans h.bW hE.size,h.kl,h.sl,h.l0,h.l1,h.cl⟩
theorem Sc.line {base B:Nat} {W:World} {s:Bs} {k:Nat} {line:Int} {coms:List Bs} {cv:Value} (h:Sc base B W s k line coms cv):0≤line∧line≤4611686018427387904:=by
 have:=h.l0;have:=h.l1;have:=h.kl;have:=h.sl;omega
theorem Sc.short {base B:Nat} {W:World} {s:Bs} {k:Nat} {line:Int} {coms:List Bs} {cv:Value} (h:Sc base B W s k line coms cv):s.length<4611686018427387904:=by
 have:=h.sl;omega
theorem sc_over {base B:Nat} {W:World} {s:Bs} {k n:Nat} {line:Int} {coms:List Bs} {cv:Value} (h:Sc base B W s k line coms cv) (hn:k+n≤s.length):
  Calls Tryz.prog 304 #[.pointer (some ⟨B,0,none⟩), .int .i64 (n:Int)] W fun e w'=>e= .returned (.string (mkS ((s.drop k).take n)))∧Sc base B w' s (k+n) (line+((((s.drop k).take n).count 10:Nat):Int)) coms cv∧Tn B cv cv W w':=by
 refine (t_over h.blk hn h.short h.line).mono ?_
 rintro _ w' ⟨rfl,hb,hg⟩
 have hcl:((s.drop k).take n).count 10≤n:=by
  refine Nat.le_trans List.count_le_length ?_
  simp;omega
 have:=h.l0;have:=h.l1;have:=h.cl;have:=h.bW;have:=hg.size
 refine ⟨rfl,⟨by simpa using hb,h.own.kept hg (.inr h.ne),h.ne,h.bB,by omega,hn,h.sl,by omega,by simp;omega,by omega⟩,Tn.gb hg⟩
def atOf (w:World) (B:Nat):Nat:=match w.cell? ⟨B,1,none⟩ with
 |some (.int _ n)=>n.toNat
 |_=>0
theorem Sc.at {base B:Nat} {W:World} {s:Bs} {k:Nat} {line:Int} {coms:List Bs} {cv:Value} (h:Sc base B W s k line coms cv):atOf W B=k:=by
 simp [atOf,h.blk.cell]
structure Skipped (base B:Nat) (w0 w:World) (s:Bs) (k0:Nat) (l0:Int) (c0:List Bs) (v0:Value) (k:Nat) (l:Int) (new:List Bs) (v:Value):Prop where
 sc:Sc base B w s k l (c0++new) v
 tn:Tn B v0 v w0 w
 le:k0≤k
 eq:scanAt (s.drop k0) l0=(scanAt (s.drop k) l).add [] new
def stop (s:Bs) (k:Nat):Prop:=∀h:k<s.length,blank s[k]=false∧s[k]≠37
theorem drop_at {s:Bs} {k:Nat} (h:k<s.length):s.drop k=s[k]::s.drop (k+1):=List.drop_eq_getElem_cons h
theorem scan_blank {c:UInt8} {r:Bs} {l:Int} (h:blank c=true):scanAt (c::r) l=scanAt r (l+(((c::r).take 1).count 10:Nat)):=by
 simp only [blank,Bool.or_eq_true,decide_eq_true_eq] at h
 by_cases h10:c=10
 ·subst h10
  rw [scanAt_nl];simp
 ·have h2:c=32∨c=9:=by
   rcases h with (h|h)|h
   ·exact .inl h
   ·exact .inr h
   ·exact absurd h h10
  rw [scanAt_sp r l h2]
  have:((c::r).take 1).count 10=0:=by simp [h10]
  rw [this];simp
section
variable {P:Program} {Q:Ks} {d:Option Nat} {ty:TypeId} {K:Env→World→Prop} {ρ:Env} {w:World}
theorem eff_appendG {t e sz bytes:Nat} (hi:rowInfo P t=some (e,sz,bytes)) {base:Nat} (hbase:base≤w.heap.size) {s x:Operand} {sv xv:Value} (hs:evE ρ s=sv) (hx:evE ρ x=xv) {xs news:List Value}
  (hown:Own base e sz w sv xs) (hnew:Cells w xv sz news) (h1:∀u∈news,u.oneCell'=true)
  (hlen:xs.length+news.length<4611686018427387904) (hbytes:(xs.length+news.length)*bytes≤140737488355328*sz)
  (h:∀v' W,Own base e sz W v' (xs++news)→w.grownBy W sv.ownBlock→(v'.ownBlock=sv.ownBlock∨v'.ownBlock=some w.heap.size)→K (updO ρ d v') W):effW P Q d (.call {callee:= .builtin .append,args:= #[s,x],argTypes:= #[t,t]}) ty K ρ w:=by
 subst hs;subst hx
 obtain ⟨v',W,hr,ho,hg,hfr⟩:=run_append (P:=P) (ty:=ty) hi hown hnew h1 hlen hbytes hbase
 refine effE_ok (v:=v') (w':=W) ?_ (h v' W ho hg hfr)
 simp only [execOp,effOp,resolve,invoke,builtin,Sem.run_bind,Sem.run_pure,Result.andThen_ok,List.map_toArray,List.map_cons,List.map_nil,hr]
end
theorem own_one {base e sz:Nat} {w:World} {v:Value} {xs:List Value} (h:Own base e sz w v xs):v.cells= #[v]∧v.oneCell=true:=by
 rcases h with ⟨rfl,_⟩|⟨g,off,n,cap,cur,rfl,_⟩<;>exact ⟨rfl,rfl⟩
theorem own_cells {base e sz:Nat} {w:World} {v:Value} {xs:List Value} (h:Own base e sz w v xs):Cells w v sz xs:=by
 have his:=h.isl
 rcases h with ⟨rfl,rfl⟩|⟨g,off,n,cap,cur,rfl,hb,hg,hl,hc,hm,hs,ht⟩
 ·exact ⟨rfl,by simp [slLen],fun j hj=>by simp at hj⟩
 ·refine ⟨his,hl,fun j hj=> ?_⟩
  have h2:((cur.toList.drop off).take (n*sz))[j]? =xs[j]? :=by rw [ht]
  rw [List.getElem?_take,if_pos (by omega),List.getElem?_drop] at h2
  simp only [slAddr,add_lit,World.cell?,hg]
  simpa [hj] using h2
theorem ri25:rowInfo Tryz.prog 51=some (9,1,16):=by kernel_rfl
theorem sz25:sizeIs Tryz.prog 51 1=true:=by kernel_rfl
theorem idx_com:∀l:Bs,(Lib.indexByte l 10= -1∧comLen l=l.length)∨(Lib.indexByte l 10=comLen l)
 |[]=> .inl ⟨rfl,rfl⟩
 |c::l=>by
  by_cases h:c=10
  ·subst h;right;simp [Lib.indexByte,comLen]
  ·have hc:comLen (c::l)=comLen l+1:=by simp [comLen,List.takeWhile_cons,h]
   rcases idx_com l with ⟨h1,h2⟩|h1
   ·left
    refine ⟨?_,by rw [hc,h2];rfl⟩
    simp [Lib.indexByte,h,h1]
   ·right
    rw [hc]
    have:¬(comLen l:Int)= -1:=by omega
    simp [Lib.indexByte,h,this,h1]
theorem com_count (s:Bs):((s.take (comLen s)).count 10)=0:=by
 rw [List.count_eq_zero]
 intro h
 rw [comLen,takeWhile_all] at h
 have:=List.all_eq_true.1 (List.all_takeWhile (p:=fun c=>decide (c≠10)) (l:=s)) 10 h
 simp at this
theorem scan_com37 {r t:Bs} {l:Int} (h:r=37::t):scanAt r l=(scanAt (r.drop (comLen r)) l).add [] [r.take (comLen r)]:=by
 subst h
 rw [scanAt_cons,if_neg (by decide),if_neg (by decide),if_pos rfl]
def SkPost (base B:Nat) (w:World) (s:Bs) (k0:Nat) (l0:Int) (c0:List Bs) (v0:Value):Ending→World→Prop:=
 fun e w'=>e= .returned (.tuple #[])∧∃k l new v,Skipped base B w w' s k0 l0 c0 v0 k l new v∧stop s k
def SkInv (base B:Nat) (w:World) (s:Bs) (k0:Nat) (l0:Int) (c0:List Bs) (v0:Value):Env→World→Prop:=
 fun ρ' w'=>ρ' 0= .pointer (some ⟨B,0,none⟩)∧ρ' 2= .func (.func 346) #[] #[]∧∃k l new v,Skipped base B w w' s k0 l0 c0 v0 k l new v
theorem t_skip {base B:Nat} {w:World} {s:Bs} {k0:Nat} {l0:Int} {c0:List Bs} {v0:Value} (h:Sc base B w s k0 l0 c0 v0):
  Calls Tryz.prog 266 #[.pointer (some ⟨B,0,none⟩)] w (SkPost base B w s k0 l0 c0 v0):=by
 refine ir266_calls fun ρ h0=> ?_
 simp [ir266]
 refine t_classes.mono ?_
 rintro _ w1 ⟨rfl,hE1⟩
 simp
 refine eff_indexA (n:=3) (k:=2) (e:=288) (v:= .func (.func 346) #[] #[]) (cs:= #[.func (.func 165) #[] #[], .func (.func 232) #[] #[], .func (.func 346) #[] #[]]) (inf:=_) (by kernel_rfl) rfl (by kernel_rfl) (by simp) (by simp;rfl) (by decide) rfl (by kernel_rfl) ?_
 simp
 refine raw_label ?_
 simp [ir266_k6]
 refine loopI (SkInv base B w s k0 l0 c0 v0) (fun _ w'=>s.length - atOf w' B) ⟨by simp [h0],by simp,k0,l0,[],v0,⟨by simpa using h.ext hE1,Tn.ext hE1,Nat.le_refl _,by simp⟩⟩ ?_
 rintro ρ' w' ⟨h0,h2,k,l,new,v,hS⟩
 have hat:=hS.sc.at
 have hb:=hS.sc.blk
 by_cases hlt:k<s.length
 ·simp [ir266_l5,h0,hb.cell,hlt]
  intro w2 hE2
  have hb2:=hb.ext hE2
  have hS2:=hS.sc.ext hE2
  have hT2:=hS.tn.trans (Tn.ext hE2)
  simp [ir266_k4,ir266_k3]
  refine raw_ord ir266_o2_ok (Ext w2) fun w3 hE3 _=>⟨hE3, ?_⟩
  have hc:∀w',Ext w2 w'→∀i,w'.cell? ⟨B,i,none⟩=(scC s k l v)[i]? :=fun w' h=>(hb2.ext h).cell
  simp+contextual [ir266_o2,h0,h2,hc,hE3,hlt,str_ix hlt]
  refine eff_callv (f:=346) (by kernel_rfl) (fs:= #[]) (caps:= #[]) (by simp) ?_
  simp
  refine (t_blank s[k] w3).mono ?_
  rintro _ w3 ⟨rfl,rfl⟩
  have hS3:=hS2.ext hE3
  have hT3:=hT2.trans (Tn.ext hE3)
  cases hbl:blank s[k] with
  |true=>
   simp [ir266_k2,h0]
   refine (sc_over (n:=1) hS3 (by omega)).mono ?_
   rintro _ w4 ⟨rfl,hS4,hT4⟩
   simp
   refine ⟨⟨by simp [h0],by simp [h2],k+1,_,new,v,hS4,hT3.trans hT4,by have:=hS.le;omega, ?_⟩, ?_⟩
   ·rw [hS.eq,drop_at hlt,scan_blank hbl]
   ·rw [hS4.at,hat];omega
  |false=>
   have hu:=u8_eq s[k] 37 (by decide)
   have hc3:=hc w3 hE3
   have hst:∀w4,Ext w3 w4→SkPost base B w s k0 l0 c0 v0 (Ending.returned (Value.tuple #[])) w4∨s[k]=37:=by
    intro w4 hE4
    by_cases h37:s[k]=37
    ·exact .inr h37
    ·exact .inl ⟨rfl,k,l,new,v,⟨hS3.ext hE4,hT3.trans (Tn.ext hE4),hS.le,hS.eq⟩,fun _=>⟨hbl,h37⟩⟩
   by_cases h37:s[k]=37
   ·have h37':(s[k].toNat:Int)=37:=hu.2 h37
    simp [ir266_k2,h0,hc3,hlt,str_ix hlt,h37',ir266_k1]
    intro w4 hE4
    have hS4:=hS3.ext hE4
    have hT4:=hT3.trans (Tn.ext hE4)
    refine (t_rest hS4.blk hS4.kl).mono ?_
    rintro _ w5 ⟨rfl,hE5⟩
    have hS5:=hS4.ext hE5
    have hT5:=hT4.trans (Tn.ext hE5)
    simp
    refine (Tryz.indexByte (mkS (s.drop k)) 10 w5).mono ?_
    rintro _ w5 ⟨rfl,rfl⟩
    have hix:Lib.indexByte (mkS (s.drop k)).data.toList (Int.toNat 10).toUInt8=Lib.indexByte (s.drop k) 10:=rfl
    rw [hix]
    have hn1:1≤comLen (s.drop k):=by rw [drop_at hlt,h37];exact comLen_pos _
    have hn2:comLen (s.drop k)≤s.length - k:=by have:=comLen_le (s.drop k);simpa using this
    have hpast:∀(ρ2:Env) (w6:World),ρ2 0= .pointer (some ⟨B,0,none⟩)→ρ2 2= .func (.func 346) #[] #[]→ρ2 3= .int .i64 (comLen (s.drop k):Int)→Ext w5 w6→
     ir266_k0.wp ⟨Tryz.prog,75,ir266_V,[]⟩ (fun ρ'' w''=>SkInv base B w s k0 l0 c0 v0 ρ'' w''∧s.length - atOf w'' B<s.length - atOf w' B) (((((ksOf [] (SkPost base B w s k0 l0 c0 v0)).blk 0 (retK [] (SkPost base B w s k0 l0 c0 v0))).blk 1 (fun ρ'' w''=>SkInv base B w s k0 l0 c0 v0 ρ'' w''∧s.length - atOf w'' B<s.length - atOf w' B)).blk 2 (fun ρ'' w''=>SkInv base B w s k0 l0 c0 v0 ρ'' w''∧s.length - atOf w'' B<s.length - atOf w' B))) ρ2 w6:=by
     intro ρ2 w6 h0 h2 h3 hE6
     have hS6:=hS5.ext hE6
     have hT6:=hT5.trans (Tn.ext hE6)
     simp only [ir266_k0]
     refine raw_ord ir266_o8_ok (fun W=>W.cell? ⟨B,3,none⟩=some v) fun w7 hE7 _=> ?_
     have hS7:=hS6.ext hE7
     have hT7:=hT6.trans (Tn.ext hE7)
     refine ⟨by simp [hS7.blk.cell], ?_⟩
     simp+contextual [ir266_o8,h0,h3,hS7.blk.cell]
     refine (sc_over (n:=comLen (s.drop k)) hS7 (by omega)).mono ?_
     rintro _ w8 ⟨rfl,hS8,hT8⟩
     rw [com_count] at hS8
     simp [hS8.blk.cell]
     refine eff_lit si25 (by decide) (by decide) (by simp [Value.cells]) fun B9 W9 hB9 hE9 hb9 _=> ?_
     have hS9:=hS8.ext hE9
     simp [Value.cells] at hb9
     simp [hS9.blk.cell]
     have hcl:=hS9.cl
     have hO9:Own base 9 1 W9 (.slice (some ⟨B9,0,none⟩) 1 1) [encT ((s.drop k).take (comLen (s.drop k)))]:=Own.lit (cs:=[encT ((s.drop k).take (comLen (s.drop k)))]) hb9 rfl (Nat.le_trans hS8.bW hB9) (by decide)
     have hnew:Cells W9 (.slice (some ⟨B9,0,none⟩) 1 1) 1 [encT ((s.drop k).take (comLen (s.drop k)))]:=own_cells hO9
     have hk9:=hS9.kl
     have hs9:=hS9.sl
     refine eff_appendG ri25 hS9.bW (by simp) (by simp) hS9.own hnew (by simp [encT];rfl) (by simp at hcl⊢;omega) (by simp at hcl⊢;omega) fun v' W10 ho10 hg10 hf10=> ?_
     have hb10:Blk W10 B _ 217:=⟨(hg10.block B hS9.blk.lt (fun e=>hS9.ne e.symm)).trans hS9.blk.heap⟩
     simp [hb10.cell]
     have h1:=own_one ho10
     refine eff_store1 (B:=B) (i:=3) (by simp) hb10 (by simp) (by simpa using h1.1) (by simpa using h1.2) sz25 fun W11 hO11 hb11=> ?_
     simp at hb11
     have hne':v'.ownBlock≠some B:=by
      rcases hf10 with e|e
      ·rw [e];exact hS9.ne
      ·rw [e]
       have:=hS9.blk.lt
       intro h;cases h;omega
     have hown11:Own base 9 1 W11 v' ((c0++(new++[(s.drop k).take (comLen (s.drop k))])).map encT):=by
      have:=ho10.kept (only_grownBy hO11) (.inr hne')
      simpa using this
     have hsz10:=hg10.size
     have hS11:Sc base B W11 s (k+comLen (s.drop k)) l (c0++(new++[(s.drop k).take (comLen (s.drop k))])) v':=
      ⟨by simpa using hb11,hown11,hne',hS9.bB,by have:=hS9.bW;rw [hO11.size];omega,hk9,hs9,hS6.l0,by have:=hS6.l1;omega,by have:=hS6.cl;simp at this⊢;omega⟩
     have hT10:Tn B v v' W9 W10:=⟨hg10.os,hg10.tape,hg10.output,hg10.size,fun k hk _ hv=>hg10.block k hk (fun e=>hv e.symm),by
      rcases hf10 with e|e
      ·exact .inl e
      ·exact .inr fun i hi=>by rw [e] at hi;cases hi;exact Nat.le_refl _⟩
     have hT11:Tn B v0 v' w W11:=(((hT7.trans hT8).trans (Tn.ext hE9)).trans hT10).trans (Tn.gb (only_grownBy hO11))
     simp
     refine ⟨⟨by simp [h0],by simp [h2],_,_,_,_,hS11,hT11,by have:=hS.le;omega, ?_⟩, ?_⟩
     ·rw [hS.eq]
      have:scanAt (s.drop k) l=(scanAt (s.drop (k+comLen (s.drop k))) l).add [] [(s.drop k).take (comLen (s.drop k))]:=by
       rw [←List.drop_drop]
       exact scan_com37 (by rw [drop_at hlt,h37])
      rw [this,Res.add_add]
      rfl
     ·rw [hS11.at,hat];omega
    rcases idx_com (s.drop k) with ⟨e1,e2⟩|e1
    ·rw [e1]
     simp [h0]
     refine (t_rest hS5.blk hS5.kl).mono ?_
     rintro _ w6 ⟨rfl,hE6⟩
     simp
     exact hpast _ _ (by simp [h0]) (by simp [h2]) (by simp [e2]) hE6
    ·rw [e1]
     simp
     exact hpast _ _ (by simp [h0]) (by simp [h2]) (by simp) (ext_refl _)
   ·have h37':¬(s[k].toNat:Int)=37:=fun h=>h37 (hu.1 h)
    simp [ir266_k2,h0,hc3,hlt,str_ix hlt,h37',ir266_k1]
    intro w4 hE4
    rcases hst w4 hE4 with h|h
    ·exact h
    ·exact absurd h h37
 ·simp [ir266_l5,h0,hb.cell,hlt,ir266_k4]
  intro w2 hE2
  exact ⟨rfl,k,l,new,v,⟨hS.sc.ext hE2,hS.tn.trans (Tn.ext hE2),hS.le,hS.eq⟩,fun h=>absurd h hlt⟩
end Go.L01
namespace Go.L01
open Go Go.Eng Go.RowKit Go.Proofs
set_option maxRecDepth 100000
set_option maxHeartbeats 2000000
theorem z38:zeroCellsOf Tryz.prog 53=some #[.int .u8 0, .string ⟨#[]⟩, .int .i64 0]:=by kernel_rfl
theorem bu38l (l:Int):Tryz.prog.built 53 [(2, .int .i64 l)]=some #[.int .u8 0, .string ⟨#[]⟩, .int .i64 l]:=by kernel_rfl
theorem sz38:sizeIs Tryz.prog 53 3=true:=by kernel_rfl
theorem sz5:sizeIs Tryz.prog 5 1=true:=by kernel_rfl
theorem sz9:sizeIs Tryz.prog 9 1=true:=by kernel_rfl
def clV:Array Value:= #[.func (.func 165) #[] #[], .func (.func 232) #[] #[], .func (.func 346) #[] #[]]
def brk (e l:Int):Ending:= .panicked [{v:= .iface 212 (.agg #[.int .i64 e, .int .i64 l]),recovered:=false}]
def NxPost (base B:Nat) (w:World) (s:Bs) (k:Nat) (l:Int) (coms:List Bs) (cv:Value):Ending→World→Prop:=fun e w'=>
 Tn B cv cv w w'∧
 (((first (s.drop k)).2.2=0∧e= .returned (encK ⟨(first (s.drop k)).1,(s.drop k).take (first (s.drop k)).2.1,l⟩)∧Sc base B w' s (k+(first (s.drop k)).2.1) l coms cv)∨
  ((first (s.drop k)).2.2≠0∧e=brk (first (s.drop k)).2.2 l))
theorem Tn.blk {B C:Nat} {cv cv':Value} {W W':World} {cs:Array Value} {t:TypeId} (h:Tn B cv cv' W W') (hb:Blk W C cs t) (h1:C≠B) (h2:cv.ownBlock≠some C):Blk W' C cs t:=⟨(h.block C hb.lt h1 h2).trans hb.heap⟩
theorem Sc.off {base B:Nat} {W:World} {s:Bs} {k:Nat} {line:Int} {coms:List Bs} {cv:Value} (h:Sc base B W s k line coms cv) {C:Nat} (hC:W.heap.size≤C):C≠B∧cv.ownBlock≠some C:=by
 refine ⟨?_, ?_⟩
 ·have:=h.blk.lt;omega
 ·intro e;have:=(h.own.blk C e).2;omega
theorem Sc.only {base B C:Nat} {W W':World} {s:Bs} {k:Nat} {line:Int} {coms:List Bs} {cv:Value} (h:Sc base B W s k line coms cv) (hO:Only C W W') (h1:C≠B) (h2:cv.ownBlock≠some C):Sc base B W' s k line coms cv:=
 ⟨hO.blk h.blk (Ne.symm h1),h.own.kept (only_grownBy hO) (.inr h2),h.ne,h.bB,by rw [hO.size];exact h.bW,h.kl,h.sl,h.l0,h.l1,h.cl⟩
theorem Tn.new {B C:Nat} {a b:Value} {U V W:World} (h:Tn B a b U V) (hO:Only C V W) (hC:U.heap.size≤C):Tn B a b U W:=
 ⟨hO.os.trans h.os,hO.tape.trans h.tape,hO.output.trans h.output,by rw [hO.size];exact h.size,fun k hk h1 h2=>(hO.block k (by omega)).trans (h.block k hk h1 h2),h.own⟩
section
variable {base B:Nat} {w:World} {s:Bs} {k:Nat} {l:Int} {coms:List Bs} {cv:Value}
theorem nx_end {ρ:Env} {W:World} {B2 B3:Nat} {z:Array Value} {kd:Int} {tx:Bs} {Q:Ks} {R:Ending→World→Prop} (h2:ρ 2= .pointer (some ⟨B2,0,none⟩)) (h3:ρ 3= .pointer (some ⟨B3,0,none⟩)) (hb2:Blk W B2 z 53) (hz:z.size=3)
  (hb3:Blk W B3 #[.int .u8 kd, .string (mkS tx), .int .i64 l] 53) (hq:∀ρ w,Q.rt ρ w=retK [.cellN 2 3] R ρ w) (h:∀W',Only B2 W W'→R (.returned (.agg #[.int .u8 kd, .string (mkS tx), .int .i64 l])) W') {KK:Env→World→Prop}:
  ir267_k9.wp ⟨Tryz.prog,114,ir267_V,[]⟩ KK Q ρ W:=by
 simp [ir267_k9,h3,hb3.cell]
 refine eff_storeN (B:=B2) (by simpa using h2) hb2 (by simp [Value.cells,hz]) (by simp [Value.cells]) (by rw [hz];exact sz38) fun W2 hO hb=> ?_
 simp [Value.cells] at hb
 simp [hq]
 refine retK_c1 (by simpa using h2) hb rfl ?_
 exact h W2 hO
theorem first_at (hlt:k<s.length):(s.drop k).getD 0 0=s[k]:=by rw [drop_at hlt];rfl
theorem tok_count {k' n:Nat} {r:Bs} (h:right k' (r.take n)=true):(r.take n).count 10=0:=by
 rw [List.count_eq_zero]
 intro hm
 exact (right_bytes h 10 hm).1 rfl
structure Nx (base B:Nat) (w:World) (s:Bs) (k:Nat) (l:Int) (coms:List Bs) (cv:Value) (B2 B3 B4:Nat) (kd:Int) (ρ:Env) (W:World):Prop where
 r0:ρ 0= .pointer (some ⟨B,0,none⟩)
 r2:ρ 2= .pointer (some ⟨B2,0,none⟩)
 r3:ρ 3= .pointer (some ⟨B3,0,none⟩)
 r4:ρ 4= .pointer (some ⟨B4,0,none⟩)
 sc:Sc base B W s k l coms cv
 b2:Blk W B2 #[.int .u8 0, .string ⟨#[]⟩, .int .i64 0] 53
 b3:Blk W B3 #[.int .u8 kd, .string ⟨#[]⟩, .int .i64 l] 53
 b4:Blk W B4 clV 289
 tn:Tn B cv cv w W
 n2:w.heap.size≤B2∧B2<B3∧B3<B4
 n3:B3≠B∧B2≠B
 n4:cv.ownBlock≠some B3∧cv.ownBlock≠some B2
 g:G W
 gw:G w
theorem Nx.env {B2 B3 B4:Nat} {kd:Int} {ρ ρ':Env} {W:World} (h:Nx base B w s k l coms cv B2 B3 B4 kd ρ W) (h0:ρ' 0=ρ 0) (h2:ρ' 2=ρ 2) (h3:ρ' 3=ρ 3) (h4:ρ' 4=ρ 4):Nx base B w s k l coms cv B2 B3 B4 kd ρ' W:=
 ⟨h0.trans h.r0,h2.trans h.r2,h3.trans h.r3,h4.trans h.r4,h.sc,h.b2,h.b3,h.b4,h.tn,h.n2,h.n3,h.n4,h.g,h.gw⟩
theorem Nx.ext {B2 B3 B4:Nat} {kd:Int} {ρ:Env} {W W':World} (h:Nx base B w s k l coms cv B2 B3 B4 kd ρ W) (hE:Ext W W'):Nx base B w s k l coms cv B2 B3 B4 kd ρ W':=
 ⟨h.r0,h.r2,h.r3,h.r4,h.sc.ext hE,h.b2.ext hE,h.b3.ext hE,h.b4.ext hE,h.tn.trans (Tn.ext hE),h.n2,h.n3,h.n4,h.g.ext hE,h.gw⟩
theorem Nx.kind {B2 B3 B4:Nat} {kd kd':Int} {ρ:Env} {W W':World} (h:Nx base B w s k l coms cv B2 B3 B4 kd ρ W) (hE:Ext w W) (hO:Only B3 W W') (hb:Blk W' B3 #[.int .u8 kd', .string ⟨#[]⟩, .int .i64 l] 53) (hg:G W'):Nx base B w s k l coms cv B2 B3 B4 kd' ρ W':=by
 obtain ⟨a,b,c⟩:=h.n2
 exact ⟨h.r0,h.r2,h.r3,h.r4,h.sc.only hO h.n3.1 h.n4.1,hO.blk h.b2 (by omega),hb,hO.blk h.b4 (by omega),h.tn.new hO (by omega),h.n2,h.n3,h.n4,hg,h.gw⟩
theorem nx_over {B2 B3 B4 n kd:Nat} {ρ:Env} {W:World} (h:Nx base B w s k l coms cv B2 B3 B4 (kd:Int) ρ W) (hf:first (s.drop k)=(kd,n,0)) (hne:s.drop k≠[]) {d1 d2 d3 d4 vn:Nat} (hvn:ρ vn= .int .i64 (n:Int))
  (hd:5≤d1∧5≤d2∧5≤d3∧5≤d4∧d1≠vn∧d1≠d2∧d3≠d4) {KK:Env→World→Prop} {Q:Ks} (hK:∀ρ W,KK ρ W=ir267_k9.wp ⟨Tryz.prog,114,ir267_V,[]⟩ (retK [.cellN 2 3] (NxPost base B w s k l coms cv)) (ksOf [.cellN 2 3] (NxPost base B w s k l coms cv)) ρ W):
  (IR.reg [.asg none d1 (.op1 (.fadr 0) (.op1 .nilc (.var 0))), .asg none d2 (.var vn),
   .eff none (some d3) (.call {callee:= .value (.func 304),args:= #[(.tmp d1),(.tmp d2)],argTypes:= #[215,3]}) 9,
   .asg none d4 (.op1 (.fadr 1) (.var 3)), .eff none none (.store 9 (.tmp d4) (.tmp d3)) 0]).wp ⟨Tryz.prog,114,ir267_V,[]⟩ KK Q ρ W:=by
 have hlen:=first_len (s:=s.drop k) (by rw [hf]) hne
 have hright:=(first_is hne (by rw [hf])).1
 rw [hf] at hlen hright
 simp only [List.length_drop] at hlen
 have hkl:=h.sc.kl
 obtain ⟨e1,e2,e3,e4,e5,e6,e7⟩:=hd
 have hcnt:=tok_count hright
 have f0:(0:Nat)≠d1:=by omega
 have f3:∀d,5≤d→(3:Nat)≠d:=by omega
 have f2:∀d,5≤d→(2:Nat)≠d:=by omega
 simp [h.r0,hvn,f0,e5,e6,e7,Ne.symm e5]
 refine (sc_over (n:=n) h.sc (by omega)).mono ?_
 rintro _ W1 ⟨rfl,hS1,hT1⟩
 rw [hcnt] at hS1
 have hb31:=hT1.blk h.b3 h.n3.1 h.n4.1
 have hb21:=hT1.blk h.b2 h.n3.2 h.n4.2
 simp [h.r3,f3 _ e1,f3 _ e2,f3 _ e3,f3 _ e4]
 refine eff_store1 (B:=B3) (i:=1) (by simp) hb31 (by simp) (by simp [e7];rfl) (by simp [e7]) sz9 fun W2 hO2 hb2=> ?_
 simp [e7] at hb2
 show KK _ _
 rw [hK]
 obtain ⟨n1,n2,n3⟩:=h.n2
 refine nx_end (by simp [f2 _ e1,f2 _ e2,f2 _ e3,f2 _ e4,h.r2]) (by simp [f3 _ e1,f3 _ e2,f3 _ e3,f3 _ e4,h.r3]) (hO2.blk hb21 (by omega)) rfl hb2 (fun _ _=>rfl) fun W3 hO3=> ?_
 have hS3:=(hS1.only hO2 h.n3.1 h.n4.1).only hO3 h.n3.2 h.n4.2
 have hT3:=((h.tn.trans hT1).new hO2 (by omega)).new hO3 n1
 refine ⟨hT3, .inl ⟨by rw [hf], ?_, ?_⟩⟩
 ·rw [hf]
  simp [encK]
 ·rw [hf]
  simpa using hS3
theorem Nx.brk {B2 B3 B4:Nat} {kd:Int} {ρ:Env} {W:World} (h:Nx base B w s k l coms cv B2 B3 B4 kd ρ W) {e:Int} (he:(first (s.drop k)).2.2=e) (h0:e≠0):NxPost base B w s k l coms cv (brk e l) W:=
 ⟨h.tn, .inr ⟨by rw [he];exact h0,by rw [he]⟩⟩
abbrev nxR (base B:Nat) (w:World) (s:Bs) (k:Nat) (l:Int) (coms:List Bs) (cv:Value):Env→World→Prop:=retK [.cellN 2 3] (NxPost base B w s k l coms cv)
abbrev nxQ (base B:Nat) (w:World) (s:Bs) (k:Nat) (l:Int) (coms:List Bs) (cv:Value):Ks:=ksOf [.cellN 2 3] (NxPost base B w s k l coms cv)
theorem nx_letter {B2 B3 B4:Nat} {ρ:Env} {W:World} (h:Nx base B w s k l coms cv B2 B3 B4 0 ρ W) (hE:Ext w W) (hlt:k<s.length) (hc:letter s[k]=true) {Q:Ks} (hQ:∀ρ c w',Q.pn ρ c w'=NxPost base B w s k l coms cv (.panicked c) w') {KK:Env→World→Prop} (hK:∀ρ W,KK ρ W=ir267_k9.wp (Cx.mk Tryz.prog 114 ir267_V []) (nxR base B w s k l coms cv) (nxQ base B w s k l coms cv) ρ W):
  (IR.raw (rawReg ir267_body 16)).wp (Cx.mk Tryz.prog 114 ir267_V []) (ir267_k1.wp (Cx.mk Tryz.prog 114 ir267_V []) KK Q) Q ρ W:=by
 have hne:s.drop k≠[]:=by rw [drop_at hlt];exact List.cons_ne_nil _ _
 have hfr:first (s.drop k)=if isWord ((s.drop k).take (runL (s.drop k))) then (2,runL (s.drop k),0) else if 12<runL (s.drop k) then (0,0,12) else (1,runL (s.drop k),0):=by
  unfold first
  rw [if_pos (by rw [first_at hlt];exact hc)]
 have hkl:=h.sc.kl
 refine raw_ord ir267_o16_ok (Ext W) (fun w3 hE3 _=>⟨hE3, ?_⟩) (fun _ _ ρ v c w h=>by rw [hQ] at h⊢;exact h)
 have h3:=h.ext hE3
 have hc4:∀w',Ext W w'→∀i,w'.cell? ⟨B4,i,none⟩=clV[i]? :=fun w' hh=>(h.b4.ext hh).cell
 simp -implicitDefEqProofs [ir267_o16,h.r0]
 refine eff_ixaA (n:=3) (k:=0) (e:=288) (inf:=_) (by kernel_rfl) rfl (by kernel_rfl) (by simp;exact h.r4) (by simp;rfl) (by decide) ?_
 simp+contextual -implicitDefEqProofs [hc4,hE3,clV]
 refine (t_run h3.sc.blk hkl h3.sc.short cl_part).mono ?_
 rintro _ W4 ⟨rfl,hE4⟩
 have h4:=h3.ext hE4
 have hE14:=(hE.trans' hE3).trans' hE4
 have hrun:((s.drop k).takeWhile part).length=runL (s.drop k):=rfl
 simp [hrun,ir267_k1,h.r0]
 refine (t_rest h4.sc.blk hkl).mono ?_
 rintro _ W5 ⟨rfl,hE5⟩
 have h5:=h4.ext hE5
 have hE15:=hE14.trans' hE5
 have hrl:runL (s.drop k)≤s.length - k:=by have:=takeWhile_le part (s.drop k);simpa [runL] using this
 have hcut:(mkS (s.drop k)).extract 0 (runL (s.drop k))=mkS ((s.drop k).take (runL (s.drop k))):=by
  have:=cut_ext (s.drop k) 0 (runL (s.drop k))
  simpa using this
 simp [h.r3,hrl,hcut]
 refine eff_store1 (B:=B3) (i:=0) (by simp) h5.b3 (by simp) rfl rfl sz5 fun W6 hO6 hb6=> ?_
 simp at hb6
 obtain ⟨n1,n2,n3⟩:=h.n2
 have hE16:Ext w W6:=hO6.ext hE15 (by omega)
 have hg6:G W6:=h.gw.ext hE16
 have h6:Nx base B w s k l coms cv B2 B3 B4 ((1:Nat):Int) ρ W6:=h5.kind hE15 hO6 hb6 hg6
 simp
 refine (t_isWord hg6 _).mono ?_
 rintro _ W7 ⟨rfl,hE7⟩
 have h7:=h6.ext hE7
 have hE17:=hE16.trans' hE7
 cases hw:isWord ((s.drop k).take (runL (s.drop k))) with
 |true=>
  rw [hw,if_pos rfl] at hfr
  simp [h.r3]
  refine eff_store1 (B:=B3) (i:=0) (by simp) h7.b3 (by simp) rfl rfl sz5 fun W8 hO8 hb8=> ?_
  simp at hb8⊢
  have hE18:Ext w W8:=hO8.ext hE17 (by omega)
  have h8:Nx base B w s k l coms cv B2 B3 B4 ((2:Nat):Int) ρ W8:=h7.kind hE17 hO8 hb8 (h.gw.ext hE18)
  exact nx_over (h8.env (by simp) (by simp) (by simp) (by simp)) hfr hne (by simp) (by omega) hK
 |false=>
  rw [hw,if_neg (by simp)] at hfr
  by_cases h12:12<runL (s.drop k)
  ·rw [if_pos h12] at hfr
   have h12':(12:Int)<(runL (s.drop k):Int):=by omega
   simp [h12',h.r0]
   refine (t_fail h7.sc.blk).mono ?_
   rintro _ _ ⟨rfl,rfl⟩
   simp [hQ]
   exact h7.brk (by rw [hfr]) (by decide)
  ·rw [if_neg h12] at hfr
   have h12':¬(12:Int)<(runL (s.drop k):Int):=by omega
   simp [h12']
   exact nx_over (h7.env (by simp) (by simp) (by simp) (by simp)) hfr hne (by simp) (by omega) hK
theorem nx_digit {B2 B3 B4:Nat} {ρ:Env} {W:World} (h:Nx base B w s k l coms cv B2 B3 B4 0 ρ W) (hE:Ext w W) (hlt:k<s.length) (hl:letter s[k]=false) (hc:digit s[k]=true) {Q:Ks} (hQ:∀ρ c w',Q.pn ρ c w'=NxPost base B w s k l coms cv (.panicked c) w') {KK:Env→World→Prop} (hK:∀ρ W,KK ρ W=ir267_k9.wp (Cx.mk Tryz.prog 114 ir267_V []) (nxR base B w s k l coms cv) (nxQ base B w s k l coms cv) ρ W):
  (IR.raw (rawReg ir267_body 25)).wp (Cx.mk Tryz.prog 114 ir267_V []) (ir267_k3.wp (Cx.mk Tryz.prog 114 ir267_V []) KK Q) Q ρ W:=by
 have hne:s.drop k≠[]:=by rw [drop_at hlt];exact List.cons_ne_nil _ _
 have hfr:first (s.drop k)=if isNumber ((s.drop k).take (digitsL (s.drop k))) then (3,digitsL (s.drop k),0) else (0,0,11):=by
  unfold first
  rw [first_at hlt,if_neg (by rw [hl];simp),if_pos hc]
 have hkl:=h.sc.kl
 refine raw_ord ir267_o25_ok (Ext W) (fun w3 hE3 _=>⟨hE3, ?_⟩) (fun _ _ ρ v c w h=>by rw [hQ] at h⊢;exact h)
 have h3:=h.ext hE3
 have hc4:∀w',Ext W w'→∀i,w'.cell? ⟨B4,i,none⟩=clV[i]? :=fun w' hh=>(h.b4.ext hh).cell
 simp -implicitDefEqProofs [ir267_o25,h.r0]
 refine eff_ixaA (n:=3) (k:=1) (e:=288) (inf:=_) (by kernel_rfl) rfl (by kernel_rfl) (by simp;exact h.r4) (by simp;rfl) (by decide) ?_
 simp+contextual -implicitDefEqProofs [hc4,hE3,clV]
 refine (t_run h3.sc.blk hkl h3.sc.short cl_digit).mono ?_
 rintro _ W4 ⟨rfl,hE4⟩
 have h4:=h3.ext hE4
 have hE14:=(hE.trans' hE3).trans' hE4
 have hrun:((s.drop k).takeWhile digit).length=digitsL (s.drop k):=rfl
 simp [hrun,ir267_k3,h.r0]
 refine (t_rest h4.sc.blk hkl).mono ?_
 rintro _ W5 ⟨rfl,hE5⟩
 have h5:=h4.ext hE5
 have hE15:=hE14.trans' hE5
 have hrl:digitsL (s.drop k)≤s.length - k:=by have:=takeWhile_le digit (s.drop k);simpa [digitsL] using this
 have hcut:(mkS (s.drop k)).extract 0 (digitsL (s.drop k))=mkS ((s.drop k).take (digitsL (s.drop k))):=by
  have:=cut_ext (s.drop k) 0 (digitsL (s.drop k))
  simpa using this
 simp [hrl,hcut]
 have hs20:=h.sc.sl
 refine (t_isNumber (h.gw.ext hE15) _ (by simp;omega)).mono ?_
 rintro _ W6 ⟨rfl,hE6⟩
 have h6:=h5.ext hE6
 have hE16:=hE15.trans' hE6
 obtain ⟨n1,n2,n3⟩:=h.n2
 cases hw:isNumber ((s.drop k).take (digitsL (s.drop k))) with
 |false=>
  rw [hw,if_neg (by simp)] at hfr
  simp [h.r0]
  refine (t_fail h6.sc.blk).mono ?_
  rintro _ _ ⟨rfl,rfl⟩
  simp [hQ]
  exact h6.brk (by rw [hfr]) (by decide)
 |true=>
  rw [hw,if_pos rfl] at hfr
  simp [ir267_k2,h.r3]
  refine eff_store1 (B:=B3) (i:=0) (by simp) h6.b3 (by simp) rfl rfl sz5 fun W8 hO8 hb8=> ?_
  simp at hb8
  have hE18:Ext w W8:=hO8.ext hE16 (by omega)
  have h8:Nx base B w s k l coms cv B2 B3 B4 ((3:Nat):Int) ρ W8:=h6.kind hE16 hO8 hb8 (h.gw.ext hE18)
  exact nx_over (h8.env (by simp) (by simp) (by simp) (by simp)) hfr hne (vn:=8) (by simp) (by omega) hK
def maxR (s:Bs):List Bs→Nat
 |[]=>0
 |g::l=>if Lib.hasPrefix s g then max (maxR s l) g.length else maxR s l
theorem maxR_snoc (s:Bs) (g:Bs):∀l,maxR s (l++[g])=if Lib.hasPrefix s g then max (maxR s l) g.length else maxR s l
 |[]=>by simp [maxR]
 |a::l=>by
  have ih:=maxR_snoc s g l
  simp only [List.cons_append,maxR,ih]
  split<;>split<;>omega
theorem maxR_spec (s:Bs):∀l:List Bs,(∀g∈l,g.length=1∨g.length=2)→(maxR s l=2↔∃g∈l,g.length=2∧Lib.hasPrefix s g=true)∧(maxR s l=0↔∀g∈l,Lib.hasPrefix s g=false)∧maxR s l≤2
 |[],_=>by simp [maxR]
 |a::l,h=>by
  obtain ⟨h1,h2,h3⟩:=maxR_spec s l fun g hg=>h g (by simp [hg])
  have ha:=h a (by simp)
  simp only [maxR]
  cases hp:Lib.hasPrefix s a with
  |false=>
   simp only [Bool.false_eq_true,if_false]
   refine ⟨h1.trans ⟨fun ⟨g,hg,x⟩=>⟨g,by simp [hg],x⟩, ?_⟩,h2.trans ⟨fun hh g hg=> ?_,fun hh g hg=>hh g (by simp [hg])⟩,h3⟩
   ·rintro ⟨g,hg,x,y⟩
    rcases List.mem_cons.1 hg with rfl|hg
    ·rw [hp] at y;cases y
    ·exact ⟨g,hg,x,y⟩
   ·rcases List.mem_cons.1 hg with rfl|hg
    ·exact hp
    ·exact hh g hg
  |true=>
   simp only [if_true]
   refine ⟨⟨fun hm=> ?_, ?_⟩,⟨fun hm=>by omega,fun hh=> ?_⟩,by omega⟩
   ·by_cases h2':a.length=2
    ·exact ⟨a,by simp,h2',hp⟩
    ·obtain ⟨g,hg,x⟩:=h1.1 (by omega)
     exact ⟨g,by simp [hg],x⟩
   ·rintro ⟨g,hg,x,y⟩
    rcases List.mem_cons.1 hg with rfl|hg
    ·omega
    ·have:=h1.2 ⟨g,hg,x,y⟩;omega
   ·have:=hh a (by simp);rw [hp] at this;cases this
theorem pre_iff {s g:Bs}:Lib.hasPrefix s g=true↔g.length≤s.length∧s.take g.length=g:=by
 unfold Lib.hasPrefix
 rw [List.isPrefixOf_iff_prefix]
 constructor
 ·intro h
  exact ⟨h.length_le,(List.prefix_iff_eq_take.1 h).symm⟩
 ·rintro ⟨_,h⟩
  rw [←h];exact List.take_prefix _ _
theorem sign_len {g:Bs} (h:g∈signsL):g.length=1∨g.length=2:=(signs2 g h).1
theorem maxR_signs {s:Bs} (h0:s≠[]):maxR s signsL=if 1<s.length∧isSign (s.take 2)=true then 2 else if isSign (s.take 1) then 1 else 0:=by
 have hl:0<s.length:=List.length_pos_iff.2 h0
 obtain ⟨h1,h2,h3⟩:=maxR_spec s signsL fun g hg=>sign_len hg
 have e2:(∃g∈signsL,g.length=2∧Lib.hasPrefix s g=true)↔(1<s.length∧isSign (s.take 2)=true):=by
  constructor
  ·rintro ⟨g,hg,x,y⟩
   obtain ⟨y1,y2⟩:=pre_iff.1 y
   rw [x] at y1 y2
   exact ⟨by omega,by rw [y2];simpa [isSign] using hg⟩
  ·rintro ⟨x,y⟩
   have hlen:(s.take 2).length=2:=by rw [List.length_take];omega
   exact ⟨s.take 2,by simpa [isSign] using y,hlen,pre_iff.2 ⟨by omega,by rw [hlen]⟩⟩
 have e1:isSign (s.take 1)=true→maxR s signsL≠0:=by
  intro hs hz
  have hlen:(s.take 1).length=1:=by rw [List.length_take];omega
  have:=h2.1 hz (s.take 1) (by simpa [isSign] using hs)
  rw [pre_iff.2 ⟨by omega,by rw [hlen]⟩] at this;cases this
 split
 ·rename_i h
  exact h1.2 (e2.2 h)
 ·rename_i h
  have hn2:maxR s signsL≠2:=fun hh=>h (e2.1 (h1.1 hh))
  split
  ·rename_i hs
   have:=e1 hs;omega
  ·rename_i hs
   refine h2.2 fun g hg=> ?_
   cases hp:Lib.hasPrefix s g with
   |false=>rfl
   |true=>
    obtain ⟨y1,y2⟩:=pre_iff.1 hp
    rcases sign_len hg with hx|hx
    ·rw [hx] at y2
     exact absurd (by rw [y2];simpa [isSign] using hg) hs
    ·exact absurd (h1.2 ⟨g,hg,hx,hp⟩) hn2
theorem nx_sign {B2 B3 B4:Nat} {ρ:Env} {W:World} (h:Nx base B w s k l coms cv B2 B3 B4 0 ρ W) (hE:Ext w W) (hlt:k<s.length) (hl:letter s[k]=false) (hc:digit s[k]=false) {Q:Ks} (hQ:∀ρ c w',Q.pn ρ c w'=NxPost base B w s k l coms cv (.panicked c) w') {KK:Env→World→Prop} (hK:∀ρ W,KK ρ W=ir267_k9.wp (Cx.mk Tryz.prog 114 ir267_V []) (nxR base B w s k l coms cv) (nxQ base B w s k l coms cv) ρ W):
  (IR.reg [.asg none 9 (.const (.int .i64 0)),
      .eff none (some 30) (.call {callee:= .value (.func 310),args:= #[],argTypes:= #[]}) 51,
      .asg none 31 (.op1 .lenS (.var 30)),
      .asg none 32 (.const (.int .i64 0))]).wp (Cx.mk Tryz.prog 114 ir267_V []) ((IR.block 1 (.loop ir267_l6)).wp (Cx.mk Tryz.prog 114 ir267_V []) (ir267_k8.wp (Cx.mk Tryz.prog 114 ir267_V []) KK Q) Q) Q ρ W:=by
 have hne:s.drop k≠[]:=by rw [drop_at hlt];exact List.cons_ne_nil _ _
 have hfr:first (s.drop k)=if 1<(s.drop k).length∧isSign ((s.drop k).take 2)=true then (4,2,0) else if isSign ((s.drop k).take 1) then (4,1,0) else (0,0,10):=by
  unfold first
  rw [first_at hlt,if_neg (by rw [hl];simp),if_neg (by rw [hc];simp)]
 have hkl:=h.sc.kl
 simp
 refine (t_signs (h.gw.ext hE)).mono ?_
 rintro _ W1 ⟨v,rfl,hO,hE1⟩
 have hl1:=Own.sl (enc:=encT) (xs:=signsL) hO (by decide)
 simp [hl1.is,hl1.len]
 refine loopC 32 21 (fun j ρ' W'=>Ext W1 W'∧ρ' 0=ρ 0∧ρ' 2=ρ 2∧ρ' 3=ρ 3∧ρ' 4=ρ 4∧ρ' 30=v∧ρ' 31= .int .i64 21∧ρ' 9= .int .i64 (maxR (s.drop k) (signsL.take j):Nat)) (by simp) ⟨ext_refl _,by simp,by simp,by simp,by simp,by simp,by simp [signsL_len],by simp [maxR]⟩ ?_
 rintro j ρ' W' hj h32 ⟨hE',h0,h2,h3,h4,h30,h31,h9⟩
 have hN:=(h.ext (hE1.trans' hE')).env h0 h2 h3 h4
 by_cases hlt':j<21
 ·have hltI:(j:Int)<21:=by omega
  have hltL:j<signsL.length:=hlt'
  have hl':=hl1.ext hE'
  simp [ir267_l6,ir267_k5,h31,h32,hltI,hlt',h30,hl'.is,hl'.len,hltL,hl'.cell j hltL,encT,hN.r0]
  refine (t_rest hN.sc.blk hkl).mono ?_
  rintro _ W2 ⟨rfl,hE2⟩
  simp
  refine (Tryz.hasPrefix (mkS (s.drop k)) (mkS signsL[j]) W2).mono ?_
  rintro _ W2 ⟨rfl,rfl⟩
  have hmx:maxR (s.drop k) (signsL.take (j+1))=if Lib.hasPrefix (s.drop k) signsL[j] then max (maxR (s.drop k) (signsL.take j)) signsL[j].length else maxR (s.drop k) (signsL.take j):=by
   rw [List.take_add_one,List.getElem?_eq_getElem hltL]
   exact maxR_snoc _ _ _
  cases hp:Lib.hasPrefix (s.drop k) signsL[j] with
  |true=>
   rw [hp,if_pos rfl] at hmx
   simp [hp,h9]
   refine eff_max (a:=(maxR (s.drop k) (signsL.take j):Nat)) (b:=(signsL[j].length:Nat)) (k:= .i64) (by simp) (by simp) ?_
   simp [ir267_k4,h32,i64w (n:=(j:Int)+1) (by omega),h0,h2,h3,h4,h30,h31]
   refine ⟨hE'.trans' hE2, ?_⟩
   rw [hmx]
   split<;>omega
  |false=>
   rw [hp,if_neg (by simp)] at hmx
   simp [hp,ir267_k4,h32,i64w (n:=(j:Int)+1) (by omega),h0,h2,h3,h4,h30,h31,h9,hmx]
   exact hE'.trans' hE2
 ·have hj':j=21:=by omega
  subst hj'
  have hmx:maxR (s.drop k) (signsL.take 21)=maxR (s.drop k) signsL:=rfl
  rw [hmx] at h9
  have hcase:(maxR (s.drop k) signsL=0∧first (s.drop k)=(0,0,10))∨(maxR (s.drop k) signsL≠0∧first (s.drop k)=(4,maxR (s.drop k) signsL,0)):=by
   rw [hfr,maxR_signs hne]
   split
   ·exact .inr ⟨by decide,rfl⟩
   ·split
    ·exact .inr ⟨by decide,rfl⟩
    ·exact .inl ⟨rfl,rfl⟩
  generalize maxR (s.drop k) signsL=m at h9 hcase
  rcases hcase with ⟨rfl,hf⟩|⟨hm,hf⟩
  ·simp [ir267_l6,h31,h32,ir267_k8,h9,hN.r0]
   refine (t_fail hN.sc.blk).mono ?_
   rintro _ _ ⟨rfl,rfl⟩
   simp [hQ]
   exact hN.brk (by rw [hf]) (by decide)
  ·simp [ir267_l6,h31,h32,ir267_k8,h9,hm,ir267_k7,hN.r3]
   obtain ⟨n1,n2,n3⟩:=h.n2
   have hE3:Ext w W':=(hE.trans' hE1).trans' hE'
   refine eff_store1 (B:=B3) (i:=0) (by simp) hN.b3 (by simp) rfl rfl sz5 fun W8 hO8 hb8=> ?_
   simp at hb8
   have hE18:Ext w W8:=hO8.ext hE3 (by omega)
   have h8:Nx base B w s k l coms cv B2 B3 B4 ((4:Nat):Int) ρ' W8:=hN.kind hE3 hO8 hb8 (h.gw.ext hE18)
   exact nx_over (h8.env (by simp) (by simp) (by simp) (by simp)) hf hne (vn:=9) (by simp [h9]) (by omega) hK
theorem t_next (hG:G w) (h:Sc base B w s k l coms cv) (hlt:k<s.length):Calls Tryz.prog 267 #[.pointer (some ⟨B,0,none⟩)] w (NxPost base B w s k l coms cv):=by
 have hs64:=h.short
 have hs20:=h.sl
 have hfk:=first_at hlt
 have hne:s.drop k≠[]:=by rw [drop_at hlt];exact List.cons_ne_nil _ _
 refine ir267_calls fun ρ h0=> ?_
 simp [ir267]
 refine eff_alloc z38 fun B2 W2 hB2 hE2 hb2 _=> ?_
 have hS2:=h.ext hE2
 simp [h0,hS2.blk.cell,bu38l]
 refine eff_alloc z38 fun B3 W3 hB3 hE3 hb3 _=> ?_
 have hS3:=hS2.ext hE3
 have hb23:=hb2.ext hE3
 simp
 refine eff_storeN (B:=B3) (by simp) hb3 (by simp [Value.cells]) (by simp [Value.cells]) (by simpa [Value.cells] using sz38) fun W4 hO4 hb34=> ?_
 have hl23:B2<B3:=by have:=hb2.lt;omega
 have o3:=hS2.off hB3
 have o2:=h.off hB2
 have hS4:=hS3.only hO4 o3.1 o3.2
 have hb24:=hO4.blk hb23 (by omega)
 have hT4:Tn B cv cv w W4:=(Tn.ext (hE2.trans' hE3)).new hO4 (by have:=hE2.size;omega)
 simp [Value.cells] at hb34
 simp
 refine t_classes.mono ?_
 rintro _ W5 ⟨rfl,hE5⟩
 simp
 refine eff_alloc z134 fun B4 W6 hB4 hE6 hb46 _=> ?_
 simp
 have hb35:=hb34.ext hE5
 have hl4:B3<B4:=by have:=hb35.lt;omega
 refine eff_storeN (B:=B4) (by simp) hb46 (by simp [Value.cells]) (by simp [Value.cells];decide) (by simpa [Value.cells] using sz134) fun W7 hO7 hb47=> ?_
 have hS5:=hS4.ext hE5
 have o4:=hS5.off hB4
 have hS7:=(hS5.ext hE6).only hO7 o4.1 o4.2
 have hb37:=hO7.blk (hb35.ext hE6) (by omega)
 have hb27:=hO7.blk ((hb24.ext hE5).ext hE6) (by omega)
 have hT7:Tn B cv cv w W7:=((hT4.trans (Tn.ext hE5)).trans (Tn.ext hE6)).new hO7 (by have:=hE2.size;omega)
 have hE17:Ext w W7:=by
  have e4:Ext w W4:=hO4.ext (hE2.trans' hE3) (by have:=hE2.size;omega)
  exact hO7.ext ((e4.trans' hE5).trans' hE6) (by have:=hE2.size;omega)
 simp [Value.cells] at hb47
 simp [h0,hS7.blk.cell,hlt,str_ix hlt]
 intro W8 hE8
 have hN:∀ρ8:Env,ρ8 0= .pointer (some ⟨B,0,none⟩)→ρ8 2= .pointer (some ⟨B2,0,none⟩)→ρ8 3= .pointer (some ⟨B3,0,none⟩)→ρ8 4= .pointer (some ⟨B4,0,none⟩)→Nx base B w s k l coms cv B2 B3 B4 0 ρ8 W8:=fun ρ8 a0 a2 a3 a4=>
  ⟨a0,a2,a3,a4,hS7.ext hE8,hb27.ext hE8,hb37.ext hE8,hb47.ext hE8,hT7.trans (Tn.ext hE8),⟨hB2,hl23,hl4⟩,⟨o3.1,o2.1⟩,⟨o3.2,o2.2⟩,hG.ext (hE17.trans' hE8),hG⟩
 have hE18:=hE17.trans' hE8
 simp [ir267_k10]
 refine (t_letter s[k] W8).mono ?_
 rintro _ W8 ⟨rfl,rfl⟩
 cases hl:letter s[k] with
 |true=>
  simp
  refine nx_letter (hN _ (by simp [h0]) (by simp) (by simp) (by simp)) hE18 hlt hl (fun _ _ _=>rfl) fun _ _=>rfl
 |false=>
  simp
  refine (t_digit s[k] W8).mono ?_
  rintro _ W8 ⟨rfl,rfl⟩
  cases hc:digit s[k] with
  |true=>
   simp
   refine nx_digit (hN _ (by simp [h0]) (by simp) (by simp) (by simp)) hE18 hlt hl hc (fun _ _ _=>rfl) fun _ _=>rfl
  |false=>
   simp only [callK]
   refine nx_sign (hN _ (by simp [h0]) (by simp) (by simp) (by simp)) hE18 hlt hl hc (fun _ _ _=>rfl) fun _ _=>rfl
end
end Go.L01
namespace Go.L01
open Go Go.Eng Go.Proofs
set_option maxRecDepth 100000
noncomputable def jr200_body:Code:=(Tryz.f200.body).getD .skip
noncomputable def jr200 (v:Value):IR:=zq [za 6 (.const v)] <| .block 0 (zq [zE 8 (.binOp .eql 20 (zt 6) (.const .nilIface) 20) 4] <| .cond (zv 8) (.reg [za 3 (zv 6)]) (zq [zE 9 (.typeAssert (zt 6) 20 212 true) 0,za 10 (ze 1 (zv 9)),za 11 (ze 0 (zv 9))] <| .cond (zv 10) (zq [zE 4 (.alloc 212) 0,zw 212 (zt 4) (zt 11)] <| .raw (rawReg jr200_body 7)) (.reg [za 5 (zv 6),za 7 (zv 5), .eff none none (.panic (zt 7)) 0])))
def jr200_V:List Nat:=[0,1,2,3,4,5,6,7,8,9,10,11,12,13]
theorem jr200_ok (v:Value):(comp Tryz.prog Tryz.f200.ntmps jr200_V [7] (swapRec v (Tryz.f200.body.getD .skip))).map IR.norm=some (jr200 v):=by kernel_rfl
theorem jr200_calls {v0 v1 v2:Value} {u:FrameMode} {w:World} {R:Ending→FrameMode→World→Prop} (h:∀ρ:Env,ρ 0=v0→ρ 1=v1→ρ 2=v2→(jr200 (recV u)).wp ⟨Tryz.prog,14,jr200_V,[]⟩ (recK [] (recU u) R) (recKs [] (recU u) R) ρ w):
  CallsDIn Fence.wide 0 Tryz.prog 200 #[v0,v1,v2] u w R:=by
 obtain ⟨ir0,h1,h2⟩:=Option.map_eq_some_iff.1 (jr200_ok (recV u))
 exact callsD_recR (args:= #[v0,v1,v2]) Tryz.func200 (c:=Tryz.f200.body.getD .skip) rfl (by kernel_rfl) h1 h2 (by kernel_rfl) (show rvsOf Tryz.prog jr200_V Tryz.f200.results.toList=some [] by kernel_rfl) (Nat.le_of_ble_eq_true rfl) (h _ rfl rfl rfl)
noncomputable def jr200_o7:OT:=zy 12 (zf 0 (zv 4))<|zy 13 (zM 2 (zv 12))<| .step (zw 48 (zt 0) (.const (.slice none 0 0))) true<| .step (zw 51 (zt 1) (.const (.slice none 0 0))) true<| .step (zw 26 (zt 2) (zt 13)) false<| .done
theorem jr200_o7_ok:ordOf Tryz.prog 14 jr200_V 4 (rawReg jr200_body 7)=some jr200_o7:=by kernel_rfl
end Go.L01
namespace Go.L01
open Go Go.Eng Go.RowKit Go.Proofs
set_option maxRecDepth 100000
set_option maxHeartbeats 2000000
@[simp] theorem cb266:callB Tryz.prog 266=true:=by kernel_rfl
@[simp] theorem cb267:callB Tryz.prog 267=true:=by kernel_rfl
theorem raw_rangeM {cx:Cx} {g:Operand} {ps:Array Tmp} {assign body:Code} {gf:FuncId} {fs lb:Array Value} {K:Env→World→Prop} {Q:Ks} {ρ:Env} {w:World} (hD:cx.D≠[]) (hg:evE ρ g= .func (.func gf) fs lb) (hgV:fusedIn cx.V g=false)
  (hcb:callB cx.P gf=true)
  (h:∀(a:Act) (r:Loop) (W1:World),Agree cx.n cx.V ρ a→r.tmps=a.tmps→r.params=ps→r.assign=assign→r.body=body→r.state= .ready→r.pending=none→Ext w W1→W1.heap.size=w.heap.size+2→LoopB W1 (w.heap.size+1) w.heap.size r→
   Calls cx.P gf (fs++ #[.func (.yield (w.heap.size+1)) #[] #[]]++lb) W1 (loopEnd cx (w.heap.size+1) w.heap.size r K Q (upd ρ gS (consD (markD w.heap.size) (ρ gS))))):
  (IR.raw (.rangeFunc g ps assign body)).wp cx K Q ρ w:=by
 intro a ha hDa hdf
 refine (wpIn_wide (n:=0)).1 (wpIn_rangeFunc fun fn _=> ?_)
 obtain ⟨rec,hrec⟩:∃rec:Loop,rec={state:= .ready,pending:=none,fn,tmps:=a.tmps,params:=ps,assign,body,defers:=w.heap.size}:=⟨_,rfl⟩
 obtain ⟨W1,hW1⟩:∃W1,(w.alloc (.deferred (some []))).alloc (.loop rec)=W1:=⟨_,rfl⟩
 have hE:Ext w W1:=by rw [←hW1];exact (ext_alloc _ _).trans' (ext_alloc _ _)
 have hsz:W1.heap.size=w.heap.size+2:=by rw [←hW1];simp
 have hL:LoopB W1 (w.heap.size+1) w.heap.size rec:=by
  rw [←hW1]
  refine ⟨?_, ?_⟩
  ·have:=World.alloc_heap_new (w.alloc (.deferred (some []))) (.loop rec);rwa [World.size_alloc] at this
  ·exact (Below.heap_alloc _ _ _ (by simp)).trans (World.alloc_heap_new w _)
 have hga:a.eval g= .func (.func gf) fs lb:=by
  rw [←hg]
  cases g with
  |tmp t=>
   have ht:t∈cx.V:=by simpa [fusedIn] using hgV
   simp [Act.eval,evE,ha.at ht]
  |const v=>rfl
  |global v=>rfl
  |func v=>rfl
 refine ⟨w.heap.size+1,[markD w.heap.size],W1,{target:= .fn (.func gf) lb,args:=fs++ #[.func (.yield (w.heap.size+1)) #[] #[]]},W1,gf,fs++ #[.func (.yield (w.heap.size+1)) #[] #[]]++lb,W1, ?_, ?_,fun _ _=>trivial, ?_,fun h0=>(by cases h0), ?_⟩
 ·rw [←hW1,hrec];exact run_enterLoop_outer _ _ _ _ _
 ·simp only [resolve,hga]
  simp [Deferred.ofValue,Act.eval]
 ·unfold callB at hcb
  split at hcb
  ·rename_i f2 hf2
   simp only [Bool.and_eq_true,Bool.not_eq_true',beq_eq_false_iff_ne,ne_eq] at hcb
   cases hb:f2.body with
   |none=>simp [hb] at hcb
   |some c=>simp [invoke,callFunc,hf2,hcb.1,hb]
  ·cases hcb
 ·refine (callsIn_wide (n:=0 - 1)).2 ((h a rec W1 ha (by rw [hrec]) (by rw [hrec]) (by rw [hrec]) (by rw [hrec]) (by rw [hrec]) (by rw [hrec]) hE hsz hL).mono ?_)
  have ha':=ha.defer (markD w.heap.size)
  have hD':dOk cx {a with defers:=[markD w.heap.size]++a.defers}:=fun e=>absurd e hD
  intro e W3 he
  cases e with
  |returned v=>
   obtain ⟨st,pend,hst,hL3,hk⟩:=he
   have hk:=hk _ (only_putObj _ _ _) (hL3.put _)
   refine ⟨pend,_,run_endLoop hL3.rcd hst, ?_⟩
   cases pend with
   |none=>exact ⟨hD',_,ha',hk⟩
   |some c=>
    cases c<;>first|exact hk.elim|skip
    ·exact wpIn_exit ⟨hD',_,ha',hk⟩
    ·exact wpIn_ret ⟨hD',_,ha',hk⟩
  |panicked c=>exact ⟨hD',_,ha',he⟩
  |outgrown=>exact lift_og he
def TkPost (base B:Nat) (s:Bs) (J:List Tok→Value→World→Prop):Ending→World→Prop:=fun e W'=>
 (∃v ts coms cv line,e= .returned v∧scanAt s 1= .ok ts coms∧J ts cv W'∧Sc base B W' s s.length line coms cv)∨
 (∃er line ts cv,e=brk er line∧scanAt s 1= .bad er line∧J ts cv W')
def TkInv (base B l:Nat) (s:Bs) (J:List Tok→Value→World→Prop) (ρ':Env) (W':World):Prop:=
 ρ' 0= .pointer (some ⟨B,0,none⟩)∧ρ' 1= .func (.yield l) #[] #[]∧∃ts k line coms cv,Sc base B W' s k line coms cv∧J ts cv W'∧stop s k∧scanAt s 1=(scanAt (s.drop k) line).add ts coms∧ts.length≤k
theorem it_tokens {W:World} {base B l:Nat} {s:Bs} {cv0:Value} (J:List Tok→Value→World→Prop) (hg:∀ts cv W,J ts cv W→G W) (hJ:∀ts cv cv' W W',J ts cv W→Tn B cv cv' W W'→J ts cv' W')
  (hY:∀ts cv t W k line coms,J ts cv W→Sc base B W s k line coms cv→ts.length≤20000→YieldR Tryz.prog l #[encK t] W fun e W'=>e= .returned (.bool true)∧J (ts++[t]) cv W'∧Sc base B W' s k line coms cv)
  (h0:J [] cv0 W) (hS:Sc base B W s 0 1 [] cv0):
  Calls Tryz.prog 201 #[.pointer (some ⟨B,0,none⟩), .func (.yield l) #[] #[]] W (TkPost base B s J):=by
 refine ir201_calls fun ρ r0 r1=> ?_
 simp [ir201,r0]
 refine (t_skip hS).mono ?_
 rintro _ W1 ⟨rfl,k,line,new,cv,hK,hst⟩
 simp
 refine loopI (TkInv base B l s J) (fun _ w'=>s.length - atOf w' B) ⟨by simp [r0],by simp [r1],[],k,line,new,cv,by simpa using hK.sc,hJ _ _ _ _ _ h0 hK.tn,hst,by simpa using hK.eq,by simp⟩ ?_
 clear hK hst
 rintro ρ' W' ⟨r0,r1,ts,k,line,coms,cv,hS,hj,hst,heq,hlen⟩
 have hat:=hS.at
 by_cases hlt:k<s.length
 ·simp [ir201_l3,r0,hS.blk.cell,hlt]
  intro W2 hE2
  have hS2:=hS.ext hE2
  have hj2:=hJ _ _ _ _ _ hj (Tn.ext hE2)
  obtain ⟨hbl,h37⟩:=hst hlt
  have hb':=hbl
  simp only [blank,Bool.or_eq_false_iff,decide_eq_false_iff_not] at hb'
  obtain ⟨⟨b1,b2⟩,b3⟩:=hb'
  have hsc:=scanAt_cons s[k] (s.drop (k+1)) line
  rw [←drop_at hlt,if_neg b3,if_neg (by rintro (h|h)<;>contradiction),if_neg h37] at hsc
  simp [ir201_k2,ir201_k1,r0,r1]
  refine (t_next (hg _ _ _ hj2) hS2 hlt).mono ?_
  rintro e W3 ⟨hT3,⟨hf,rfl,hS3⟩|⟨hf,rfl⟩⟩
  ·rw [if_neg (by simpa using hf)] at hsc
   have hj3:=hJ _ _ _ _ _ hj2 hT3
   simp
   refine eff_yield (l:=l) (by simp) (by simp) ?_
   simp
   refine (hY ts cv _ W3 _ _ _ hj3 hS3 (by have:=hS.kl;have:=hS.sl;omega)).mono ?_
   rintro _ W4 ⟨rfl,hj4,hS4⟩
   simp [ir201_k0,r0]
   refine (t_skip hS4).mono ?_
   rintro _ W5 ⟨rfl,k5,line5,new5,cv5,hK5,hst5⟩
   have hpos:=first_len hf (by rw [drop_at hlt];exact List.cons_ne_nil _ _)
   simp
   refine ⟨⟨by simp [r0],by simp [r1],_,k5,line5,_,cv5,hK5.sc,hJ _ _ _ _ _ hj4 hK5.tn,hst5, ?_, ?_⟩, ?_⟩
   ·rw [heq,hsc,List.drop_drop,hK5.eq,Res.add_add,Res.add_add]
    simp
   ·have:=hK5.le
    simp;omega
   ·rw [hK5.sc.at,hat]
    have:=hK5.le
    omega
  ·rw [if_pos hf] at hsc
   simp [brk]
   exact .inr ⟨_,_,ts,cv,rfl,by rw [heq,hsc];rfl,hJ _ _ _ _ _ hj2 hT3⟩
 ·have hk:k=s.length:=by have:=hS.kl;omega
  subst hk
  simp [ir201_l3,r0,hS.blk.cell,ir201_k2]
  intro W2 hE2
  refine .inl ⟨_,ts,coms,cv,line,rfl, ?_,hJ _ _ _ _ _ hj (Tn.ext hE2),hS.ext hE2⟩
  rw [heq,List.drop_length,scanAt_nil]
  simp [Res.add]
theorem ifc20:Tryz.prog.underlying 20=some (.interface (Tryz.prog.methodsAt 20)):=by kernel_rfl
def isStr:Option TypeDesc→Bool|some (.struct _)=>true|_=>false
theorem und84:∃ds,Tryz.prog.underlying 212=some ds∧∀m,ds≠ .interface m:=by
 have h:isStr (Tryz.prog.underlying 212)=true:=by kernel_rfl
 unfold isStr at h
 split at h
 ·rename_i fs he
  exact ⟨_,he,fun m hm=>by cases hm⟩
 ·cases h
theorem z84:zeroCellsOf Tryz.prog 212=some #[.int .i64 0, .int .i64 0]:=by kernel_rfl
theorem sz84:sizeIs Tryz.prog 212 2=true:=by kernel_rfl
theorem sz31:sizeIs Tryz.prog 26 2=true:=by kernel_rfl
theorem sz28:sizeIs Tryz.prog 48 1=true:=by kernel_rfl
def brkC (e l:Int):List PanicEntry:=[{v:= .iface 212 (.agg #[.int .i64 e, .int .i64 l]),recovered:=false}]
theorem d_none {v0 v1 v2:Value} {w:World}:CallsDIn Fence.wide 0 Tryz.prog 200 #[v0,v1,v2] .returning w fun e u' w'=>(∃v,e= .returned v)∧u'= .returning∧w'=w:=by
 refine jr200_calls fun ρ h0 h1 h2=> ?_
 simp [jr200,recV,recU]
 refine eff_eqlNilI ifc20 (by simp) ?_
 simp
theorem d_brk {w:World} {L C F:Nat} {x y:Value} {f:Array Value} {er ln:Int} (hL:Blk w L #[x] 48) (hC:Blk w C #[y] 51) (hF:Blk w F f 26) (hf:f.size=2) (h1:L≠C) (h2:L≠F) (h3:C≠F):
  CallsDIn Fence.wide 0 Tryz.prog 200 #[.pointer (some ⟨L,0,none⟩), .pointer (some ⟨C,0,none⟩), .pointer (some ⟨F,0,none⟩)] (.panicking (brkC er ln)) w fun e u' w'=>(∃v,e= .returned v)∧settle u'= .returning∧
   (∃W,Ext w W∧∃W2,Only L W W2∧∃W3,Only C W2 W3∧Only F W3 w')∧Blk w' L #[.slice none 0 0] 48∧Blk w' C #[.slice none 0 0] 51∧Blk w' F #[.int .i64 er, .int .i64 ln] 26:=by
 obtain ⟨ds,hu,hd⟩:=und84
 refine jr200_calls fun ρ r0 r1 r2=> ?_
 simp [jr200,recV,recU,brkC]
 refine eff_eqlNilI' (u:=212) (v:= .agg #[.int .i64 er, .int .i64 ln]) ifc20 (by simp) ?_
 simp
 refine eff_assert (a:=212) (v:= .agg #[.int .i64 er, .int .i64 ln]) hu hd (by simp) ?_
 simp
 refine eff_alloc z84 fun B W hB hE hb _=> ?_
 simp
 refine eff_storeN (B:=B) (by simp) hb (by simp [Value.cells]) (by simp [Value.cells]) (by simpa [Value.cells] using sz84) fun W1 hO1 hb1=> ?_
 simp [Value.cells] at hb1
 have hL1:=hO1.blk (hL.ext hE) (by have:=hL.lt;omega)
 have hC1:=hO1.blk (hC.ext hE) (by have:=hC.lt;omega)
 have hF1:=hO1.blk (hF.ext hE) (by have:=hF.lt;omega)
 simp
 refine raw_ord jr200_o7_ok (fun W=>Blk W B #[.int .i64 er, .int .i64 ln] 212) fun W2 hE2 _=> ?_
 have hb2:=hb1.ext hE2
 refine ⟨hb2, ?_⟩
 have hb':∀w',Blk w' B #[.int .i64 er, .int .i64 ln] 212→∀i,w'.cell? ⟨B,i,none⟩= #[Value.int .i64 er, .int .i64 ln][i]? :=fun w' h=>h.cell
 simp+contextual -implicitDefEqProofs [jr200_o7,hb2.cell,hb']
 refine eff_store1 (B:=L) (i:=0) (by simp [r0]) (hL1.ext hE2) (by simp) rfl rfl sz28 fun W3 hO3 hb3=> ?_
 refine ⟨hO3.blk hb2 (by have:=hL.lt;omega), ?_⟩
 simp
 have hC3:=hO3.blk (hC1.ext hE2) (Ne.symm h1)
 refine eff_store1 (B:=C) (i:=0) (by simp [r1]) hC3 (by simp) rfl rfl sz25 fun W4 hO4 hb4=> ?_
 refine ⟨hO4.blk (hO3.blk hb2 (by have:=hL.lt;omega)) (by have:=hC.lt;omega), ?_⟩
 simp
 have hF4:=hO4.blk (hO3.blk (hF1.ext hE2) (Ne.symm h2)) (Ne.symm h3)
 refine eff_storeN (B:=F) (by simp [r2]) hF4 (by simp [Value.cells,hf]) (by simp [Value.cells]) (by rw [hf];exact sz31) fun W5 hO5 hb5=> ?_
 simp [Value.cells] at hb3 hb4 hb5⊢
 refine ⟨by rfl,⟨W2,(hO1.ext hE hB).trans' hE2,W3,hO3,W4,hO4,hO5⟩,hO5.blk (hO4.blk hb3 h1) h2,hO5.blk hb4 h3,hb5⟩
end Go.L01
namespace Go.L01
open Go Go.Eng Go.RowKit Go.Proofs
set_option maxRecDepth 100000
set_option maxHeartbeats 2000000
def toksV (ts:List Tok):List Value:=ts.flatMap fun t=>[.int .u8 (t.kind:Int), .string (mkS t.text), .int .i64 t.line]
@[simp] theorem toksV_nil:toksV []=[]:=rfl
theorem toksV_snoc (ts:List Tok) (t:Tok):toksV (ts++[t])=toksV ts++[.int .u8 (t.kind:Int), .string (mkS t.text), .int .i64 t.line]:=by simp [toksV]
theorem toksV_len (ts:List Tok):(toksV ts).length=ts.length*3:=by
 induction ts with
 |nil=>rfl
 |cons t ts ih=>
  have:toksV (t::ts)=[.int .u8 (t.kind:Int), .string (mkS t.text), .int .i64 t.line]++toksV ts:=rfl
  rw [this,List.length_append,ih];simp;omega
theorem Own.same {base e sz:Nat} {w w':World} {v:Value} {xs:List Value} (h:Own base e sz w v xs) (hb:∀k,v.ownBlock=some k→w'.heap[k]? =w.heap[k]?):Own base e sz w' v xs:=by
 rcases h with h|⟨g,off,n,cap,cur,rfl,hbs,hg,r⟩
 ·exact .inl h
 ·exact .inr ⟨g,off,n,cap,cur,rfl,hbs,(hb g rfl).trans hg,r⟩
structure SJ (w:World) (B L C F l Db:Nat) (rec:Loop) (ts:List Tok) (cv:Value) (lv:Value) (W:World):Prop where
 ext:Ext w W
 lp:LoopB W l Db rec
 bl:Blk W L #[lv] 48
 bc:Blk W C #[.slice none 0 0] 51
 bf:Blk W F #[.int .i64 0, .int .i64 0] 26
 own:Own w.heap.size 53 3 W lv (toksV ts)
 ne:∀X∈[B,L,C,F,l,Db],lv.ownBlock≠some X
 nc:∀X∈[L,C,F,l,Db],cv.ownBlock≠some X∧X≠B
 nn:∀k,lv.ownBlock=some k→cv.ownBlock≠some k
theorem SJ.turn {w:World} {B L C F l Db:Nat} {rec:Loop} {ts:List Tok} {cv cv' lv:Value} {W W':World} (h:SJ w B L C F l Db rec ts cv lv W) (hT:Tn B cv cv' W W') (hB:w.heap.size≤B) (hc:∀k,cv.ownBlock=some k→w.heap.size≤k):SJ w B L C F l Db rec ts cv' lv W':=by
 have hlt:=h.lp.lt
 have keep:∀X∈[L,C,F,l,Db],X<W.heap.size→W'.heap[X]? =W.heap[X]? :=fun X hX hl=>hT.block X hl (h.nc X hX).2 (h.nc X hX).1
 have hL:=h.bl.lt
 have hC:=h.bc.lt
 have hF:=h.bf.lt
 refine ⟨⟨hT.os.trans h.ext.os,hT.tape.trans h.ext.tape,hT.output.trans h.ext.output,Nat.le_trans h.ext.size hT.size,fun k hk=>(hT.block k (Nat.lt_of_lt_of_le hk h.ext.size) (by omega) fun e=>by have:=hc k e;omega).trans (h.ext.block k hk)⟩,
  h.lp.keep (keep l (by simp) hlt.1) (keep Db (by simp) hlt.2),⟨(keep L (by simp) hL).trans h.bl.heap⟩,⟨(keep C (by simp) hC).trans h.bc.heap⟩,⟨(keep F (by simp) hF).trans h.bf.heap⟩, ?_,h.ne, ?_, ?_⟩
 ·refine Own.same h.own fun k hk=> ?_
  have hkl:=(h.own.blk k hk).2
  exact hT.block k hkl (fun e=>h.ne B (by simp) (by rw [hk,e])) (h.nn k hk)
 ·intro X hX
  refine ⟨?_,(h.nc X hX).2⟩
  rcases hT.own with e|e
  ·rw [e];exact (h.nc X hX).1
  ·intro hx
   have:=e X hx
   simp only [List.mem_cons,List.mem_nil_iff,or_false] at hX
   rcases hX with rfl|rfl|rfl|rfl|rfl<;>omega
 ·intro k hk
  rcases hT.own with e|e
  ·rw [e];exact h.nn k hk
  ·intro hx
   have h1:=e k hx
   have h2:=(h.own.blk k hk).2
   omega
theorem SJ.round {w:World} {B L C F l Db:Nat} {rec rec':Loop} {ts:List Tok} {cv lv:Value} {W W':World} (h:SJ w B L C F l Db rec ts cv lv W) (hO:Only l W W') (hl:w.heap.size≤l) (hd:L≠l∧C≠l∧F≠l) (hL:LoopB W' l Db rec'):SJ w B L C F l Db rec' ts cv lv W':=
 ⟨hO.ext h.ext hl,hL,hO.blk h.bl hd.1,hO.blk h.bc hd.2.1,hO.blk h.bf hd.2.2,Own.same h.own fun k hk=>hO.block k (fun e=>h.ne l (by simp) (by rw [hk,e])),h.ne,h.nc,h.nn⟩
theorem SJ.app {w:World} {B L C F l Db:Nat} {rec:Loop} {ts ts':List Tok} {cv lv lv':Value} {W W1 W':World} (h:SJ w B L C F l Db rec ts cv lv W) (hg:W.grownBy W1 lv.ownBlock) (ho:Own w.heap.size 53 3 W1 lv' (toksV ts')) (hf:lv'.ownBlock=lv.ownBlock∨lv'.ownBlock=some W.heap.size)
  (hO:Only L W1 W') (hb:Blk W' L #[lv'] 48) (hd:C≠L∧F≠L∧l≠L∧Db≠L) (hB:B<W.heap.size) (hc:∀k,cv.ownBlock=some k→k<W.heap.size) (hwL:w.heap.size≤L):SJ w B L C F l Db rec ts' cv lv' W':=by
 have hlt:=h.lp.lt
 have hL:=h.bl.lt
 have hC:=h.bc.lt
 have hF:=h.bf.lt
 have keep:∀X∈[C,F,l,Db],X<W.heap.size→X≠L→W'.heap[X]? =W.heap[X]? :=by
  intro X hX hl hXL
  rw [hO.block X hXL]
  refine hg.block X hl fun e=>h.ne X ?_ e.symm
  simp only [List.mem_cons,List.mem_nil_iff,or_false] at hX⊢
  rcases hX with rfl|rfl|rfl|rfl<;>simp
 have hall:∀X∈[B,L,C,F,l,Db],X<W.heap.size:=by
  intro X hX
  simp only [List.mem_cons,List.mem_nil_iff,or_false] at hX
  rcases hX with rfl|rfl|rfl|rfl|rfl|rfl
  ·exact hB
  ·exact hL
  ·exact hC
  ·exact hF
  ·exact hlt.1
  ·exact hlt.2
 have hne':∀X∈[B,L,C,F,l,Db],lv'.ownBlock≠some X:=by
  intro X hX
  rcases hf with e|e
  ·rw [e];exact h.ne X hX
  ·rw [e];intro e2;cases e2;have:=hall _ hX;omega
 refine ⟨?_,h.lp.keep (keep l (by simp) hlt.1 hd.2.2.1) (keep Db (by simp) hlt.2 hd.2.2.2),hb,⟨(keep C (by simp) hC hd.1).trans h.bc.heap⟩,⟨(keep F (by simp) hF hd.2.1).trans h.bf.heap⟩, ?_,hne',h.nc, ?_⟩
 ·exact hO.ext (h.ext.grown hg h.ext.size fun k hk=>(h.own.blk k hk).1) hwL
 ·exact Own.same ho fun k hk=>hO.block k fun e=>hne' L (by simp) (by rw [hk,e])
 ·intro k hk
  rcases hf with e|e
  ·exact h.nn k (e▸hk)
  ·rw [e] at hk
   cases hk
   intro e2
   have:=hc _ e2;omega
theorem Sc.gb {base B:Nat} {W W':World} {s:Bs} {k:Nat} {line:Int} {coms:List Bs} {cv:Value} {row:Option Nat} (h:Sc base B W s k line coms cv) (hg:W.grownBy W' row) (h1:row≠some B) (h2:cv.ownBlock=none∨cv.ownBlock≠row):Sc base B W' s k line coms cv:=
 ⟨⟨(hg.block B h.blk.lt (fun e=>h1 e.symm)).trans h.blk.heap⟩,h.own.kept hg h2,h.ne,h.bB,Nat.le_trans h.bW hg.size,h.kl,h.sl,h.l0,h.l1,h.cl⟩
theorem ri28:∃b,rowInfo Tryz.prog 48=some (53,3,b)∧b≤64:=by
 have h:(match rowInfo Tryz.prog 48 with|some (e,s,b)=>decide (e=53)&&decide (s=3)&&decide (b≤64)|none=>false)=true:=by kernel_rfl
 split at h
 ·rename_i e s b he
  simp only [Bool.and_eq_true,decide_eq_true_eq] at h
  obtain ⟨⟨rfl,rfl⟩,hb⟩:=h
  exact ⟨b,he,hb⟩
 ·cases h
theorem si28:sliceInfo Tryz.prog 48=some (53,3):=by kernel_rfl
theorem bu31a:Tryz.prog.built 26 [(0, .int .i64 2)]=some #[.int .i64 2, .int .i64 0]:=by kernel_rfl
theorem bu31z:Tryz.prog.built 26 []=some #[.int .i64 0, .int .i64 0]:=by kernel_rfl
theorem bu87 (s:Bs):Tryz.prog.built 215 [(0, .string (mkS s)),(2, .int .i64 1)]=some #[.string (mkS s), .int .i64 0, .int .i64 1]:=by kernel_rfl
theorem bu89 (s:Bs):Tryz.prog.built 217 [(0, .agg #[.string (mkS s), .int .i64 0, .int .i64 1])]=some #[.string (mkS s), .int .i64 0, .int .i64 1, .slice none 0 0]:=by kernel_rfl
theorem z28:zeroCellsOf Tryz.prog 48=some #[.slice none 0 0]:=by kernel_rfl
theorem z25:zeroCellsOf Tryz.prog 51=some #[.slice none 0 0]:=by kernel_rfl
theorem z31:zeroCellsOf Tryz.prog 26=some #[.int .i64 0, .int .i64 0]:=by kernel_rfl
@[simp] theorem cb200:callB Tryz.prog 200=true:=by kernel_rfl
@[simp] theorem cb201:callB Tryz.prog 201=true:=by kernel_rfl
def ScanPost (w:World) (src:Bs):Ending→World→Prop:=fun e w'=>∃v c,e= .returned (.tuple #[v,c, .agg #[.int .i64 (scan src).err, .int .i64 (scan src).at]])∧
 Own w.heap.size 53 3 w' v (toksV (scan src).toks)∧Own w.heap.size 9 1 w' c ((scan src).coms.map encT)∧Ext w w'
theorem retS {t u z A B C:Nat} {x y:Value} {cs:Array Value} {T U V:TypeId} {R:Ending→World→Prop} {ρ:Env} {w:World} (hp:ρ t= .pointer (some ⟨A,0,none⟩)) (hb:Blk w A #[x] T) (hq:ρ u= .pointer (some ⟨B,0,none⟩)) (hc:Blk w B #[y] U)
  (hz:ρ z= .pointer (some ⟨C,0,none⟩)) (hd:Blk w C cs V) (hn:cs.size=2) (h:R (.returned (.tuple #[x,y, .agg cs])) w):retK [.cell1 t, .cell1 u, .cellN z 2] R ρ w:=by
 have h1:w.cell? ⟨A,0,none⟩=some x:=by rw [hb.cell];rfl
 have h2:w.cell? ⟨B,0,none⟩=some y:=by rw [hc.cell];rfl
 have h3:pv1 w (.loadN 2) (.pointer (some ⟨C,0,none⟩))=some (.agg cs):=by rw [pv1_loadN,←hn,row_blk hd];rfl
 simp only [retK,resVals,RV.val,hp,hq,hz,pv1_load1,h1,h2,h3,Option.map_some,Option.bind_some]
 exact h
theorem leaves_fn {P:Program} {rs:List RV} {R:Ending→World→Prop} {ρ:Env} {w:World} {f:FuncId} {caps:Array Value} {u:FrameMode} (hu:u≠ .run) (hcb:callB P f=true)
  (h:CallsDIn Fence.wide 0 P f caps u w fun
   | .returned _,u',w'=>LeavesV P rs R ρ [] (settle u') w'
   | .panicked chain,u',w'=>LeavesV P rs R ρ [] (raised u' chain) w'
   | .outgrown,_,w'=>R .outgrown w'):LeavesV P rs R ρ [.func (.func f) #[] caps] u w:=by
 refine ⟨hu,f,caps, ?_,h⟩
 unfold callB at hcb
 split at hcb
 ·rename_i fn hf
  simp only [Bool.and_eq_true,Bool.not_eq_true',beq_eq_false_iff_ne,ne_eq] at hcb
  cases hb:fn.body with
  |none=>simp [hb] at hcb
  |some c=>simp [invoke,callFunc,hf,hcb.1,hb]
 ·cases hcb
theorem sc_hpn {R:Ending→World→Prop} {l:List Nat} (hl:∀d∈l,d≠gS∧d≠2∧d≠3∧d≠4):∀d∈l,∀ρ v c w,(ksD Tryz.prog [.cell1 2, .cell1 3, .cellN 4 2] R).pn (upd ρ d v) c w→(ksD Tryz.prog [.cell1 2, .cell1 3, .cellN 4 2] R).pn ρ c w:=by
 intro d hd ρ v c w h
 obtain ⟨h1,h2,h3,h4⟩:=hl d hd
 refine endK_upd h1 (fun w=> ?_) h
 simp [resVals,RV.val,Ne.symm h2,Ne.symm h3,Ne.symm h4]
theorem t_scanned {w:World} (hG:G w) (src:Bs) (hs:src.length<4611686018427387904):Calls Tryz.prog 115 #[.string (mkS src)] w (ScanPost w src):=by
 refine ir115_calls fun ρ r0 rg=> ?_
 have rg':ρ 1000000000= .tuple #[]:=rg
 simp [ir115,r0]
 refine eff_alloc z28 fun L W1 hL hE1 hbL hs1=> ?_
 simp
 refine eff_alloc z25 fun C W2 hC hE2 hbC hs2=> ?_
 simp
 refine eff_alloc z31 fun F W3 hF hE3 hbF hs3=> ?_
 have hE13:=(hE1.trans' hE2).trans' hE3
 have hbL3:=(hbL.ext hE2).ext hE3
 have hbC3:=hbC.ext hE3
 have z1:=hE1.size
 have z2:=hE2.size
 have z3:=hE3.size
 by_cases hlen:20000<src.length
 ·have hlI:(20000:Int)<src.length:=by omega
  have hsc:scan src= .bad 2 0:=by rw [scan,if_pos hlen]
  simp [hlI,bu31a,r0]
  refine eff_store1 (B:=L) (i:=0) (by simp) hbL3 (by simp) rfl rfl sz28 fun W4 hO4 hb4=> ?_
  simp
  refine eff_store1 (B:=C) (i:=0) (by simp) (hO4.blk hbC3 (by omega)) (by simp) rfl rfl sz25 fun W5 hO5 hb5=> ?_
  simp
  refine eff_storeN (B:=F) (by simp) (hO5.blk (hO4.blk hbF (by omega)) (by omega)) (by simp [Value.cells]) (by simp [Value.cells]) (by simpa [Value.cells] using sz31) fun W6 hO6 hb6=> ?_
  simp [Value.cells] at hb4 hb5 hb6⊢
  refine end_none (by simp [gS,rg']) ?_
  refine retS (by simp) (hO6.blk (hO5.blk hb4 (by omega)) (by omega)) (by simp) (hO6.blk hb5 (by omega)) (by simp) hb6 rfl ?_
  refine ⟨_,_,by rw [hsc];rfl,by rw [hsc];exact Own.nil _ _ _ _,by rw [hsc];exact Own.nil _ _ _ _, ?_⟩
  exact hO6.ext (hO5.ext (hO4.ext hE13 hL) (by omega)) (by omega)
 ·have hlI:¬(20000:Int)<src.length:=by omega
  have hsc:scan src=scanAt src 1:=by rw [scan,if_neg hlen]
  simp [hlI,r0,ir115_k2]
  refine eff_defer (f:=200) (caps:= #[.pointer (some ⟨L,0,none⟩), .pointer (some ⟨C,0,none⟩), .pointer (some ⟨F,0,none⟩)]) (by simp) trivial ?_
  simp [gS,rg',r0,bu87,bu89]
  refine eff_box fun B W4 hB hE4 hbB hs4=> ?_
  simp [Value.cells] at hbB⊢
  have hE14:=hE13.trans' hE4
  have hbL4:=hbL3.ext hE4
  have hbC4:=hbC3.ext hE4
  have hbF4:=hbF.ext hE4
  have hS4:Sc w.heap.size B W4 src 0 1 [] (.slice none 0 0):=⟨by simpa using hbB,Own.nil _ _ _ _,by simp [Value.ownBlock],by omega,hE14.size,Nat.zero_le _,by omega,by omega,by omega,by simp⟩
  obtain ⟨Q,hQ⟩:∃Q,Q=ksD Tryz.prog [.cell1 2, .cell1 3, .cellN 4 2] (ScanPost w src):=⟨_,rfl⟩
  have hQrt:Q.rt=endK Tryz.prog [.cell1 2, .cell1 3, .cellN 4 2] (ScanPost w src) .returning:=by rw [hQ];rfl
  have hQpn:∀ρ c w',Q.pn ρ c w'=endK Tryz.prog [.cell1 2, .cell1 3, .cellN 4 2] (ScanPost w src) (.panicking c) ρ w':=by rw [hQ];intros;rfl
  have key:∀ρ8:Env,ρ8 2= .pointer (some ⟨L,0,none⟩)→ρ8 3= .pointer (some ⟨C,0,none⟩)→ρ8 4= .pointer (some ⟨F,0,none⟩)→ρ8 5= .pointer (some ⟨B,0,none⟩)→ρ8 17= .func (.func 201) #[.pointer (some ⟨B,0,none⟩)] #[]→
    ρ8 gS= .tuple #[.func (.func 200) #[] #[.pointer (some ⟨L,0,none⟩), .pointer (some ⟨C,0,none⟩), .pointer (some ⟨F,0,none⟩)]]→
    (IR.raw ir115_c0).wp ⟨Tryz.prog,29,ir115_V,dAny⟩ (ir115_k1.wp ⟨Tryz.prog,29,ir115_V,dAny⟩ (endK Tryz.prog [.cell1 2, .cell1 3, .cellN 4 2] (ScanPost w src) .returning) Q) (Q.blk 0 (ir115_k1.wp ⟨Tryz.prog,29,ir115_V,dAny⟩ (endK Tryz.prog [.cell1 2, .cell1 3, .cellN 4 2] (ScanPost w src) .returning) Q)) ρ8 W4:=by
   intro ρ8 e2 e3 e4 e5 e17 eg
   obtain ⟨bA,bB,hrf,hpA,hpB⟩:=ir115_rf0
   rw [hrf]
   refine raw_rangeM (gf:=201) (fs:= #[.pointer (some ⟨B,0,none⟩)]) (lb:= #[]) (by simp [dAny]) (by simpa using e17) (by decide) (by simp) fun a rec W5 hag hrt hrp hra hrb hrs hrpd hE5 hsz5 hL5=> ?_
   have hJ0:SJ w B L C F (W4.heap.size+1) W4.heap.size rec [] (.slice none 0 0) (.slice none 0 0) W5:=
    ⟨hE14.trans' hE5,hL5,hbL4.ext hE5,hbC4.ext hE5,hbF4.ext hE5,Own.nil _ _ _ _,by simp [Value.ownBlock],by simp [Value.ownBlock];omega,by simp [Value.ownBlock]⟩
   simp only [List.append_toArray,List.cons_append,List.nil_append,Array.append_empty]
   refine (it_tokens (base:=w.heap.size) (B:=B) (l:=W4.heap.size+1) (s:=src) (cv0:= .slice none 0 0) (fun ts cv W=>(∃lv,SJ w B L C F (W4.heap.size+1) W4.heap.size rec ts cv lv W)∧∀k,cv.ownBlock=some k→w.heap.size≤k) (fun ts cv W h=> ?_) (fun ts cv cv' W W' h hT=> ?_) (fun ts cv t W k line coms hJ hS hlen'=> ?_) ⟨⟨_,hJ0⟩,by simp [Value.ownBlock]⟩ (hS4.ext hE5)).mono ?_
   ·obtain ⟨⟨lv,h⟩,_⟩:=h
    exact hG.ext h.ext
   ·obtain ⟨⟨lv,h⟩,hc⟩:=h
    refine ⟨⟨lv,h.turn hT (by omega) hc⟩,fun k hk=> ?_⟩
    rcases hT.own with e|e
    ·exact hc k (e▸hk)
    ·have:=e k hk;have:=h.ext.size;omega
   ·obtain ⟨⟨lv,h⟩,hc⟩:=hJ
    refine yield_of h.lp hrs hag hrt hrp (by rfl) (by decide) (by rw [hra];exact hpA) (by rw [hrb];exact hpB) ?_
    simp [parEnv,ir115_a0]
    refine eff_alloc z38 fun Bt W6 hBt hE6 hbt _=> ?_
    simp
    refine eff_storeN (B:=Bt) (by simp) hbt (by simp [Value.cells,encK]) (by simp [Value.cells,encK]) (by simpa [Value.cells] using sz38) fun W7 hO7 hb7=> ?_
    simp [Value.cells,encK] at hb7
    have off:=hS.off hBt
    have hS7:=(hS.ext hE6).only hO7 off.1 off.2
    have h7:SJ w B L C F (W4.heap.size+1) W4.heap.size rec ts cv lv W7:=h.turn ((Tn.ext hE6).new hO7 hBt) (by omega) hc
    simp
    refine ⟨h7.lp,fun W8 hO8 hL8=> ?_⟩
    have h4s:=h7.nc (W4.heap.size+1) (by simp)
    have h8:SJ w B L C F (W4.heap.size+1) W4.heap.size _ ts cv lv W8:=h7.round hO8 (by have:=hE14.size;omega) ⟨by omega,by omega,by omega⟩ hL8
    have hS8:=hS7.only hO8 h4s.2 h4s.1
    have hltl:=h7.lp.lt
    have hb8:=hO8.blk hb7 (by have:=h.lp.lt;omega)
    simp [ir115_b0,e2,h8.bl.cell,hb8.cell]
    refine eff_lit si28 (by decide) (by decide) (by simp [Value.cells]) fun B9 W9 hB9 hE9 hb9 _=> ?_
    simp [Value.cells] at hb9
    have h9:=h8.turn (Tn.ext hE9) (by omega) hc
    have hS9:=hS8.ext hE9
    have hO9:Own w.heap.size 53 3 W9 (.slice (some ⟨B9,0,none⟩) 1 1) [.int .u8 (t.kind:Int), .string (mkS t.text), .int .i64 t.line]:=Own.lit hb9 rfl (by have:=h8.ext.size;omega) (by decide)
    obtain ⟨bb,ri,hbb⟩:=ri28
    simp
    refine eff_appendG ri h9.ext.size (by simp) (by simp) h9.own (own_cells hO9) (by simp;exact ⟨rfl,rfl,rfl⟩) (by rw [toksV_len];simp;omega) (by
     rw [toksV_len]
     have:(ts.length*3+3)*bb≤(ts.length*3+3)*64:=Nat.mul_le_mul_left _ hbb
     simp;omega) fun lv' W10 ho10 hg10 hf10=> ?_
    have hbl10:Blk W10 L #[lv] 48:=⟨(hg10.block L h9.bl.lt (fun e=>h9.ne L (by simp) e.symm)).trans h9.bl.heap⟩
    have hone:=own_one ho10
    simp [e2]
    refine eff_store1 (B:=L) (i:=0) (by simp [e2]) hbl10 (by simp) (by simpa using hone.1) (by simpa using hone.2) sz28 fun W11 hO11 hb11=> ?_
    simp at hb11
    have h11:SJ w B L C F (W4.heap.size+1) W4.heap.size _ (ts++[t]) cv lv' W11:=h9.app hg10 (by rw [toksV_snoc];exact ho10) hf10 hO11 hb11 ⟨by omega,by omega,by omega,by omega⟩ hS9.blk.lt (fun k hk=>(hS9.own.blk k hk).2) hL
    have hcl:cv.ownBlock=none∨cv.ownBlock≠lv.ownBlock:=by
     cases hk:cv.ownBlock with
     |none=>exact .inl rfl
     |some k=>exact .inr fun e=>h9.nn k e.symm hk
    have hnL:=h9.nc L (by simp)
    have hS11:=(hS9.gb hg10 (h9.ne B (by simp)) hcl).only hO11 hnL.2 hnL.1
    simp [roundK]
    refine ⟨h11.lp,fun W12 hO12 hL12=> ?_⟩
    exact ⟨⟨⟨lv',h11.round hO12 (by have:=hE14.size;omega) ⟨by omega,by omega,by omega⟩ (hL12.ready hrs hrpd)⟩,hc⟩,hS11.only hO12 h4s.2 h4s.1⟩
   ·rintro e W6 (⟨v,ts,coms,cv,line,rfl,hsc',⟨⟨lv,h⟩,hc⟩,hS6⟩|⟨er,line,ts,cv,rfl,hsc',⟨⟨lv,h⟩,hc⟩⟩)
    ·refine ⟨.ready,none,by simp,h.lp.ready' hrs hrpd,fun W7 hO7 hL7=> ?_⟩
     have hl4:=h.nc (W4.heap.size+1) (by simp)
     have h7:=h.round hO7 (by have:=hE14.size;omega) ⟨by omega,by omega,by omega⟩ hL7
     have hS7:=hS6.only hO7 hl4.2 hl4.1
     have nB:=(h7.nc L (by simp)).2
     have nC:=(h7.nc C (by simp)).2
     simp only [ir115_k1,ir115_k0,wpi_seq]
     refine raw_ord ir115_o8_ok (fun W=>Blk W L #[lv] 48∧Blk W B (scC src src.length line cv) 217) (fun W8 hE8 _=> ?_) (by rw [hQ];exact sc_hpn (by simp [OT.takes,ir115_o8,gS]))
     have h8:=h7.turn (Tn.ext hE8) (by omega) hc
     have hS8:=hS7.ext hE8
     refine ⟨⟨h8.bl,hS8.blk⟩, ?_⟩
     have cL:∀W,Blk W L #[lv] 48→W.cell? ⟨L,0,none⟩=some lv:=fun W h=>by rw [h.cell];rfl
     have cB:∀W,Blk W B (scC src src.length line cv) 217→W.cell? ⟨B,3,none⟩=some cv:=fun W h=>by rw [h.cell];rfl
     have hone:=own_one h8.own
     have honc:=own_one hS8.own
     have hLB:=(h8.nc L (by simp)).2
     have hCB:=(h8.nc C (by simp)).2
     have fin:∀(ρ9:Env) (Wa Wb Wc:World),ρ9 2= .pointer (some ⟨L,0,none⟩)→ρ9 3= .pointer (some ⟨C,0,none⟩)→ρ9 4= .pointer (some ⟨F,0,none⟩)→
       ρ9 gS= .tuple #[.int .i64 W4.heap.size, .func (.func 200) #[] #[.pointer (some ⟨L,0,none⟩), .pointer (some ⟨C,0,none⟩), .pointer (some ⟨F,0,none⟩)]]→
       Only L W8 Wa→Blk Wa L #[lv] 48→Only C Wa Wb→Blk Wb C #[cv] 51→Only F Wb Wc→Blk Wc F #[.int .i64 0, .int .i64 0] 26→endK Tryz.prog [.cell1 2, .cell1 3, .cellN 4 2] (ScanPost w src) .returning ρ9 Wc:=by
      intro ρ9 Wa Wb Wc f2 f3 f4 fg oa ba ob bb oc bc
      have hcol:Wc.heap[W4.heap.size]? =some (.deferred (some [])):=by
       rw [oc.block _ (by omega),ob.block _ (by omega),oa.block _ (by omega)];exact h8.lp.col
      simp only [endK,fg]
      refine leaves_mark (by simp) hcol fun W9 hO9=> ?_
      refine leaves_fn (by simp) cb200 (d_none.mono ?_)
      rintro e u' w' ⟨⟨v,rfl⟩,rfl,rfl⟩
      refine leaves_ret (retS f2 (hO9.blk (oc.blk (ob.blk ba (by omega)) (by omega)) (by omega)) f3 (hO9.blk (oc.blk bb (by omega)) (by omega)) f4 (hO9.blk bc (by omega)) rfl ?_)
      have hwo:∀k,k∈[L,C,F,W4.heap.size]→lv.ownBlock≠some k∧cv.ownBlock≠some k:=by
       intro k hk
       simp only [List.mem_cons,List.mem_nil_iff,or_false] at hk
       rcases hk with rfl|rfl|rfl|rfl
       ·exact ⟨h8.ne _ (by simp),(h8.nc _ (by simp)).1⟩
       ·exact ⟨h8.ne _ (by simp),(h8.nc _ (by simp)).1⟩
       ·exact ⟨h8.ne _ (by simp),(h8.nc _ (by simp)).1⟩
       ·exact ⟨h8.ne _ (by simp),(h8.nc _ (by simp)).1⟩
      have same:∀k,k≠L→k≠C→k≠F→k≠W4.heap.size→w'.heap[k]? =W8.heap[k]? :=fun k k1 k2 k3 k4=>by
       rw [hO9.block k k4,oc.block k k3,ob.block k k2,oa.block k k1]
      have hsr:scan src= .ok ts coms:=hsc.trans hsc'
      refine ⟨lv,cv,by rw [hsr];rfl, ?_, ?_, ?_⟩
      ·rw [hsr]
       refine Own.same h8.own fun k hk=>same k ?_ ?_ ?_ ?_
       ·rintro rfl;exact (hwo k (by simp)).1 hk
       ·rintro rfl;exact (hwo k (by simp)).1 hk
       ·rintro rfl;exact (hwo k (by simp)).1 hk
       ·rintro rfl;exact (hwo _ (by simp)).1 hk
      ·rw [hsr]
       refine Own.same hS8.own fun k hk=>same k ?_ ?_ ?_ ?_
       ·rintro rfl;exact (hwo k (by simp)).2 hk
       ·rintro rfl;exact (hwo k (by simp)).2 hk
       ·rintro rfl;exact (hwo k (by simp)).2 hk
       ·rintro rfl;exact (hwo _ (by simp)).2 hk
      ·exact hO9.ext (oc.ext (ob.ext (oa.ext h8.ext hL) (by omega)) (by omega)) (by have:=hE14.size;omega)
     have stL:∀(K:Env→World→Prop) (ρ9:Env),ρ9 2= .pointer (some ⟨L,0,none⟩)→ρ9 23=lv→(∀Wa,Only L W8 Wa→Blk Wa L #[lv] 48→(Blk Wa L #[lv] 48∧Blk Wa B (scC src src.length line cv) 217)→K ρ9 Wa)→effW Tryz.prog Q.noRd none (.store 48 (.tmp 2) (.tmp 23)) 0 K ρ9 W8:=by
      intro K ρ9 f2 f23 hk
      refine eff_store1 (B:=L) (i:=0) (by simpa using f2) h8.bl (by simp) (by simp [f23,hone.1]) (by simp [f23,hone.2]) sz28 fun Wa oa ba=> ?_
      have ba':Blk Wa L #[lv] 48:=by simpa [f23] using ba
      exact hk Wa oa ba' ⟨ba',oa.blk hS8.blk (Ne.symm hLB)⟩
     have stC:∀(K:Env→World→Prop) (ρ9:Env) (Wa:World),Only L W8 Wa→Blk Wa L #[lv] 48→ρ9 3= .pointer (some ⟨C,0,none⟩)→ρ9 27=cv→(∀Wb,Only C Wa Wb→Blk Wb C #[cv] 51→(Blk Wb L #[lv] 48∧Blk Wb B (scC src src.length line cv) 217)→K ρ9 Wb)→effW Tryz.prog Q.noRd none (.store 51 (.tmp 3) (.tmp 27)) 0 K ρ9 Wa:=by
      intro K ρ9 Wa oa ba f3 f27 hk
      refine eff_store1 (B:=C) (i:=0) (by simpa using f3) (oa.blk h8.bc (by omega)) (by simp) (by simp [f27,honc.1]) (by simp [f27,honc.2]) sz25 fun Wb ob bb=> ?_
      have bb':Blk Wb C #[cv] 51:=by simpa [f27] using bb
      exact hk Wb ob bb' ⟨ob.blk ba (by omega),ob.blk (oa.blk hS8.blk (Ne.symm hLB)) (Ne.symm hCB)⟩
     have stF:∀(ρ9:Env) (Wa Wb:World),Only L W8 Wa→Blk Wa L #[lv] 48→Only C Wa Wb→Blk Wb C #[cv] 51→ρ9 2= .pointer (some ⟨L,0,none⟩)→ρ9 3= .pointer (some ⟨C,0,none⟩)→ρ9 4= .pointer (some ⟨F,0,none⟩)→ρ9 28= .agg #[.int .i64 0, .int .i64 0]→
       ρ9 gS= .tuple #[.int .i64 W4.heap.size, .func (.func 200) #[] #[.pointer (some ⟨L,0,none⟩), .pointer (some ⟨C,0,none⟩), .pointer (some ⟨F,0,none⟩)]]→effW Tryz.prog Q.noRd none (.store 26 (.tmp 4) (.tmp 28)) 0 (fun ρ' w'=>Q.rt ρ' w') ρ9 Wb:=by
      intro ρ9 Wa Wb oa ba ob bb f2 f3 f4 f28 fg
      refine eff_storeN (B:=F) (by simpa using f4) (ob.blk (oa.blk h8.bf (by omega)) (by omega)) (by simp [f28,Value.cells]) (by simp [f28,Value.cells]) (by simpa [Value.cells] using sz31) fun Wc oc bc=> ?_
      simp [f28,Value.cells] at bc
      simp [hQrt]
      exact fin _ Wa Wb Wc f2 f3 f4 fg oa ba ob bb oc bc
     have eg':(consD (markD W4.heap.size) (ρ8 gS))= .tuple #[.int .i64 W4.heap.size, .func (.func 200) #[] #[.pointer (some ⟨L,0,none⟩), .pointer (some ⟨C,0,none⟩), .pointer (some ⟨F,0,none⟩)]]:=by rw [eg];simp
     simp -implicitDefEqProofs+contextual [ir115_o8,e2,e5,cL,cB,h8.bl,hS8.blk]
     refine ⟨?_, ?_⟩
     ·rw [bu31z]
      dsimp only [onO]
      refine stL _ _ (by simp [e2]) (by simp) fun Wa oa ba hSa=>⟨hSa, ?_⟩
      refine stC _ _ Wa oa ba (by simp [e3]) (by simp) fun Wb ob bb hSb=>⟨hSb, ?_⟩
      exact stF _ Wa Wb oa ba ob bb (by simp [e2]) (by simp [e3]) (by simp [e4]) (by simp) (by simp [eg'])
     ·refine stL _ _ (by simp [e2]) (by simp) fun Wa oa ba hSa=>⟨hSa, ?_, ?_⟩
      ·rw [bu31z]
       dsimp only [onO]
       refine ⟨hSa, ?_⟩
       refine stC _ _ Wa oa ba (by simp [e3]) (by simp) fun Wb ob bb hSb=>⟨hSb, ?_⟩
       exact stF _ Wa Wb oa ba ob bb (by simp [e2]) (by simp [e3]) (by simp [e4]) (by simp) (by simp [eg'])
      ·refine stC _ _ Wa oa ba (by simp [e3]) (by simp) fun Wb ob bb hSb=>⟨hSb, ?_⟩
       rw [bu31z]
       exact ⟨hSb,stF _ Wa Wb oa ba ob bb (by simp [e2]) (by simp [e3]) (by simp [e4]) (by simp) (by simp [eg'])⟩
    ·show Q.pn _ (brkC er line) _
     have eg':(consD (markD W4.heap.size) (ρ8 gS))= .tuple #[.int .i64 W4.heap.size, .func (.func 200) #[] #[.pointer (some ⟨L,0,none⟩), .pointer (some ⟨C,0,none⟩), .pointer (some ⟨F,0,none⟩)]]:=by rw [eg];simp
     have hgs:upd ρ8 gS (consD (markD W4.heap.size) (ρ8 gS)) gS= .tuple #[.int .i64 W4.heap.size, .func (.func 200) #[] #[.pointer (some ⟨L,0,none⟩), .pointer (some ⟨C,0,none⟩), .pointer (some ⟨F,0,none⟩)]]:=by simp [eg']
     rw [hQpn]
     simp only [endK,hgs]
     have hlt:=h.lp.lt
     refine leaves_mark (by simp) h.lp.col fun W9 hO9=> ?_
     refine leaves_fn (by simp) cb200 ((d_brk (hO9.blk h.bl (by omega)) (hO9.blk h.bc (by omega)) (hO9.blk h.bf (by omega)) rfl (by omega) (by omega) (by omega)).mono ?_)
     rintro e u' w' ⟨⟨v,rfl⟩,hu,⟨Wx,ex,Wy,oy,Wz,oz,ow⟩,cl,cc,cf⟩
     show LeavesV _ _ _ _ [] (settle u') w'
     rw [hu]
     refine leaves_ret (retS (by simp [e2]) cl (by simp [e3]) cc (by simp [e4]) cf rfl ?_)
     have hsr:scan src= .bad er line:=hsc.trans hsc'
     refine ⟨_,_,by rw [hsr];rfl,by rw [hsr];exact Own.nil _ _ _ _,by rw [hsr];exact Own.nil _ _ _ _, ?_⟩
     have h9:Ext w W9:=hO9.ext h.ext (by have:=hE14.size;omega)
     exact ow.ext (oz.ext (oy.ext (h9.trans' ex) hL) (by omega)) (by omega)
  rw [hQ] at key
  exact key _ (by simp) (by simp) (by simp) (by simp) (by simp) (by simp [gS])
end Go.L01
namespace Go.L01
open Go Go.Eng Go.RowKit Go.Proofs
set_option maxRecDepth 100000
set_option maxHeartbeats 2000000
structure SlK (w:World) (v:Value) (ts:List Tok):Prop where
 is:isSl v=true
 len:slLen v=ts.length
 bd:ts.length<1537228672809129301
 cell:∀(i:Nat) (h:i<ts.length),w.cell? (slAddr v (i*3))=some (.int .u8 (ts[i].kind:Int))∧w.cell? (slAddr v (i*3+1))=some (.string (mkS ts[i].text))∧w.cell? (slAddr v (i*3+2))=some (.int .i64 ts[i].line)
theorem SlK.ext {w w':World} {v:Value} {ts:List Tok} (h:SlK w v ts) (hE:Ext w w'):SlK w' v ts:=
 ⟨h.is,h.len,h.bd,fun i hi=>let ⟨a,b,c⟩:=h.cell i hi;⟨hE.cell a,hE.cell b,hE.cell c⟩⟩
theorem toksV_get:∀(ts:List Tok) (i:Nat) (h:i<ts.length),(toksV ts)[i*3]? =some (.int .u8 (ts[i].kind:Int))∧(toksV ts)[i*3+1]? =some (.string (mkS ts[i].text))∧(toksV ts)[i*3+2]? =some (.int .i64 ts[i].line)
 |t::ts,0,_=>by simp [toksV]
 |t::ts,i+1,h=>by
  have:=toksV_get ts i (by simpa using h)
  have e:∀j,(toksV (t::ts))[(i+1)*3+j]? =(toksV ts)[i*3+j]? :=fun j=>by
   rw [show (i+1)*3+j=(i*3+j)+3 by omega]
   simp [toksV]
  have e0:=e 0
  simp only [Nat.add_zero] at e0
  rw [e0,e 1,e 2]
  simpa using this
theorem SlK.own {base:Nat} {w:World} {v:Value} {ts:List Tok} (h:Own base 53 3 w v (toksV ts)) (hb:ts.length<1537228672809129301):SlK w v ts:=by
 have hc:=own_cells h
 have hl:=hc.len
 rw [toksV_len] at hl
 refine ⟨hc.is,by omega,hb,fun i hi=> ?_⟩
 obtain ⟨e0,e1,e2⟩:=toksV_get ts i hi
 have hlen:(toksV ts).length=ts.length*3:=toksV_len ts
 have g:∀j x,j<ts.length*3→(toksV ts)[j]? =some x→w.cell? (slAddr v j)=some x:=fun j x hj hx=>by
  rw [hc.cell j (by omega),←List.getElem?_eq_getElem,hx]
 exact ⟨g _ _ (by omega) e0,g _ _ (by omega) e1,g _ _ (by omega) e2⟩
theorem SlK.nil (w:World):SlK w (.slice none 0 0) []:=⟨rfl,rfl,by simp,fun i h=>by simp at h⟩
theorem toks_le (s:Bs) (l:Int):(scanAt s l).toks.length≤s.length∧(scanAt s l).coms.length≤s.length:=by
 refine scan_cases (P:=fun s l=>(scanAt s l).toks.length≤s.length∧(scanAt s l).coms.length≤s.length) ?_ ?_ ?_ ?_ ?_ ?_ s l
 ·intro l;simp [scanAt_nil,Res.toks,Res.coms]
 ·intro r l h;rw [scanAt_nl];simp;omega
 ·intro c r l hc h;rw [scanAt_sp r l hc];simp;omega
 ·intro a r l ha hr h
  rw [scanAt_com l ha hr]
  cases hx:scanAt r l with
  |bad e x=>simp [Res.add,Res.toks,Res.coms]
  |ok ts cs=>
   rw [hx] at h
   simp [Res.add,Res.toks,Res.coms] at h⊢;omega
 ·intro c r l h1 h2 h3 h4 h;rw [scanAt_err l h1 h2 h3 h4 h];simp [Res.toks,Res.coms]
 ·intro k s r l hr hf h
  rw [scanAt_tok (first_alone hr).1 hf (right_bytes hr)]
  have h0:0<s.length:=List.length_pos_iff.2 (first_alone hr).1
  cases hx:scanAt r l with
  |bad e x=>simp [Res.add,Res.toks,Res.coms]
  |ok ts cs=>
   rw [hx] at h
   simp [Res.add,Res.toks,Res.coms] at h⊢;omega
theorem scan_le (s:Bs):(scan s).toks.length≤20000∧(scan s).coms.length≤20000:=by
 unfold scan
 split
 ·simp [Res.toks,Res.coms]
 ·have:=toks_le s 1
  omega
@[simp] theorem cb115:callB Tryz.prog 115=true:=by kernel_rfl
@[simp] theorem cb87:callB Tryz.prog 87=true:=by kernel_rfl
@[simp] theorem cb175:callB Tryz.prog 175=true:=by kernel_rfl
@[simp] theorem cb176:callB Tryz.prog 176=true:=by kernel_rfl
theorem ownMono {b b' e sz:Nat} {w:World} {v:Value} {xs:List Value} (hb:b≤b') (h:Own b' e sz w v xs):Own b e sz w v xs:=by
 rcases h with h|⟨g,off,n,cap,cur,rfl,hbs,r⟩
 ·exact .inl h
 ·exact .inr ⟨g,off,n,cap,cur,rfl,by omega,r⟩
def fV (src:Bs):Value:= .agg #[.int .i64 (scan src).err, .int .i64 (scan src).at]
def ScanR (w:World) (src:Bs):Ending→World→Prop:=fun e w'=>∃v,e= .returned (.tuple #[v,fV src])∧Own w.heap.size 53 3 w' v (toksV (scan src).toks)∧Ext w w'
theorem retT {t z C:Nat} {x:Value} {cs:Array Value} {V:TypeId} {R:Ending→World→Prop} {ρ:Env} {w:World} (hp:ρ t=x) (hz:ρ z= .pointer (some ⟨C,0,none⟩)) (hd:Blk w C cs V) (hn:cs.size=2) (h:R (.returned (.tuple #[x, .agg cs])) w):retK [.tmp t, .cellN z 2] R ρ w:=by
 have h3:pv1 w (.loadN 2) (.pointer (some ⟨C,0,none⟩))=some (.agg cs):=by rw [pv1_loadN,←hn,row_blk hd];rfl
 simp only [retK,resVals,RV.val,hp,hz,h3,Option.map_some,Option.bind_some]
 exact h
theorem t_Scan {w:World} (hG:G w) (src:Bs) (hs:src.length<4611686018427387904):Calls Tryz.prog 53 #[.string (mkS src)] w (ScanR w src):=by
 refine ir53_calls fun ρ r0=> ?_
 simp [ir53,r0]
 refine eff_alloc z31 fun B W hB hE hb _=> ?_
 simp [r0]
 refine (t_scanned (hG.ext hE) src hs).mono ?_
 rintro _ W1 ⟨v,c,rfl,ho,_,hE1⟩
 simp
 refine eff_alloc z31 fun B2 W2 hB2 hE2 hb2 _=> ?_
 simp
 refine eff_storeN (B:=B2) (by simp) hb2 (by simp [Value.cells]) (by simp [Value.cells]) (by simpa [Value.cells] using sz31) fun W3 hO3 hb3=> ?_
 simp [Value.cells] at hb3⊢
 have hbB:=hO3.blk ((hb.ext hE1).ext hE2) (by have:=hb.lt;have:=hE1.size;omega)
 refine raw_ord ir53_o2_ok (fun W=>Blk W B2 #[.int .i64 (scan src).err, .int .i64 (scan src).at] 26) fun W4 hE4 _=>⟨hb3.ext hE4, ?_⟩
 have hc:∀W,Blk W B2 #[.int .i64 (scan src).err, .int .i64 (scan src).at] 26→∀i,W.cell? ⟨B2,i,none⟩= #[Value.int .i64 (scan src).err, .int .i64 (scan src).at][i]? :=fun W h=>h.cell
 simp+contextual -implicitDefEqProofs [ir53_o2,hc,hb3.ext hE4]
 refine eff_storeN (B:=B) (by simp) (hbB.ext hE4) (by simp [Value.cells]) (by simp [Value.cells]) (by simpa [Value.cells] using sz31) fun W5 hO5 hb5=> ?_
 simp [Value.cells] at hb5
 simp [ir53_k0]
 refine retT (x:=v) (by simp) (by simp) hb5 rfl ?_
 have hsz:=hE.size
 have hE14:Ext W1 W4:=(hO3.ext hE2 (by omega)).trans' hE4
 have h5:Own w.heap.size 53 3 W5 v (toksV (scan src).toks):=by
  refine Own.same (w:=W4) ?_ fun k hk=>hO5.block k fun e=> ?_
  ·have h1:Own W.heap.size 53 3 W4 v (toksV (scan src).toks):=ho.ext hE14
   exact ownMono hsz h1
  ·have:=(ho.blk k hk).1
   have:=hb.lt
   omega
 exact ⟨v,rfl,h5,hO5.ext ((hE.trans' hE1).trans' hE14) hB⟩
theorem cut0 (s:Bs) (n:Nat):(mkS s).extract 0 n=mkS (s.take n):=by
 have:=cut_ext s 0 n
 simpa using this
theorem r_first {w:World} (s:Bs) (hne:s≠[]) (hs:s.length<4611686018427387904):Calls Tryz.prog 176 #[.string (mkS s)] w fun e w'=>e= .returned (.tuple #[.int .u8 ((first s).1:Int), .int .i64 ((first s).2.1:Int), .int .i64 (first s).2.2])∧Ext w w':=by
 have h0s:0<s.length:=List.length_pos_iff.2 hne
 have hg:s.getD 0 0=s[0]:=by simp [List.getD_eq_getElem?_getD,h0s]
 have hx:s[0]? =some s[0]:=List.getElem?_eq_getElem h0s
 refine ir176_calls fun ρ r0=> ?_
 simp [ir176,r0,hx]
 refine (r_letter s[0] w).mono ?_
 rintro _ w ⟨rfl,rfl⟩
 cases hl:letter s[0] with
 |true=>
  have hfr:first s=if isWord (s.take (runL s)) then (2,runL s,0) else if 12<runL s then (0,0,12) else (1,runL s,0):=by
   unfold first
   rw [hg,if_pos hl]
  simp [r0]
  refine (r_run s hs _).mono ?_
  rintro _ w ⟨rfl,rfl⟩
  have hrl:runL s≤s.length:=takeWhile_le _ _
  simp [r0,hrl,cut0]
  refine (r_isWord _).mono ?_
  rintro _ w2 ⟨rfl,hE⟩
  cases hw:isWord (s.take (runL s)) with
  |true=>
   rw [hw,if_pos rfl] at hfr
   simp [hfr];exact hE
  |false=>
   rw [hw,if_neg (by simp)] at hfr
   by_cases h12:12<runL s
   ·have h12':(12:Int)<(runL s:Int):=by omega
    rw [if_pos h12] at hfr
    simp [ir176_k1,h12',hfr];exact hE
   ·have h12':¬(12:Int)<(runL s:Int):=by omega
    rw [if_neg h12] at hfr
    simp [ir176_k1,h12',hfr,ir176_k0];exact hE
 |false=>
  simp [ir176_k8,r0]
  refine (r_digit s[0] w).mono ?_
  rintro _ w ⟨rfl,rfl⟩
  cases hd:digit s[0] with
  |true=>
   have hfr:first s=if isNumber (s.take (digitsL s)) then (3,digitsL s,0) else (0,0,11):=by
    unfold first
    rw [hg,if_neg (by rw [hl];simp),if_pos hd]
   simp [r0]
   refine (r_digits s hs _).mono ?_
   rintro _ w ⟨rfl,rfl⟩
   have hrl:digitsL s≤s.length:=takeWhile_le _ _
   simp [r0,hrl,cut0]
   refine (r_isNumber _ (by simp;omega) _).mono ?_
   rintro _ w ⟨rfl,rfl⟩
   cases hw:isNumber (s.take (digitsL s)) with
   |true=>
    rw [hw,if_pos rfl] at hfr
    simp [hfr,ir176_k2];exact ext_refl _
   |false=>
    rw [hw,if_neg (by simp)] at hfr
    simp [hfr];exact ext_refl _
  |false=>
   have hfr:first s=if 1<s.length∧isSign (s.take 2)=true then (4,2,0) else if isSign (s.take 1) then (4,1,0) else (0,0,10):=by
    unfold first
    rw [hg,if_neg (by rw [hl];simp),if_neg (by rw [hd];simp)]
   simp [ir176_k7]
   have rest:∀(ρ':Env) (W:World),ρ' 0= .string (mkS s)→Ext w W→¬(1<s.length∧isSign (s.take 2)=true)→ir176_k5.wp ⟨Tryz.prog,45,ir176_V,[]⟩ (retK [.tmp 2, .tmp 3, .tmp 4] fun e w'=>e= .returned (.tuple #[.int .u8 ((first s).1:Int), .int .i64 ((first s).2.1:Int), .int .i64 (first s).2.2])∧Ext w w') (ksOf [.tmp 2, .tmp 3, .tmp 4] fun e w'=>e= .returned (.tuple #[.int .u8 ((first s).1:Int), .int .i64 ((first s).2.1:Int), .int .i64 (first s).2.2])∧Ext w w') ρ' W:=by
    intro ρ' W r0 hE h2
    rw [if_neg h2] at hfr
    simp [ir176_k5]
    refine raw_ord ir176_o16_ok (Ext W) fun W1 hE1 _=>⟨hE1, ?_⟩
    have h1l:(1:Int)≤s.length:=by omega
    simp -implicitDefEqProofs [ir176_o16,r0,h1l,cut0]
    refine r_signs.mono ?_
    rintro _ W2 ⟨v,rfl,hN⟩
    have hE2:=(hE.trans' hE1).trans' hN.2
    refine ⟨hE1.trans' hN.2, ?_⟩
    simp -implicitDefEqProofs
    refine (r_in (s.take 1) (hN.sl (by decide))).mono ?_
    rintro _ W2 ⟨rfl,rfl⟩
    have hsg:isSign (s.take 1)=signsL.contains (s.take 1):=rfl
    cases hc:signsL.contains (s.take 1) with
    |true=>
     rw [hsg,hc,if_pos rfl] at hfr
     simp [hc,ir176_k4,hfr];exact hE2
    |false=>
     rw [hsg,hc,if_neg (by simp)] at hfr
     simp [hc,ir176_k4,ir176_k3,hfr];exact hE2
   refine raw_ord ir176_o14_ok (Ext w) fun W1 hE1 _=>⟨hE1, ?_⟩
   by_cases h1:1<s.length
   ·have h1':(1:Int)<s.length:=by omega
    have h1'':(2:Int)≤s.length:=by omega
    simp -implicitDefEqProofs [ir176_o14,r0,h1,h1',h1'',cut0]
    refine r_signs.mono ?_
    rintro _ W2 ⟨v,rfl,hN⟩
    have hE2:=hE1.trans' hN.2
    refine ⟨hE2, ?_⟩
    simp -implicitDefEqProofs
    refine (r_in (s.take 2) (hN.sl (by decide))).mono ?_
    rintro _ W2 ⟨rfl,rfl⟩
    have hsg:isSign (s.take 2)=signsL.contains (s.take 2):=rfl
    cases hc:signsL.contains (s.take 2) with
    |true=>
     rw [hsg,hc,if_pos ⟨h1,rfl⟩] at hfr
     simp [hc,ir176_k6,hfr];exact hE2
    |false=>
     simp [hc,ir176_k6]
     exact rest _ _ (by simp [r0]) hE2 (by rw [hsg,hc];simp)
   ·have h1':¬(1:Int)<s.length:=by omega
    simp -implicitDefEqProofs [ir176_o14,r0,h1,h1']
    simp [ir176_k6]
    refine ⟨hE1,rest _ _ ?_ hE1 (fun h=>h1 h.1)⟩
    simp [r0]
theorem bu38 (k l:Int) (s:Bs):Tryz.prog.built 53 [(0, .int .u8 k),(1, .string (mkS s)),(2, .int .i64 l)]=some #[.int .u8 k, .string (mkS s), .int .i64 l]:=by kernel_rfl
def ReadR (w:World) (src:Bs):Ending→World→Prop:=fun e w'=>∃v c,e= .returned (.tuple #[v,c,fV src])∧Own w.heap.size 53 3 w' v (toksV (scan src).toks)∧Own w.heap.size 9 1 w' c ((scan src).coms.map encT)∧Ext w w'
theorem retTT {t u z C:Nat} {x y:Value} {cs:Array Value} {V:TypeId} {R:Ending→World→Prop} {ρ:Env} {w:World} (hp:ρ t=x) (hu:ρ u=y) (hz:ρ z= .pointer (some ⟨C,0,none⟩)) (hd:Blk w C cs V) (hn:cs.size=2) (h:R (.returned (.tuple #[x,y, .agg cs])) w):retK [.tmp t, .tmp u, .cellN z 2] R ρ w:=by
 have h3:pv1 w (.loadN 2) (.pointer (some ⟨C,0,none⟩))=some (.agg cs):=by rw [pv1_loadN,←hn,row_blk hd];rfl
 simp only [retK,resVals,RV.val,hp,hu,hz,h3,Option.map_some,Option.bind_some]
 exact h
structure RdI (w:World) (src:Bs) (B:Nat) (ρ:Env) (W:World) (k:Nat) (line:Int) (ts:List Tok) (cs:List Bs) (tv cv:Value):Prop where
 r0:ρ 0= .string (mkS src)
 r4:ρ 4= .pointer (some ⟨B,0,none⟩)
 r5:ρ 5=tv
 r6:ρ 6=cv
 r7:ρ 7= .int .i64 line
 r8:ρ 8= .int .i64 (k:Int)
 kl:k≤src.length
 l0:1≤line∧line≤(k:Int)+1
 tl:ts.length≤k∧cs.length≤k
 ext:Ext w W
 blk:Blk W B #[.int .i64 0, .int .i64 0] 26
 o1:Own w.heap.size 53 3 W tv (toksV ts)
 o2:Own w.heap.size 9 1 W cv (cs.map encT)
 ap:∀k,tv.ownBlock=some k→cv.ownBlock≠some k
 nb:tv.ownBlock≠some B∧cv.ownBlock≠some B
 eq:scanAt src 1=(scanAt (src.drop k) line).add ts cs
def kOf (ρ:Env):Nat:=(RowKit.intOf (ρ 8)).toNat
theorem r_read {w:World} (src:Bs) (hs:src.length<4611686018427387904):Calls Tryz.prog 87 #[.string (mkS src)] w (ReadR w src):=by
 refine ir87_calls fun ρ r0=> ?_
 simp [ir87,r0]
 refine eff_alloc z31 fun B W hB hE hb hsz=> ?_
 by_cases hlen:20000<src.length
 ·have hlI:(20000:Int)<src.length:=by omega
  have hsc:scan src= .bad 2 0:=by rw [scan,if_pos hlen]
  simp [hlI,bu31a,r0]
  refine eff_storeN (B:=B) (by simp) hb (by simp [Value.cells]) (by simp [Value.cells]) (by simpa [Value.cells] using sz31) fun W3 hO3 hb3=> ?_
  simp [Value.cells] at hb3⊢
  refine retTT (x:= .slice none 0 0) (y:= .slice none 0 0) (by simp) (by simp) (by simp) hb3 rfl ?_
  exact ⟨_,_,by rw [fV,hsc];rfl,by rw [hsc];exact Own.nil _ _ _ _,by rw [hsc];exact Own.nil _ _ _ _,hO3.ext hE hB⟩
 ·have hlI:¬(20000:Int)<src.length:=by omega
  have hscn:scan src=scanAt src 1:=by rw [scan,if_neg hlen]
  simp [hlI,ir87_k5,r0]
  have hBn:∀(W':World),Ext W W'→B<W'.heap.size:=fun W' h=>by have:=h.size;omega
  refine loopI (fun ρ' W'=>∃k line ts cs tv cv,RdI w src B ρ' W' k line ts cs tv cv) (fun ρ' _=>src.length - kOf ρ')
   ⟨0,1,[],[], .slice none 0 0, .slice none 0 0,by simp [r0],by simp,by simp,by simp,by simp,by simp,Nat.zero_le _,by omega,by simp,hE,hb,Own.nil _ _ _ _,Own.nil _ _ _ _,by simp [Value.ownBlock],by simp [Value.ownBlock],by simp⟩ ?_
  rintro ρ' W' ⟨k,line,ts,cs,tv,cv,h⟩
  have hkO:kOf ρ'=k:=by simp [kOf,h.r8]
  have hkl:=h.kl
  have hl0:=h.l0
  have htl:=h.tl
  have hb20:src.length≤20000:=by omega
  by_cases hlt:k<src.length
  ·have hx:=str_ix hlt
   have hu10:=u8_eq src[k] 10 (by decide)
   have hu32:=u8_eq src[k] 32 (by decide)
   have hu9:=u8_eq src[k] 9 (by decide)
   have hu37:=u8_eq src[k] 37 (by decide)
   have hsc:=scanAt_cons src[k] (src.drop (k+1)) line
   rw [←drop_at hlt] at hsc
   simp [ir87_l3,h.r8,h.r0,hlt,ir87_k2,hx]
   by_cases e10:src[k]=10
   ·have e10':(src[k].toNat:Int)=10:=hu10.2 e10
    rw [if_pos e10] at hsc
    simp [e10',h.r7,h.r8,i64w (n:=(k:Int)+1) (by omega),i64w (n:=line+1) (by omega)]
    refine ⟨⟨k+1,line+1,ts,cs,tv,cv,by simp [h.r0],by simp [h.r4],by simp [h.r5],by simp [h.r6],by simp,by simp,by omega,by omega,by omega,h.ext,h.blk,h.o1,h.o2,h.ap,h.nb,by rw [h.eq,hsc]⟩, ?_⟩
    rw [hkO];simp [kOf];omega
   ·have e10':¬(src[k].toNat:Int)=10:=fun x=>e10 (hu10.1 x)
    rw [if_neg e10] at hsc
    simp [e10']
    have blk:∀(ρ2:Env),(src[k]=32∨src[k]=9)→ρ2 0=ρ' 0→ρ2 4=ρ' 4→ρ2 5=ρ' 5→ρ2 6=ρ' 6→ρ2 7=ρ' 7→ρ2 8= .int .i64 ((k:Int)+1)→(∃k line ts cs tv cv,RdI w src B ρ2 W' k line ts cs tv cv)∧src.length - kOf ρ2<src.length - kOf ρ':=by
     intro ρ2 hb a0 a4 a5 a6 a7 a8
     rw [if_pos hb] at hsc
     refine ⟨⟨k+1,line,ts,cs,tv,cv,a0.trans h.r0,a4.trans h.r4,a5.trans h.r5,a6.trans h.r6,a7.trans h.r7,by simp [a8],by omega,by omega,by omega,h.ext,h.blk,h.o1,h.o2,h.ap,h.nb,by rw [h.eq,hsc]⟩, ?_⟩
     rw [hkO];simp [kOf,a8];omega
    by_cases e32:src[k]=32
    ·have e32':(src[k].toNat:Int)=32:=hu32.2 e32
     simp [e32',ir87_k1,h.r8,i64w (n:=(k:Int)+1) (by omega)]
     exact blk _ (.inl e32) (by simp) (by simp) (by simp) (by simp) (by simp) (by simp)
    have e32':¬(src[k].toNat:Int)=32:=fun x=>e32 (hu32.1 x)
    by_cases e9:src[k]=9
    ·have e9':(src[k].toNat:Int)=9:=hu9.2 e9
     simp [e32',e9',ir87_k1,h.r8,i64w (n:=(k:Int)+1) (by omega)]
     exact blk _ (.inr e9) (by simp) (by simp) (by simp) (by simp) (by simp) (by simp)
    have e9':¬(src[k].toNat:Int)=9:=fun x=>e9 (hu9.1 x)
    rw [if_neg (by rintro (x|x)<;>contradiction)] at hsc
    have hdl:(src.drop k).length=src.length - k:=by simp
    by_cases e37:src[k]=37
    ·have e37':(src[k].toNat:Int)=37:=hu37.2 e37
     rw [if_pos e37] at hsc
     have hn1:1≤comLen (src.drop k):=by rw [drop_at hlt,e37];exact comLen_pos _
     have hn2:comLen (src.drop k)≤src.length - k:=by have:=comLen_le (src.drop k);omega
     have hkI:(k:Int)≤src.length:=by omega
     simp [e32',e9',e37',ir87_k1,h.r0,h.r8,hkI,hkl,drop_ext]
     refine (r_comment (src.drop k) (by omega) W').mono ?_
     rintro _ W' ⟨rfl,rfl⟩
     have hI1:(k:Int)≤(k:Int)+(comLen (src.drop k):Int):=by omega
     have hI2:(k:Int)+(comLen (src.drop k):Int)≤src.length:=by omega
     have hI3:((k:Int)+(comLen (src.drop k):Int)).toNat=k+comLen (src.drop k):=by omega
     simp [h.r0,h.r6,h.r8,i64w (n:=(k:Int)+(comLen (src.drop k):Int)) (by omega),hI1,hI2,hI3,cut_ext]
     refine eff_lit si25 (by decide) (by decide) (by simp [Value.cells]) fun B9 W9 hB9 hE9 hb9 _=> ?_
     simp [Value.cells] at hb9
     have hO9:Own w.heap.size 9 1 W9 (.slice (some ⟨B9,0,none⟩) 1 1) [encT ((src.drop k).take (comLen (src.drop k)))]:=Own.lit (cs:=[encT ((src.drop k).take (comLen (src.drop k)))]) hb9 rfl (by have:=h.ext.size;omega) (by decide)
     have ho2:=h.o2.ext hE9
     simp
     refine eff_appendG ri25 (by have:=h.ext.size;have:=hE9.size;omega) (by simp) (by simp) ho2 (own_cells hO9) (by simp [encT];rfl) (by simp;omega) (by simp;omega) fun v' W10 ho10 hg10 hf10=> ?_
     have hb10:Blk W10 B #[.int .i64 0, .int .i64 0] 26:=⟨(hg10.block B (by have:=h.blk.lt;have:=hE9.size;omega) (fun e=>h.nb.2 e.symm)).trans (h.blk.ext hE9).heap⟩
     simp [h.r8,i64w (n:=(k:Int)+(comLen (src.drop k):Int)) (by omega)]
     refine ⟨⟨k+comLen (src.drop k),line,ts,cs++[(src.drop k).take (comLen (src.drop k))],tv,v',by simp [h.r0],by simp [h.r4],by simp [h.r5],by simp,by simp [h.r7],by simp,by omega,by omega,by simp;omega, ?_,hb10, ?_,by simpa using ho10, ?_,⟨h.nb.1, ?_⟩, ?_⟩, ?_⟩
     ·exact (h.ext.trans' hE9).grown hg10 (by have:=h.ext.size;have:=hE9.size;omega) fun k hk=>(ho2.blk k hk).1
     ·refine (h.o1.ext hE9).kept hg10 ?_
      cases hk:tv.ownBlock with
      |none=>exact .inl rfl
      |some q=>exact .inr fun e=>h.ap q hk e.symm
     ·intro q hq
      rcases hf10 with e|e
      ·rw [e];exact h.ap q hq
      ·rw [e];intro e2;cases e2
       have:=(h.o1.blk _ hq).2;have:=hE9.size;omega
     ·rcases hf10 with e|e
      ·rw [e];exact h.nb.2
      ·rw [e];intro e2;cases e2
       have:=h.blk.lt;have:=hE9.size;omega
     ·rw [h.eq,hsc,List.drop_drop,Res.add_add];simp
     ·rw [hkO];simp [kOf];omega
    have e37':¬(src[k].toNat:Int)=37:=fun x=>e37 (hu37.1 x)
    rw [if_neg e37] at hsc
    have hkI:(k:Int)≤src.length:=by omega
    have hdne:src.drop k≠[]:=by rw [drop_at hlt];exact List.cons_ne_nil _ _
    simp [e32',e9',e37',ir87_k1,h.r0,h.r8,hkI,hkl,drop_ext]
    have hpos0:(first (src.drop k)).2.2=0→0<(first (src.drop k)).2.1∧(first (src.drop k)).2.1≤(src.drop k).length:=fun hh=>first_len hh hdne
    have hrf:=r_first (w:=W') (src.drop k) hdne (by omega)
    generalize first (src.drop k)=p at hsc hpos0 hrf
    obtain ⟨fk,fn,fe⟩:=p
    refine hrf.mono ?_
    rintro _ W2 ⟨rfl,hE2⟩
    have hx2:=h.ext.trans' hE2
    by_cases hf:fe=0
    ·rw [if_neg (by simpa using hf)] at hsc
     have hpos:=hpos0 hf
     simp only at hpos
     have hI1:(k:Int)≤(k:Int)+(fn:Int):=by omega
     have hI2:(k:Int)+(fn:Int)≤src.length:=by omega
     have hI3:((k:Int)+(fn:Int)).toNat=k+fn:=by omega
     simp -implicitDefEqProofs [hf,ir87_k0,h.r0,h.r5,h.r7,h.r8,i64w (n:=(k:Int)+(fn:Int)) (by omega),hI1,hI2,hI3,cut_ext,bu38]
     refine eff_lit si28 (by decide) (by decide) (by simp [Value.cells]) fun B9 W9 hB9 hE9 hb9 _=> ?_
     simp [Value.cells] at hb9
     have hO9:Own w.heap.size 53 3 W9 (.slice (some ⟨B9,0,none⟩) 1 1) [.int .u8 (fk:Int), .string (mkS ((src.drop k).take fn)), .int .i64 line]:=Own.lit hb9 rfl (by have:=hx2.size;omega) (by decide)
     have ho1:=(h.o1.ext hE2).ext hE9
     obtain ⟨bb,ri,hbb⟩:=ri28
     simp
     refine eff_appendG ri (by have:=hx2.size;have:=hE9.size;omega) (by simp) (by simp) ho1 (own_cells hO9) (by simp;exact ⟨rfl,rfl,rfl⟩) (by rw [toksV_len];simp;omega) (by
      rw [toksV_len]
      have:(ts.length*3+3)*bb≤(ts.length*3+3)*64:=Nat.mul_le_mul_left _ hbb
      simp;omega) fun v' W10 ho10 hg10 hf10=> ?_
     have hb10:Blk W10 B #[.int .i64 0, .int .i64 0] 26:=⟨(hg10.block B (by have:=h.blk.lt;have:=hE2.size;have:=hE9.size;omega) (fun e=>h.nb.1 e.symm)).trans ((h.blk.ext hE2).ext hE9).heap⟩
     simp [h.r8,i64w (n:=(k:Int)+(fn:Int)) (by omega)]
     refine ⟨⟨k+fn,line,ts++[⟨fk,(src.drop k).take fn,line⟩],cs,v',cv,by simp [h.r0],by simp [h.r4],by simp,by simp [h.r6],by simp [h.r7],by simp,by omega,by omega,by simp;omega, ?_,hb10,by rw [toksV_snoc];exact ho10, ?_, ?_,⟨?_,h.nb.2⟩, ?_⟩, ?_⟩
     ·exact (hx2.trans' hE9).grown hg10 (by have:=hx2.size;have:=hE9.size;omega) fun k hk=>(ho1.blk k hk).1
     ·refine ((h.o2.ext hE2).ext hE9).kept hg10 ?_
      cases hk:cv.ownBlock with
      |none=>exact .inl rfl
      |some q=>exact .inr fun e=>h.ap q e.symm hk
     ·intro q hq
      rcases hf10 with e|e
      ·exact h.ap q (e▸hq)
      ·rw [e] at hq;cases hq
       intro e2
       have:=(h.o2.blk _ e2).2;have:=hE9.size;have:=hE2.size;omega
     ·rcases hf10 with e|e
      ·rw [e];exact h.nb.1
      ·rw [e];intro e2;cases e2
       have:=h.blk.lt;have:=hE9.size;have:=hE2.size;omega
     ·rw [h.eq,hsc,List.drop_drop,Res.add_add];simp
     ·rw [hkO];simp [kOf];omega
    ·rw [if_pos hf] at hsc
     have hscan:scan src= .bad fe line:=by
      rw [hscn,h.eq,hsc];rfl
     simp -implicitDefEqProofs [hf,h.r7,bu31]
     refine eff_storeN (B:=B) (by simp [h.r4]) (h.blk.ext hE2) (by simp [Value.cells]) (by simp [Value.cells]) (by simpa [Value.cells] using sz31) fun W3 hO3 hb3=> ?_
     simp [Value.cells] at hb3⊢
     refine retTT (x:= .slice none 0 0) (y:= .slice none 0 0) (by simp) (by simp) (by simp [h.r4]) hb3 rfl ?_
     exact ⟨_,_,by rw [fV,hscan];rfl,by rw [hscan];exact Own.nil _ _ _ _,by rw [hscan];exact Own.nil _ _ _ _,hO3.ext hx2 hB⟩
  ·have hk:k=src.length:=by omega
   subst hk
   have hscan:scan src= .ok ts cs:=by
    rw [hscn,h.eq,List.drop_length,scanAt_nil];simp [Res.add]
   simp [ir87_l3,h.r8,h.r0,ir87_k4,h.r5,h.r6,bu31z]
   refine eff_storeN (B:=B) (by simp [h.r4]) h.blk (by simp [Value.cells]) (by simp [Value.cells]) (by simpa [Value.cells] using sz31) fun W3 hO3 hb3=> ?_
   simp [Value.cells] at hb3⊢
   refine retTT (x:=tv) (y:=cv) (by simp) (by simp) (by simp [h.r4]) hb3 rfl ?_
   refine ⟨_,_,by rw [fV,hscan];rfl, ?_, ?_,hO3.ext h.ext hB⟩
   ·rw [hscan];exact Own.same h.o1 fun q hq=>hO3.block q fun e=>h.nb.1 (by rw [hq,e])
   ·rw [hscan];exact Own.same h.o2 fun q hq=>hO3.block q fun e=>h.nb.2 (by rw [hq,e])
end Go.L01
namespace Go.L01
open Go Go.Eng Go.RowKit Go.Proofs
set_option maxRecDepth 100000
set_option maxHeartbeats 2000000
theorem r_Scan {w:World} (src:Bs) (hs:src.length<4611686018427387904):Calls Tryz.prog 33 #[.string (mkS src)] w (ScanR w src):=by
 refine ir33_calls fun ρ r0=> ?_
 simp [ir33,r0]
 refine eff_alloc z31 fun B W hB hE hb _=> ?_
 simp [r0]
 refine (r_read (w:=W) src hs).mono ?_
 rintro _ W1 ⟨v,c,rfl,ho,_,hE1⟩
 simp [fV]
 refine eff_alloc z31 fun B2 W2 hB2 hE2 hb2 _=> ?_
 simp [fV]
 refine eff_storeN (B:=B2) (by simp) hb2 (by simp [Value.cells]) (by simp [Value.cells]) (by simpa [Value.cells] using sz31) fun W3 hO3 hb3=> ?_
 simp [Value.cells] at hb3⊢
 have hbB:=hO3.blk ((hb.ext hE1).ext hE2) (by have:=hb.lt;have:=hE1.size;omega)
 refine raw_ord ir33_o2_ok (fun W=>Blk W B2 #[.int .i64 (scan src).err, .int .i64 (scan src).at] 26) fun W4 hE4 _=>⟨hb3.ext hE4, ?_⟩
 have hc:∀W,Blk W B2 #[.int .i64 (scan src).err, .int .i64 (scan src).at] 26→∀i,W.cell? ⟨B2,i,none⟩= #[Value.int .i64 (scan src).err, .int .i64 (scan src).at][i]? :=fun W h=>h.cell
 simp+contextual -implicitDefEqProofs [ir33_o2,hc,hb3.ext hE4]
 refine eff_storeN (B:=B) (by simp) (hbB.ext hE4) (by simp [Value.cells]) (by simp [Value.cells]) (by simpa [Value.cells] using sz31) fun W5 hO5 hb5=> ?_
 simp [Value.cells] at hb5
 simp [ir33_k0]
 refine retT (x:=v) (by simp) (by simp) hb5 rfl ?_
 have hsz:=hE.size
 have hE14:Ext W1 W4:=(hO3.ext hE2 (by omega)).trans' hE4
 have h5:Own w.heap.size 53 3 W5 v (toksV (scan src).toks):=by
  refine Own.same (w:=W4) ?_ fun k hk=>hO5.block k fun e=> ?_
  ·have h1:Own W.heap.size 53 3 W4 v (toksV (scan src).toks):=ho.ext hE14
   exact ownMono hsz h1
  ·have:=(ho.blk k hk).1
   have:=hb.lt
   omega
 exact ⟨v,rfl,h5,hO5.ext ((hE.trans' hE1).trans' hE14) hB⟩
end Go.L01
namespace Go.L02
open Go Go.Eng Go.RowKit
open Go.Proofs hiding encI
open Go.L01 (Bs Tok encT SlT toksV toksV_len toksV_get SlK retT Own.same ownMono retK_c1 retTT)
set_option maxRecDepth 100000
set_option maxHeartbeats 2000000
structure NV where
 nd:Nd
 kv:Value
def ndV (x:NV):List Value:=[.int .u8 (x.nd.d.kind:Int), .string (mkS x.nd.d.name), .string (mkS x.nd.d.vr), .string (mkS x.nd.d.typ), .int .i64 x.nd.d.n,x.kv]
def nvV (xs:List NV):List Value:=xs.flatMap ndV
theorem nvV_len (xs:List NV):(nvV xs).length=xs.length*6:=by
 induction xs with
 |nil=>rfl
 |cons x xs ih=>
  have:nvV (x::xs)=ndV x++nvV xs:=rfl
  rw [this,List.length_append,ih];simp [ndV];omega
structure Tn (base B:Nat) (nv nv':Value) (w w':World):Prop where
 below:Below base w w'
 block:∀k,k<w.heap.size→k≠B→nv.ownBlock≠some k→w'.heap[k]? =w.heap[k]?
 row:∀k,nv'.ownBlock=some k→nv.ownBlock=some k∨w.heap.size≤k
 gr:nv'=nv∨slLen nv<slLen nv'
theorem Tn.size {base B:Nat} {nv nv':Value} {w w':World} (h:Tn base B nv nv' w w'):w.heap.size≤w'.heap.size:=h.below.size
theorem Tn.trans {base B:Nat} {a b c:Value} {w w' w'':World} (h:Tn base B a b w w') (k:Tn base B b c w' w''):Tn base B a c w w'':=by
 have hs:=h.size
 refine ⟨h.below.trans k.below,fun j hj h1 h2=> ?_,fun j hj=> ?_,by
  rcases k.gr with e|e
  ·rw [e];exact h.gr
  ·rcases h.gr with e2|e2
   ·rw [e2] at e;exact .inr e
   ·exact .inr (by omega)⟩
 ·refine (k.block j (by omega) h1 fun e=> ?_).trans (h.block j hj h1 h2)
  rcases h.row j e with h3|h3
  ·exact h2 h3
  ·omega
 ·rcases k.row j hj with h3|h3
  ·exact h.row j h3
  ·exact .inr (by omega)
theorem Tn.refl (base B:Nat) (nv:Value) (w:World):Tn base B nv nv w w:=⟨Below.refl _ _,fun _ _ _ _=>rfl,fun _ h=> .inl h, .inl rfl⟩
theorem Tn.ext {base B:Nat} {nv:Value} {w w':World} (h:Ext w w') (hb:base≤w.heap.size):Tn base B nv nv w w':=⟨h.mono hb,fun k hk _ _=>h.block k hk,fun _ h=> .inl h, .inl rfl⟩
theorem Tn.ne {base B X:Nat} {nv nv':Value} {w w':World} (h:Tn base B nv nv' w w') (hX:X<w.heap.size) (hne:nv.ownBlock≠some X):nv'.ownBlock≠some X:=fun e=>by
 rcases h.row X e with h1|h1
 ·exact hne h1
 ·omega
theorem Tn.blk {base B X:Nat} {nv nv':Value} {w w':World} {cs:Array Value} {T:TypeId} (h:Tn base B nv nv' w w') (hb:Blk w X cs T) (hB:X≠B) (hne:nv.ownBlock≠some X):Blk w' X cs T:=
 ⟨(h.block X hb.lt hB hne).trans hb.heap⟩
structure PSt (base B:Nat) (W:World) (tv nv:Value) (L:List Tok) (i f:Nat) (xs:List NV):Prop where
 blk:Blk W B #[tv, .int .i64 (i:Int), .int .i64 (f:Int),nv] 85
 tok:Own 0 53 3 W tv (toksV L)
 own:Own base 44 6 W nv (nvV xs)
 kid:∀x∈xs,Own 0 3 1 W x.kv (x.nd.kids.map encI)
 bB:base≤B
 bW:base≤W.heap.size
 tl:L.length≤20000
 il:i≤L.length
 fl:f≤L.length
section
variable {base B:Nat} {w w':World} {tv nv nv':Value} {L:List Tok} {i f:Nat} {xs:List NV}
theorem Own.row {b e sz:Nat} {w:World} {v:Value} {ys:List Value} {k:Nat} (h:Own b e sz w v ys) (hk:v.ownBlock=some k):∃cur,w.heap[k]? =some (.cells cur e (0,0)):=by
 rcases h with ⟨rfl,_⟩|⟨g,off,n,cap,cur,rfl,_,hg,_⟩
 ·cases hk
 ·cases hk;exact ⟨cur,hg⟩
theorem PSt.rowNe (h:PSt base B w tv nv L i f xs) {k:Nat} {cs:Array Value} {T:TypeId} {z:Nat×Nat} (hk:w.heap[k]? =some (.cells cs T z)) (h1:T≠44):nv.ownBlock≠some k:=fun e=>by
 obtain ⟨cur,hc⟩:=Own.row h.own e
 rw [hc] at hk;cases hk;exact h1 rfl
theorem PSt.blkNe (h:PSt base B w tv nv L i f xs) {k:Nat} {cs:Array Value} {T:TypeId} {z:Nat×Nat} (hk:w.heap[k]? =some (.cells cs T z)) (h1:T≠85):k≠B:=fun e=>by
 subst e
 rw [h.blk.heap] at hk;cases hk;exact h1 rfl
theorem PSt.keep (h:PSt base B w tv nv L i f xs) (hT:Tn base B nv nv' w w') {b e sz:Nat} {v:Value} {ys:List Value} (ho:Own b e sz w v ys) (h1:e≠44) (h2:e≠85):Own b e sz w' v ys:=by
 refine Own.same ho fun k hk=> ?_
 obtain ⟨cur,hc⟩:=Own.row ho hk
 exact hT.block k (Array.getElem?_eq_some_iff.1 hc).1 (h.blkNe hc h2) (h.rowNe hc h1)
theorem PSt.var (h:PSt base B w tv nv L i f xs) (hT:Tn base B nv nv' w w') {X:Nat} {cs:Array Value} {T:TypeId} (hb:Blk w X cs T) (h1:T≠44) (h2:T≠85):Blk w' X cs T:=
 hT.blk hb (h.blkNe hb.heap h2) (h.rowNe hb.heap h1)
theorem PSt.slk (h:PSt base B w tv nv L i f xs):SlK w tv L:=SlK.own h.tok (by have:=h.tl;omega)
theorem PSt.ext (h:PSt base B w tv nv L i f xs) (hE:Ext w w'):PSt base B w' tv nv L i f xs:=
 ⟨h.blk.ext hE,h.tok.ext hE,h.own.ext hE,fun x hx=>(h.kid x hx).ext hE,h.bB,Nat.le_trans h.bW hE.size,h.tl,h.il,h.fl⟩
theorem PSt.only (h:PSt base B w tv nv L i f xs) {X:Nat} (hO:Only X w w') {cs:Array Value} {T:TypeId} {z:Nat×Nat} (hX:X<w.heap.size→w.heap[X]? =some (.cells cs T z)) (h1:T≠44) (h2:T≠85) (h3:T≠3) (h4:T≠53):PSt base B w' tv nv L i f xs:=by
 have ne:∀k cur e,e≠T→w.heap[k]? =some (.cells cur e (0,0))→k≠X:=fun k cur e he hk hkx=>by
  subst hkx
  have:=hX (Array.getElem?_eq_some_iff.1 hk).1
  rw [hk] at this;cases this;exact he rfl
 have keep:∀{b e sz:Nat} {v:Value} {ys:List Value},e≠T→Own b e sz w v ys→Own b e sz w' v ys:=fun he ho=>Own.same ho fun k hk=>by
  obtain ⟨cur,hc⟩:=Own.row ho hk
  exact hO.block k (ne k cur _ he hc)
 refine ⟨hO.blk h.blk (ne B _ 85 (Ne.symm h2) h.blk.heap),keep (Ne.symm h4) h.tok,keep (Ne.symm h1) h.own,fun x hx=>keep (Ne.symm h3) (h.kid x hx),h.bB,by rw [hO.size];exact h.bW,h.tl,h.il,h.fl⟩
theorem PSt.move (h:PSt base B w tv nv L i f xs) {i' f':Nat} (hO:Only B w w') (hb:Blk w' B #[tv, .int .i64 (i':Int), .int .i64 (f':Int),nv] 85) (hi:i'≤L.length) (hf:f'≤L.length):
  PSt base B w' tv nv L i' f' xs∧Tn base B nv nv w w':=by
 have keep:∀{b e sz:Nat} {v:Value} {ys:List Value},e≠85→Own b e sz w v ys→Own b e sz w' v ys:=fun he ho=>Own.same ho fun k hk=>by
  obtain ⟨cur,hc⟩:=Own.row ho hk
  exact hO.block k (h.blkNe hc he)
 refine ⟨⟨hb,keep (by decide) h.tok,keep (by decide) h.own,fun x hx=>keep (by decide) (h.kid x hx),h.bB,by rw [hO.size];exact h.bW,h.tl,hi,hf⟩, ?_,fun k hk hkB _=>hO.block k hkB,fun k hk=> .inl hk, .inl rfl⟩
 exact only_below hO h.bB
end
@[simp] theorem cb142:callB Tryz.prog 142=true:=by kernel_rfl
@[simp] theorem cb141:callB Tryz.prog 141=true:=by kernel_rfl
@[simp] theorem cb117:callB Tryz.prog 117=true:=by kernel_rfl
@[simp] theorem cb143:callB Tryz.prog 143=true:=by kernel_rfl
@[simp] theorem cb120:callB Tryz.prog 120=true:=by kernel_rfl
@[simp] theorem cb153:callB Tryz.prog 153=true:=by kernel_rfl
@[simp] theorem cb160:callB Tryz.prog 160=true:=by kernel_rfl
theorem z53:zeroCellsOf Tryz.prog 53=some #[.int .u8 0, .string ⟨#[]⟩, .int .i64 0]:=by kernel_rfl
theorem sz53:sizeIs Tryz.prog 53 3=true:=by kernel_rfl
theorem sz3:sizeIs Tryz.prog 3 1=true:=by kernel_rfl
theorem bu53:Tryz.prog.built 53 []=some #[.int .u8 0, .string ⟨#[]⟩, .int .i64 0]:=by kernel_rfl
theorem si51:sliceInfo Tryz.prog 51=some (9,1):=by kernel_rfl
def tokA (t:Tok):Value:= .agg #[.int .u8 (t.kind:Int), .string (mkS t.text), .int .i64 t.line]
theorem p_ahead {base B:Nat} {w:World} {tv nv:Value} {L:List Tok} {i f:Nat} {xs:List NV} (h:PSt base B w tv nv L i f xs) (n:Nat) (hn:n≤1):
  Calls Tryz.prog 142 #[.pointer (some ⟨B,0,none⟩), .int .i64 (n:Int)] w fun e w'=>e= .returned (tokA (tk L (i+n)))∧Ext w w':=by
 have htl:=h.tl
 have hil:=h.il
 refine ir142_calls fun ρ r0 r1=> ?_
 simp [ir142,r0,r1]
 refine eff_alloc z53 fun X W hX hE hb _=> ?_
 have hS:=h.ext hE
 have hK:=hS.slk
 have e1:IntKind.i64.wrap ((i:Int)+(n:Int))=((i+n:Nat):Int):=by rw [i64w (by omega)];push_cast;rfl
 simp [hS.blk.cell,r0,r1,hK.is,hK.len,e1]
 intro W2 hE2
 have hS2:=hS.ext hE2
 have hK2:=hS2.slk
 have hb2:=hb.ext hE2
 by_cases hlt:i+n<L.length
 ·have c:=hK2.cell (i+n) hlt
  have hlt':((i:Int)+(n:Int)<(L.length:Int)):=by omega
  simp [ir142_k2,hlt']
  refine raw_ord ir142_o2_ok (fun W=>PSt base B W tv nv L i f xs) fun W3 hE3 _=>⟨hS2.ext hE3, ?_⟩
  have hS3:=hS2.ext hE3
  have hK3:=hS3.slk
  have c:=hK3.cell (i+n) hlt
  have hcB:∀W,PSt base B W tv nv L i f xs→∀j,W.cell? ⟨B,j,none⟩= #[tv,Value.int .i64 (i:Int), .int .i64 (f:Int),nv][j]? :=fun W h=>h.blk.cell
  simp+contextual -implicitDefEqProofs [ir142_o2,hcB,hS3,r0,r1,e1]
  have e3:((i:Int)+(n:Int)).toNat=i+n:=by omega
  rw [if_pos ⟨hK3.is,by omega,by rw [hK3.len];omega⟩,e3]
  simp [c.1,c.2.1,c.2.2]
  refine eff_storeN (B:=X) (by simp) (hb2.ext hE3) (by simp [Value.cells]) (by simp [Value.cells]) (by simpa [Value.cells] using sz53) fun W4 hO4 hb4=> ?_
  simp [Value.cells] at hb4
  simp [ir142_k0]
  refine retK_c1 (by simp) hb4 rfl ⟨?_, ?_⟩
  ·rw [tk_in hlt];rfl
  ·exact hO4.ext (((hE.trans' hE2).trans' hE3)) hX
 ·have hlt':¬((i:Int)+(n:Int)<(L.length:Int)):=by omega
  simp [ir142_k2,ir142_k1,hlt']
  rw [bu53]
  dsimp only [onO]
  refine eff_storeN (B:=X) (by simp) hb2 (by simp [Value.cells]) (by simp [Value.cells]) (by simpa [Value.cells] using sz53) fun W4 hO4 hb4=> ?_
  simp [Value.cells] at hb4
  simp
  refine retK_c1 (by simp) hb4 rfl ⟨?_, ?_⟩
  ·rw [tk_out (by omega)];rfl
  ·exact hO4.ext (hE.trans' hE2) hX
section
variable {base B:Nat} {w:World} {tv nv:Value} {L:List Tok} {i f:Nat} {xs:List NV}
theorem row3 {w:World} {X:Nat} {a b c:Value} {T:TypeId} (h:Blk w X #[a,b,c] T):w.cell? ⟨X,0,none⟩=some a∧w.cell? ⟨X,1,none⟩=some b∧w.cell? ⟨X,2,none⟩=some c:=
 ⟨by rw [h.cell];rfl,by rw [h.cell];rfl,by rw [h.cell];rfl⟩
theorem p_is (h:PSt base B w tv nv L i f xs) {v:Value} {ss:List Bs} (hs:SlT w v ss):
  Calls Tryz.prog 141 #[.pointer (some ⟨B,0,none⟩),v] w fun e w'=>e= .returned (.bool (isT L i ss))∧Ext w w':=by
 refine ir141_calls fun ρ r0 r1=> ?_
 simp [ir141,r0,r1]
 refine (p_ahead h 0 (by decide)).mono ?_
 rintro _ w1 ⟨rfl,hE⟩
 simp
 refine eff_alloc z53 fun X W hX hE1 hb _=> ?_
 simp
 refine eff_storeN (B:=X) (by simp) hb (by simp [Value.cells,tokA]) (by simp [Value.cells,tokA]) (by simpa [Value.cells] using sz53) fun W2 hO2 hb2=> ?_
 simp [Value.cells,tokA] at hb2
 obtain ⟨c0,c1,c2⟩:=row3 hb2
 have hE2:Ext w W2:=hO2.ext (hE.trans' hE1) (by have:=hE.size;omega)
 have hk:∀n:Nat,(((tk L i).kind:Int)=(n:Int))↔(tk L i).kind=n:=fun n=>by omega
 have hk2:=hk 2
 have hk4:=hk 4
 simp only [Int.cast_ofNat_Int] at hk2 hk4
 simp [c0,c1,r1]
 unfold isT
 by_cases h2:(tk L i).kind=2∨(tk L i).kind=4
 ·have hd:((tk L i).kind:Int)=2∨((tk L i).kind:Int)=4:=by omega
  simp [hd,r1]
  refine (L01.s_contains (tk L i).text (hs.ext hE2)).mono ?_
  rintro _ _ ⟨rfl,rfl⟩
  simp [h2]
  refine ⟨?_,hE2⟩
  simp only [hk2,hk4]
 ·have hd:¬(((tk L i).kind:Int)=2∨((tk L i).kind:Int)=4):=by omega
  simp [hd,h2]
  exact hE2
def TakeR (base B:Nat) (w:World) (tv nv:Value) (L:List Tok) (i f:Nat) (xs:List NV) (b:Bool):Ending→World→Prop:=fun e w'=>e= .returned (.bool b)∧PSt base B w' tv nv L (if b then i+1 else i) f xs∧Tn base B nv nv w w'
theorem p_take (h:PSt base B w tv nv L i f xs) (s:Bs):Calls Tryz.prog 117 #[.pointer (some ⟨B,0,none⟩), .string (mkS s)] w (TakeR base B w tv nv L i f xs (isT L i [s])):=by
 have htl:=h.tl
 have hil:=h.il
 refine ir117_calls fun ρ r0 r1=> ?_
 simp [ir117,r0,r1]
 refine eff_lit si51 (by decide) (by decide) (by simp [Value.cells]) fun X W hX hE hb _=> ?_
 simp [Value.cells] at hb⊢
 have hs:SlT W (.slice (some ⟨X,0,none⟩) 1 1) [s]:=⟨rfl,rfl,by simp,fun j hj=>by
  have:j=0:=by simpa using hj
  subst this
  simp [slAddr,hb.cell,encT]⟩
 refine (p_is (h.ext hE) hs).mono ?_
 rintro _ w1 ⟨rfl,hE1⟩
 have hE':=hE.trans' hE1
 have hS:=h.ext hE'
 simp
 cases hc:isT L i [s] with
 |false=>
  simp [TakeR]
  exact ⟨hS,Tn.ext hE' h.bW⟩
 |true=>
  have hlt:=isT_lt hc
  have e1:IntKind.i64.wrap ((i:Int)+1)=((i+1:Nat):Int):=by rw [i64w (by omega)];push_cast;rfl
  simp [ir117_k0,r0,hS.blk.cell,e1]
  refine eff_store1 (B:=B) (i:=1) (by simp) hS.blk (by simp) rfl rfl sz3 fun W2 hO2 hb2=> ?_
  simp at hb2
  have hb3:Blk W2 B #[tv, .int .i64 ((i+1:Nat):Int), .int .i64 (f:Int),nv] 85:=by rw [←e1];simpa [e1] using hb2
  obtain ⟨hS2,hT2⟩:=hS.move hO2 hb3 hlt h.fl
  simp [TakeR]
  exact ⟨hS2,(Tn.ext hE' h.bW).trans hT2⟩
end
end Go.L02
namespace Go.L02
open Go Go.Eng Go.RowKit
open Go.Proofs hiding encI
open Go.L01 (Bs Tok encT SlT toksV toksV_len toksV_get SlK retT Own.same ownMono retK_c1 retTT)
set_option maxRecDepth 100000
set_option maxHeartbeats 2000000
def strayC:List PanicEntry:=[{v:= .iface 153 (.agg #[]),recovered:=false}]
structure Ans (α:Type) where
 nodes:Nat→α→List Nd
 val:World→World→Nat→α→Value→Prop
def aU:Ans Unit:=⟨fun _ _=>[],fun _ _ _ _ v=>v= .tuple #[]⟩
def aS:Ans Bs:=⟨fun _ _=>[],fun _ _ _ s v=>v= .string (mkS s)⟩
def Fresh (w:World) (v:Value):Prop:=∀k,v.ownBlock=some k→w.heap.size≤k
theorem Fresh.mono {w w':World} {v:Value} (h:Fresh w' v) (hs:w.heap.size≤w'.heap.size):Fresh w v:=fun k hk=>Nat.le_trans hs (h k hk)
def PR {α:Type} (A:Ans α) (base B:Nat) (tv nv:Value) (L:List Tok) (xs:List NV) (w:World):Rs α→Ending→World→Prop
 | .oof,_,_=>False
 | .ok a j g,e,w'=>∃v nv' ys,e= .returned v∧PSt base B w' tv nv' L j g (xs++ys)∧ys.map (·.nd)=A.nodes xs.length a∧(∀y∈ys,Fresh w y.kv)∧Tn base B nv nv' w w'∧A.val w w' xs.length a v
 | .no g,e,w'=>∃j nv' ys,e= .panicked strayC∧PSt base B w' tv nv' L j g (xs++ys)∧Tn base B nv nv' w w'
def Mt {α:Type} (A:Ans α) (L:List Tok) (F:FuncId) (args:Value→Array Value) (m:M α):Prop:=∀base B w tv nv i f xs,PSt base B w tv nv L i f xs→xs.length≤2*i+2→m i f≠ .oof→
 Calls Tryz.prog F (args (.pointer (some ⟨B,0,none⟩))) w (PR A base B tv nv L xs w (m i f))
def me (v:Value):Array Value:= #[v]
theorem stepC {α β:Type} {A:Ans α} {A':Ans β} {L:List Tok} {m:M α} {k:α→M β} {r:Rs β} {base B:Nat} {w w1:World} {tv nv nv1:Value} {i f:Nat} {xs ys:List NV} {K:Env→World→Prop} {Q:Ks} {ρ:Env} {d:Option Nat}
  {F:FuncId} {args:Array Value} (hm:m i f≠ .oof→Calls Tryz.prog F args w1 (PR A base B tv nv1 L (xs++ys) w1 (m i f))) (hT:Tn base B nv nv1 w w1) (hr:bnd m k i f=r) (ho:r≠ .oof)
  (hpn:∀c w',PR A' base B tv nv L xs w r (.panicked c) w'→Q.pn ρ c w')
  (h:∀a j g v nv2 zs w2,m i f= .ok a j g→PSt base B w2 tv nv2 L j g (xs++(ys++zs))→zs.map (·.nd)=A.nodes (xs++ys).length a→(∀z∈zs,Fresh w1 z.kv)→Tn base B nv1 nv2 w1 w2→Tn base B nv nv2 w w2→A.val w1 w2 (xs++ys).length a v→k a j g=r→
   K (updO ρ d v) w2):Calls Tryz.prog F args w1 (callK Q d K ρ):=by
 have hno:m i f≠ .oof:=fun e=>ho (by rw [←hr,bnd_oof e])
 refine (hm hno).mono ?_
 intro e w2 hp
 cases hm':m i f with
 |oof=>exact absurd hm' hno
 |no g=>
  rw [hm'] at hp
  obtain ⟨j,nv2,zs,rfl,hS2,hT2⟩:=hp
  rw [callK_pan]
  refine hpn _ _ ?_
  rw [←hr,bnd_no hm']
  exact ⟨j,nv2,ys++zs,rfl,by simpa using hS2,hT.trans hT2⟩
 |ok a j g=>
  rw [hm'] at hp
  obtain ⟨v,nv2,zs,rfl,hS2,h1,h2,hT2,h3⟩:=hp
  rw [callK_ret]
  refine h a j g v nv2 zs w2 hm' (by simpa using hS2) h1 h2 hT2 (hT.trans hT2) h3 ?_
  rw [←hr,bnd_ok hm']
theorem bu153:Tryz.prog.built 153 []=some #[]:=by kernel_rfl
section
variable {base B:Nat} {w:World} {tv nv:Value} {L:List Tok} {i f:Nat} {xs:List NV}
def FailR (base B:Nat) (w:World) (tv nv:Value) (L:List Tok) (i f:Nat) (xs:List NV):Ending→World→Prop:=fun e w'=>e= .panicked strayC∧PSt base B w' tv nv L i (max f i) xs∧Tn base B nv nv w w'
theorem p_fail (h:PSt base B w tv nv L i f xs):Calls Tryz.prog 143 #[.pointer (some ⟨B,0,none⟩)] w (FailR base B w tv nv L i f xs):=by
 have htl:=h.tl
 have hil:=h.il
 have hfl:=h.fl
 refine ir143_calls fun ρ r0=> ?_
 simp [ir143]
 refine raw_ord ir143_o0_ok (fun W=>PSt base B W tv nv L i f xs) fun W3 hE3 _=>⟨h.ext hE3, ?_⟩
 have hS3:=h.ext hE3
 have hcB:∀W,PSt base B W tv nv L i f xs→∀j,W.cell? ⟨B,j,none⟩= #[tv,Value.int .i64 (i:Int), .int .i64 (f:Int),nv][j]? :=fun W h=>h.blk.cell
 simp+contextual -implicitDefEqProofs [ir143_o0,hcB,hS3,r0]
 refine eff_max (k:= .i64) (a:=(f:Int)) (b:=(i:Int)) (by simp) (by simp) ?_
 have e1:(if (i:Int)>(f:Int) then (i:Int) else (f:Int))=((max f i:Nat):Int):=by split<;>omega
 rw [e1]
 refine ⟨hS3, ?_⟩
 simp [r0]
 refine eff_store1 (B:=B) (i:=2) (by simp) hS3.blk (by simp) (by simp [Value.cells]) (by simp) sz3 fun W4 hO4 hb4=> ?_
 simp at hb4
 have hb5:Blk W4 B #[tv, .int .i64 (i:Int), .int .i64 ((max f i:Nat):Int),nv] 85:=by simpa using hb4
 obtain ⟨hS4,hT4⟩:=hS3.move hO4 hb5 hil (by omega)
 simp [ir143_k0]
 rw [bu153]
 dsimp only [onO]
 refine eff_panic (t:=153) (v:= .agg #[]) (by simp) ?_
 simp [FailR,strayC]
 exact ⟨hS4,(Tn.ext hE3 h.bW).trans hT4⟩
theorem take_needs {s:Bs} {ss:List Bs}:needs L (s::ss) i f=if isT L i [s] then needs L ss (i+1) f else .no (max f i):=rfl
theorem p_need (h:PSt base B w tv nv L i f xs) {v:Value} {ss:List Bs} (hs0:Own 0 9 1 w v (ss.map encT)) (hbd:ss.length<4611686018427387904):Calls Tryz.prog 153 #[.pointer (some ⟨B,0,none⟩),v] w (PR aU base B tv nv L xs w (needs L ss i f)):=by
 have hs:SlT w v ss:=Own.sl hs0 hbd
 refine ir153_calls fun ρ r0 r1=> ?_
 simp [ir153,r1,hs.is,hs.len]
 refine loopC 8 ss.length (fun k ρ' w'=>ρ' 0= .pointer (some ⟨B,0,none⟩)∧ρ' 6=v∧ρ' 7= .int .i64 (ss.length:Int)∧PSt base B w' tv nv L (i+k) f xs∧Tn base B nv nv w w'∧Own 0 9 1 w' v (ss.map encT)∧needs L ss i f=needs L (ss.drop k) (i+k) f) (by simp)
  ⟨by simp [r0],by simp [r1],by simp [hs.len],h,Tn.refl _ _ _ _,hs0,by simp⟩ ?_
 rintro k ρ' w' hk r8 ⟨r0,r6,r7,hS,hT,hs0',heq⟩
 have hs':SlT w' v ss:=Own.sl hs0' hbd
 by_cases hlt:k<ss.length
 ·have hdr:=List.drop_eq_getElem_cons hlt
  rw [hdr,take_needs] at heq
  simp [ir153_l2,ir153_k1,r8,r7,hlt,r6,hs'.is,hs'.len,hs'.cell k hlt,encT,r0]
  refine (p_take hS ss[k]).mono ?_
  rintro _ w2 ⟨rfl,hS2,hT2⟩
  cases hc:isT L (i+k) [ss[k]] with
  |true=>
   rw [hc] at heq hS2
   simp [ir153_k0,r8,i64w (n:=(k:Int)+1) (by omega),r0,r6,r7]
   exact ⟨hS2,hT.trans hT2,hS.keep hT2 hs0' (by decide) (by decide),by rw [heq];rfl⟩
  |false=>
   rw [hc] at heq hS2
   simp [r0]
   refine (p_fail hS2).mono ?_
   rintro _ w3 ⟨rfl,hS3,hT3⟩
   simp
   rw [heq]
   exact ⟨i+k,nv,[],rfl,by simpa using hS3,(hT.trans hT2).trans hT3⟩
 ·have hk':k=ss.length:=by omega
  subst hk'
  simp [ir153_l2,r8,r7]
  rw [heq]
  simp only [List.drop_length,needs,ret,PR,aU]
  exact ⟨_,nv,[],rfl,by simpa using hS,rfl,by simp,hT,rfl⟩
theorem p_name (h:PSt base B w tv nv L i f xs):Calls Tryz.prog 120 #[.pointer (some ⟨B,0,none⟩)] w (PR aS base B tv nv L xs w (name L i f)):=by
 have htl:=h.tl
 have hil:=h.il
 refine ir120_calls fun ρ r0=> ?_
 simp [ir120,r0]
 refine (p_ahead h 0 (by decide)).mono ?_
 rintro _ w1 ⟨rfl,hE⟩
 simp
 refine eff_alloc z53 fun X W hX hE1 hb _=> ?_
 simp
 refine eff_storeN (B:=X) (by simp) hb (by simp [Value.cells,tokA]) (by simp [Value.cells,tokA]) (by simpa [Value.cells] using sz53) fun W2 hO2 hb2=> ?_
 simp [Value.cells,tokA] at hb2
 obtain ⟨c0,c1,c2⟩:=row3 hb2
 have hE2:Ext w W2:=hO2.ext (hE.trans' hE1) (by have:=hE.size;omega)
 have hS:=h.ext hE2
 have hk:(((tk L i).kind:Int)=1)↔(tk L i).kind=1:=by omega
 simp [c0,r0]
 by_cases h1:(tk L i).kind=1
 ·have hlt:=kind1_lt h1 (by decide)
  have e1:IntKind.i64.wrap ((i:Int)+1)=((i+1:Nat):Int):=by rw [i64w (by omega)];push_cast;rfl
  have hne:X≠B:=by have:=h.blk.lt;have:=hE.size;omega
  simp [h1,ir120_k0,r0,hS.blk.cell,e1]
  refine eff_store1 (B:=B) (i:=1) (by simp) hS.blk (by simp) (by simp [Value.cells]) (by simp) sz3 fun W3 hO3 hb3=> ?_
  simp at hb3
  have hb4:Blk W3 B #[tv, .int .i64 ((i+1:Nat):Int), .int .i64 (f:Int),nv] 85:=by simpa using hb3
  obtain ⟨hS3,hT3⟩:=hS.move hO3 hb4 hlt h.fl
  have c1':W3.cell? ⟨X,1,none⟩=some (.string (mkS (tk L i).text)):=(row3 (hO3.blk hb2 hne)).2.1
  simp [c1']
  rw [name_ok h1]
  exact ⟨_,nv,[],rfl,by simpa using hS3,rfl,by simp,(Tn.ext hE2 h.bW).trans hT3,rfl⟩
 ·have hne:name L i f= .no (max f i):=by unfold name;rw [if_neg h1]
  have h1':¬((tk L i).kind:Int)=1:=by omega
  simp [h1',r0]
  refine (p_fail hS).mono ?_
  rintro _ w3 ⟨rfl,hS3,hT3⟩
  simp
  rw [hne]
  exact ⟨i,nv,[],rfl,by simpa using hS3,(Tn.ext hE2 h.bW).trans hT3⟩
theorem p_param (h:PSt base B w tv nv L i f xs):Calls Tryz.prog 156 #[.pointer (some ⟨B,0,none⟩)] w (PR aU base B tv nv L xs w (param L i f)):=by
 have htl:=h.tl
 have hil:=h.il
 refine ir156_calls fun ρ r0=> ?_
 simp [ir156,r0]
 refine (p_ahead h 0 (by decide)).mono ?_
 rintro _ w1 ⟨rfl,hE⟩
 simp
 refine eff_alloc z53 fun X W hX hE1 hb _=> ?_
 simp
 refine eff_storeN (B:=X) (by simp) hb (by simp [Value.cells,tokA]) (by simp [Value.cells,tokA]) (by simpa [Value.cells] using sz53) fun W2 hO2 hb2=> ?_
 simp [Value.cells,tokA] at hb2
 obtain ⟨c0,c1,c2⟩:=row3 hb2
 have hE2:Ext w W2:=hO2.ext (hE.trans' hE1) (by have:=hE.size;omega)
 have hS:=h.ext hE2
 have e0:(⟨#[116]⟩:ByteArray)=mkS [116]:=rfl
 simp [c0,c1,r0]
 unfold param
 by_cases h1:(tk L i).kind=1∧(tk L i).text=[116]
 ·have hlt:=kind1_lt h1.1 (by decide)
  have e1:IntKind.i64.wrap ((i:Int)+1)=((i+1:Nat):Int):=by rw [i64w (by omega)];push_cast;rfl
  rw [if_pos h1]
  simp [h1.1,h1.2,e0,ir156_k0,r0,hS.blk.cell,e1]
  refine eff_store1 (B:=B) (i:=1) (by simp) hS.blk (by simp) (by simp [Value.cells]) (by simp) sz3 fun W3 hO3 hb3=> ?_
  simp at hb3
  have hb4:Blk W3 B #[tv, .int .i64 ((i+1:Nat):Int), .int .i64 (f:Int),nv] 85:=by simpa using hb3
  obtain ⟨hS3,hT3⟩:=hS.move hO3 hb4 hlt h.fl
  simp
  exact ⟨_,nv,[],rfl,by simpa using hS3,rfl,by simp,(Tn.ext hE2 h.bW).trans hT3,rfl⟩
 ·rw [if_neg h1]
  by_cases h2:(tk L i).kind=1
  ·have h3:(tk L i).text≠[116]:=fun e=>h1 ⟨h2,e⟩
   simp [h2,e0,mkS_inj,h3,r0]
   refine (p_fail hS).mono ?_
   rintro _ w3 ⟨rfl,hS3,hT3⟩
   simp
   exact ⟨i,nv,[],rfl,by simpa using hS3,(Tn.ext hE2 h.bW).trans hT3⟩
  ·have h2':¬((tk L i).kind:Int)=1:=by omega
   simp [h2',r0]
   refine (p_fail hS).mono ?_
   rintro _ w3 ⟨rfl,hS3,hT3⟩
   simp
   exact ⟨i,nv,[],rfl,by simpa using hS3,(Tn.ext hE2 h.bW).trans hT3⟩
theorem p_end (h:PSt base B w tv nv L i f xs):Calls Tryz.prog 63 #[.pointer (some ⟨B,0,none⟩)] w (PR aU base B tv nv L xs w (fin L i f)):=by
 have htl:=h.tl
 have hil:=h.il
 refine ir63_calls fun ρ r0=> ?_
 have hK:=h.slk
 simp [ir63,r0,h.blk.cell,hK.is,hK.len]
 intro W2 hE2
 have hS:=h.ext hE2
 unfold fin
 by_cases hlt:i<L.length
 ·rw [if_pos hlt]
  simp [ir63_k0,hlt,r0]
  refine (p_fail hS).mono ?_
  rintro _ w3 ⟨rfl,hS3,hT3⟩
  simp
  exact ⟨i,nv,[],rfl,by simpa using hS3,(Tn.ext hE2 h.bW).trans hT3⟩
 ·rw [if_neg hlt]
  simp [ir63_k0,hlt]
  exact ⟨_,nv,[],rfl,by simpa using hS,rfl,by simp,Tn.ext hE2 h.bW,rfl⟩
theorem sz44:sizeIs Tryz.prog 44 6=true:=by kernel_rfl
theorem sz29:sizeIs Tryz.prog 29 1=true:=by kernel_rfl
theorem run_loadN {w:World} {X:Nat} {cs:Array Value} {T:TypeId} {n:Nat} (h:Blk w X cs T) (hn:cs.size=n):pv1 w (.loadN n) (.pointer (some ⟨X,0,none⟩))=some (.agg cs):=by
 rw [pv1_loadN,←hn,row_blk h];rfl
theorem eff_appendB {P:Program} {t e sz bytes:Nat} (hi:rowInfo P t=some (e,sz,bytes)) {base:Nat} {w:World} {ρ:Env} {Q:Ks} {d:Option Nat} {ty:TypeId} {K:Env→World→Prop} (hbase:base≤w.heap.size) {s x:Operand} {sv xv:Value} (hs:evE ρ s=sv) (hx:evE ρ x=xv) {xs news:List Value}
  (hown:Own base e sz w sv xs) (hnew:Cells w xv sz news) (h1:∀u∈news,u.oneCell'=true)
  (hlen:xs.length+news.length<4611686018427387904) (hbytes:(xs.length+news.length)*bytes≤140737488355328*sz)
  (h:∀v' W,Own base e sz W v' (xs++news)→w.grownBy W sv.ownBlock→(v'.ownBlock=sv.ownBlock∨v'.ownBlock=some w.heap.size)→K (updO ρ d v') W):effW P Q d (.call {callee:= .builtin .append,args:= #[s,x],argTypes:= #[t,t]}) ty K ρ w:=by
 obtain ⟨v',W,h1,h2,h3,h4⟩:=run_append (ty:=ty) hi hown hnew h1 hlen hbytes hbase
 refine effE_ok (v:=v') (w':=W) ?_ (h v' W h2 h3 h4)
 simp [execOp,effOp,resolve,invoke,builtin,hs,hx,h1]
end
end Go.L02
namespace Go.L02
open Go Go.Eng Go.Proofs
set_option maxRecDepth 100000
set_option maxHeartbeats 2000000
noncomputable def ir71:IR:= .reg [za 1 (zl (zv 0)),zc 2 72 #[zt 1] #[83] 0,za 3 (zl (zv 0)),zc 4 63 #[zt 3] #[83] 0]
def ir71_V:List Nat:=[0,1,2,3,4]
theorem ir71_calls:C1 71 5 ir71_V ir71 []:=c1 [] Tryz.func71
noncomputable def ir22_k0:IR:=zq [za 19 (zv 3),zE 20 (.build 85 #[(0,(zt 19))]) 85,zE 21 (.box 85 (zt 20)) 83,zE 5 (.alloc 83) 0,zw 83 (zt 5) (zt 21),za 22 (zl (zv 5)),zE 23 (.makeFunc (.func 71) #[] #[zt 5]) 1,zc 24 54 #[zt 22,zt 23] #[83,1] 4,za 25 (zv 24),zg 25 true 26 (zv 3),zh 25 true 27 73 #[zt 26] #[48] 9,za 2 (.ite (zv 25) (zS .eql (zv 27) (zv 0)) (.const (zb false)))] <| .ret
noncomputable def ir22:IR:=zq [za 2 (.const (zb false)),za 7 (zv 0),zc 8 53 #[zt 7] #[9] 49,za 6 (zv 8),za 9 (ze 0 (zv 6)),za 10 (ze 1 (zv 6)),zE 4 (.alloc 26) 0,za 3 (zv 9),zw 26 (zt 4) (zt 10),za 18 (.ite (zI .neq (zo 0 (zv 4)) (.const (zk 0))) (.const (zb true)) (zI .gtr (zT (zv 0)) (.const (zk 100))))] <| .seq (.cond (zv 18) (zq [za 2 (.const (zb false))] <| .ret) (.skip)) (ir22_k0)
def ir22_V:List Nat:=[0,2,3,4,5,6,7,8,9,10,18,19,20,21,22,23,24,25,26,27]
theorem ir22_calls:C1 22 31 ir22_V ir22 [.tmp 2]:=c1 [] Tryz.func22
noncomputable def ir75:IR:=zq [za 2 (.const (zb false)),zE 3 (.buildSlice 51 4 #[(0,(.const (zs #[109,111,100]))),(1,(.const (zs #[97,110,100]))),(2,(.const (zs #[111,114]))),(3,(.const (zs #[110,111,116])))]) 51,za 4 (zv 0),zc 5 160 #[zt 3,zt 4] #[51,9] 4,za 2 (zv 5)] <| .ret
def ir75_V:List Nat:=[0,2,3,4,5]
theorem ir75_calls:C1 75 6 ir75_V ir75 [.tmp 2]:=c1 [] Tryz.func75
noncomputable def ir24_k0:IR:=zq [za 9 (zv 0),zE 10 (.call {callee:= .value (.func 76),args:= #[zt 9,(.const (zs #[95]))],argTypes:= #[9,9]}) 107,za 8 (zv 10),za 11 (ze 0 (zv 8)),za 12 (ze 1 (zv 8)),za 13 (ze 2 (zv 8)),za 3 (zv 11),za 4 (zv 12),za 5 (zv 13),za 14 (zv 3),zc 15 77 #[zt 14] #[9] 4,za 16 (zv 15),zg 16 true 19 (zn (zv 5)),zg 19 false 20 (zv 4),zh 19 false 21 77 #[zt 20] #[9] 4,za 2 (.ite (zv 16) (.ite (zv 19) (.const (zb true)) (zv 21)) (.const (zb false)))] <| .ret
noncomputable def ir24:IR:=zq [za 2 (.const (zb false)),za 6 (zv 0),zc 7 75 #[zt 6] #[9] 4] <| .seq (.cond (zv 7) (zq [za 2 (.const (zb true))] <| .ret) (.skip)) (ir24_k0)
def ir24_V:List Nat:=[0,2,3,4,5,6,7,8,9,10,11,12,13,14,15,16,19,20,21]
theorem ir24_calls:C1 24 24 ir24_V ir24 [.tmp 2]:=c1 [] Tryz.func24
end Go.L02
namespace Go.L02
open Go Go.Eng Go.RowKit
open Go.Proofs hiding encI
open Go.L01 (Bs Tok encT SlT toksV toksV_len toksV_get SlK retT Own.same ownMono retK_c1 retTT)
set_option maxRecDepth 100000
set_option maxHeartbeats 2000000
section
variable {base B:Nat} {w w':World} {tv nv nv':Value} {L:List Tok} {i f:Nat} {xs:List NV}
def Sep (out:Value) (xs:List NV):Prop:=∀x∈xs,∀k,x.kv.ownBlock=some k→out.ownBlock≠some k
theorem Sep.app {out:Value} {a b:List NV} (h1:Sep out a) (h2:Sep out b):Sep out (a++b):=fun x hx=>by
 rcases List.mem_append.1 hx with h|h
 ·exact h1 x h
 ·exact h2 x h
theorem Sep.old {out:Value} {a:List NV} (h:∀x∈a,∀k,x.kv.ownBlock=some k→k<w.heap.size) (ho:Fresh w out):Sep out a:=fun x hx k hk e=>by
 have:=h x hx k hk
 have:=ho k e
 omega
theorem Sep.new {out:Value} {a:List NV} (h:∀x∈a,Fresh w x.kv) (ho:∀k,out.ownBlock=some k→k<w.heap.size):Sep out a:=fun x hx k hk e=>by
 have:=h x hx k hk
 have:=ho k e
 omega
theorem PSt.old (h:PSt base B w tv nv L i f xs):∀x∈xs,∀k,x.kv.ownBlock=some k→k<w.heap.size:=fun x hx k hk=>((h.kid x hx).blk k hk).2
theorem PSt.grown (h:PSt base B w tv nv L i f xs) {out:Value} {e sz b:Nat} {cs:List Value} (ho:Own b e sz w out cs) (hg:w.grownBy w' out.ownBlock) (hs:Sep out xs) (h1:e≠44) (h2:e≠85) (h3:e≠53):PSt base B w' tv nv L i f xs:=by
 have ne:∀k cur T,T≠e→w.heap[k]? =some (.cells cur T (0,0))→some k≠out.ownBlock:=fun k cur T hT hk hkx=>by
  obtain ⟨cur',hc⟩:=Own.row ho hkx.symm
  rw [hk] at hc;cases hc;exact hT rfl
 have keep:∀{b' e' sz':Nat} {v:Value} {ys:List Value},e'≠e→Own b' e' sz' w v ys→Own b' e' sz' w' v ys:=fun he ho'=>Own.same ho' fun k hk=>by
  obtain ⟨cur,hc⟩:=Own.row ho' hk
  exact hg.block k (Array.getElem?_eq_some_iff.1 hc).1 (ne k cur _ he hc)
 refine ⟨⟨(hg.block B h.blk.lt (ne B _ 85 (Ne.symm h2) h.blk.heap)).trans h.blk.heap⟩,keep (Ne.symm h3) h.tok,keep (Ne.symm h1) h.own,fun x hx=>Own.same (h.kid x hx) fun k hk=>hg.block k ((h.kid x hx).blk k hk).2 fun e=>hs x hx k hk e.symm,h.bB,Nat.le_trans h.bW hg.size,h.tl,h.il,h.fl⟩
theorem Tn.grown (h:Tn base B nv nv' w w') {W:World} {row:Option Nat} (hg:w'.grownBy W row) (hr:∀k,row=some k→w.heap.size≤k) (hb:base≤w.heap.size):Tn base B nv nv' w W:=by
 have hs:=h.size
 refine ⟨⟨hg.os.trans h.below.os,hg.tape.trans h.below.tape,hg.output.trans h.below.output,Nat.le_trans hs hg.size,fun k hk=> ?_⟩,fun k hk h1 h2=> ?_,h.row,h.gr⟩
 ·exact (hg.block k (by omega) fun e=>by have:=hr k e.symm;omega).trans (h.below.block k hk)
 ·exact (hg.block k (by omega) fun e=>by have:=hr k e.symm;omega).trans (h.block k hk h1 h2)
theorem Tn.extR (h:Tn base B nv nv' w w') {W:World} (hE:Ext w' W) (hb:base≤w.heap.size):Tn base B nv nv' w W:=
 ⟨h.below.trans (hE.mono (Nat.le_trans hb h.size)),fun k hk h1 h2=>(hE.block k (Nat.lt_of_lt_of_le hk h.size)).trans (h.block k hk h1 h2),h.row,h.gr⟩
end
structure Pu (α:Type) where
 nodes:Nat→α→List Nd
 ev:Nat→α→Value
 μ:α→Nat
 len:∀b a,(nodes b a).length=μ a
section
variable {α:Type} (p:Pu α)
def Pu.ans:Ans α:=⟨p.nodes,fun _ _ b a v=>v=p.ev b a⟩
def Pu.nodesL:Nat→List α→List Nd
 |_,[]=>[]
 |b,a::ls=>p.nodes b a++Pu.nodesL (b+p.μ a) ls
def Pu.evL:Nat→List α→List Value
 |_,[]=>[]
 |b,a::ls=>(p.ev b a).cells.toList++Pu.evL (b+p.μ a) ls
def Pu.ansL (e sz:Nat):Ans (List α):=⟨p.nodesL,fun w w' b l v=>Own w.heap.size e sz w' v (p.evL b l)⟩
theorem Pu.nodesL_snoc (a:α):∀(l:List α) (b:Nat),p.nodesL b (l++[a])=p.nodesL b l++p.nodes (b+(p.nodesL b l).length) a
 |[],b=>by simp [Pu.nodesL]
 |x::l,b=>by
  simp only [List.cons_append,Pu.nodesL,Pu.nodesL_snoc a l,List.length_append,p.len,List.append_assoc,Nat.add_assoc]
theorem Pu.evL_len {sz:Nat} (h:∀b a,(p.ev b a).cells.size=sz):∀(l:List α) (b:Nat),(p.evL b l).length=l.length*sz
 |[],b=>by simp [Pu.evL]
 |x::l,b=>by simp only [Pu.evL,List.length_append,Pu.evL_len h l,List.length_cons,Array.length_toList,h,Nat.add_mul];omega
theorem Pu.evL_snoc (a:α):∀(l:List α) (b:Nat),p.evL b (l++[a])=p.evL b l++(p.ev (b+(p.nodesL b l).length) a).cells.toList
 |[],b=>by simp [Pu.evL,Pu.nodesL]
 |x::l,b=>by
  simp only [List.cons_append,Pu.evL,Pu.evL_snoc a l,Pu.nodesL,List.length_append,p.len,List.append_assoc,Nat.add_assoc]
end
def Bx (B:Nat) (bx:Option Nat) (w:World):Prop:=∀b,bx=some b→Blk w b #[.pointer (some ⟨B,0,none⟩)] 83
theorem Bx.keep {base B:Nat} {w w':World} {tv nv nv':Value} {L:List Tok} {i f:Nat} {xs:List NV} {bx:Option Nat} (h:Bx B bx w) (hS:PSt base B w tv nv L i f xs) (hT:Tn base B nv nv' w w'):Bx B bx w':=fun b hb=>hS.var hT (h b hb) (by decide) (by decide)
theorem Bx.ext {B:Nat} {w w':World} {bx:Option Nat} (h:Bx B bx w) (hE:Ext w w'):Bx B bx w':=fun b hb=>(h b hb).ext hE
theorem Bx.grown {B:Nat} {w w':World} {bx:Option Nat} (h:Bx B bx w) {out:Value} {e sz b:Nat} {cs:List Value} (ho:Own b e sz w out cs) (hg:w.grownBy w' out.ownBlock) (he:e≠83):Bx B bx w':=fun b hb=>by
 have h1:=h b hb
 refine ⟨(hg.block b h1.lt fun e2=> ?_).trans h1.heap⟩
 obtain ⟨cur,hc⟩:=Own.row ho e2.symm
 rw [h1.heap] at hc;cases hc;exact he rfl
structure FnM {α:Type} (A:Ans α) (bx:Option Nat) (B:Nat) (L:List Tok) (fv:Value) (m:M α):Prop where
 fn:∃F fs caps,fv= .func (.func F) fs caps∧callB Tryz.prog F=true∧∀base w tv nv i f xs,PSt base B w tv nv L i f xs→Bx B bx w→xs.length≤2*i+2→m i f≠ .oof→Calls Tryz.prog F (fs++caps) w (PR A base B tv nv L xs w (m i f))
def atOf (B:Nat) (w:World):Nat:=match w.cell? ⟨B,1,none⟩ with|some (.int _ n)=>n.toNat|_=>0
theorem PSt.atOf {base B:Nat} {w:World} {tv nv:Value} {L:List Tok} {i f:Nat} {xs:List NV} (h:PSt base B w tv nv L i f xs):atOf B w=i:=by
 unfold L02.atOf;rw [h.blk.cell];rfl
theorem ri51:rowInfo Tryz.prog 51=some (9,1,16):=by kernel_rfl
theorem sl51:sliceInfo Tryz.prog 51=some (9,1):=by kernel_rfl
@[simp] theorem cb154:callB Tryz.prog 154=true:=by kernel_rfl
theorem p_listed154 {α:Type} {p:Pu α} {bx:Option Nat} {base B:Nat} {w:World} {tv nv fv:Value} {L:List Tok} {i f:Nat} {xs:List NV} {m:M α} (hf:FnM p.ans bx B L fv m) (hu:Up m) (hz:Sz p.μ 0 m)
  (hc:∀b a,(p.ev b a).cells.size=1∧∀u∈(p.ev b a).cells.toList,u.oneCell'=true) (n:Nat) (h:PSt base B w tv nv L i f xs) (hEw:Bx B bx w) (hn:xs.length≤2*i+2) (ho:listed L n m i f≠ .oof):
  Calls Tryz.prog 154 #[.pointer (some ⟨B,0,none⟩),fv] w (PR (p.ansL 9 1) base B tv nv L xs w (listed L n m i f)):=by
 obtain ⟨F,fs,caps,rfl,hcb,hcall⟩:=hf.fn
 generalize hr:listed L n m i f=r at ho
 refine ir154_calls fun ρ r0 r1=> ?_
 simp [ir154,r0,r1]
 refine eff_callv (f:=F) hcb (fs:=fs) (caps:=caps) (by simp) ?_
 simp
 refine stepC (ys:=[]) (xs:=xs) (r:=r) (A':=p.ansL 9 1) (nv:=nv) (w:=w) (k:=fun x=>bnd (more L m n) fun xs=>ret (x::xs)) (fun hno=>by simpa using hcall base w tv nv i f xs h hEw hn hno) (Tn.refl _ _ _ _) hr ho (fun c w' hp=>by simpa using hp) ?_
 intro a j g v nv2 zs w2 hma hS2 hnd hfr hT2 hTT hv hk
 simp only [List.append_nil,List.nil_append] at hS2 hnd hv
 change v=p.ev xs.length a at hv
 change zs.map (·.nd)=p.nodes xs.length a at hnd
 subst hv
 have hcs:=hc xs.length a
 simp
 refine eff_lit sl51 (by decide) (by decide) (by simpa using hcs.1) fun X W3 hX hE3 hb3 hsz3=> ?_
 simp at hb3
 have hS3:=hS2.ext hE3
 have hEw3:=(hEw.keep h hT2).ext hE3
 have hzz:=hz _ _ _ _ _ hma
 have hzl:zs.length=p.μ a:=by rw [←p.len xs.length a,←hnd,List.length_map]
 simp
 refine loopI (fun ρ' w'=>∃i' f' nv' ys out ls n',ρ' 0= .pointer (some ⟨B,0,none⟩)∧ρ' 1= .func (.func F) fs caps∧ρ' 5=out∧PSt base B w' tv nv' L i' f' (xs++ys)∧ys.map (·.nd)=p.nodesL xs.length ls∧(∀y∈ys,Fresh w y.kv)∧Tn base B nv nv' w w'∧Bx B bx w'∧
   Own w.heap.size 9 1 w' out (p.evL xs.length ls)∧Sep out (xs++ys)∧(xs++ys).length≤2*i'+2∧ls.length≤i'+1∧(more L m n' i' f').andThen (fun bs j g=> .ok (ls++bs) j g)=r) (fun _ w'=>L.length - atOf B w')
  ⟨j,g,nv2,zs, .slice (some ⟨X,0,none⟩) 1 1,[a],n,by simp [r0],by simp [r1],by simp,hS3,by simpa [Pu.nodesL] using hnd,hfr,hTT.extR hE3 h.bW,hEw3, ?_, ?_,by simp;omega,by simp, ?_⟩ ?_
 ·have:=Own.lit (base:=w.heap.size) (sz:=1) (n:=1) (cs:=(p.ev xs.length a).cells.toList) (by simpa using hb3) (by simp [hcs.1]) (by have:=hT2.size;omega) (by decide)
  simpa [Pu.evL] using this
 ·refine Sep.old (w:=w2) hS2.old ?_
  intro k hk;cases hk;exact hX
 ·rw [←hk]
  simp only [bnd]
  cases more L m n j g<;>rfl
 clear hk hS2 hnd hfr hT2 hTT hb3 hS3 hEw3 hX hE3 hma hzz hzl hsz3
 rintro ρ' w' ⟨i',f',nv',ys,out,ls,n',r0,r1,r5,hS,hnd,hfr,hT,hEw',hO,hsep,hcnt,hll,hsp⟩
 have hat:=hS.atOf
 simp [ir154_l1,r0]
 refine (p_take hS [44]).mono ?_
 rintro _ w2 ⟨rfl,hS2,hT2⟩
 have hEw2:=hEw'.keep hS hT2
 have hO2:=hS.keep hT2 hO (by decide) (by decide)
 cases n' with
 |zero=>exact absurd hsp.symm ho
 |succ n'=>
  have hsp':(tif L [44] (listed L n' m) (ret []) i' f').andThen (fun bs j g=> .ok (ls++bs) j g)=r:=hsp
  unfold tif at hsp'
  cases hc2:isT L i' [[44]] with
  |false=>
   rw [hc2] at hsp' hS2
   simp only [Bool.false_eq_true,if_false,ret,Rs.andThen,List.append_nil] at hsp' hS2
   simp [ir154_k2,r5]
   rw [←hsp']
   exact ⟨out,nv',ys,rfl,hS2,hnd,hfr,hT.trans hT2,hO2⟩
  |true=>
   rw [hc2] at hsp' hS2
   have hlt:=isT_lt hc2
   simp only [if_true] at hsp' hS2
   have hsep2:Sep out (xs++ys):=hsep
   have hout:∀k,out.ownBlock=some k→k<w2.heap.size:=fun k hk=>(hO2.blk k hk).2
   simp [ir154_k0,r1,r5]
   refine eff_callv (f:=F) hcb (fs:=fs) (caps:=caps) (by simp [r1]) ?_
   simp
   have hb:bnd m (fun x=>fun i f=>(more L m n' i f).andThen (fun bs j g=> .ok ((ls++[x])++bs) j g)) (i'+1) f'=r:=by
    rw [←hsp']
    simp only [listed,bnd]
    cases m (i'+1) f' with
    |oof=>rfl
    |no g=>rfl
    |ok a j g=>
     have e2:(bnd (more L m n') fun xs=>ret (a::xs)) j g=(more L m n' j g).andThen fun bs j g=> .ok (a::bs) j g:=rfl
     simp only [Rs.andThen]
     rw [e2]
     cases more L m n' j g<;>simp [Rs.andThen]
   refine stepC (ys:=ys) (xs:=xs) (r:=r) (A':=p.ansL 9 1) (nv:=nv) (w:=w) (fun hno=>by simpa using hcall base w2 tv nv' (i'+1) f' (xs++ys) hS2 hEw2 (by omega) hno) (hT.trans hT2) hb ho (fun c w' hp=>by simpa using hp) ?_
   intro a j g v nv3 zs w3 hma hS3 hnd3 hfr3 hT3 hTT hv hk
   change v=p.ev (xs++ys).length a at hv
   change zs.map (·.nd)=p.nodes (xs++ys).length a at hnd3
   subst hv
   have hcs:=hc (xs++ys).length a
   have hO3:=hS2.keep hT3 hO2 (by decide) (by decide)
   have hEw3:=hEw2.keep hS2 hT3
   have hzz:=hz _ _ _ _ _ hma
   have hzl:zs.length=p.μ a:=by rw [←p.len (xs++ys).length a,←hnd3,List.length_map]
   have hsep3:Sep out (xs++(ys++zs)):=by rw [←List.append_assoc];exact hsep2.app (Sep.new hfr3 hout)
   have hyl:ys.length=(p.nodesL xs.length ls).length:=by rw [←hnd,List.length_map]
   have hil3:=hS3.il
   have htl3:=hS3.tl
   have hlen:(p.evL xs.length ls).length=(slLen out)*1:=(L01.own_cells hO3).len
   simp
   refine eff_lit sl51 (by decide) (by decide) (by simpa using hcs.1) fun X W4 hX hE4 hb4 hsz4=> ?_
   simp at hb4
   have hS4:=hS3.ext hE4
   have hO4:=hO3.ext hE4
   have hsz4':w.heap.size≤W4.heap.size:=Nat.le_trans hTT.size hE4.size
   have hcl:(p.ev (xs++ys).length a).cells.toList.length=1:=by rw [Array.length_toList];exact hcs.1
   simp
   refine eff_appendB ri51 (base:=w.heap.size) (sv:=out) (xv:= .slice (some ⟨X,0,none⟩) 1 1) (xs:=p.evL xs.length ls) (news:=(p.ev (xs++ys).length a).cells.toList) hsz4' (by simp [r5]) (by simp) hO4 (Blk.cells (by simpa using hb4) (by simpa using hcs.1)) hcs.2 ?_ ?_ fun out' W5 hO5 hg5 hr5=> ?_
   ·rw [p.evL_len (fun b a=>(hc b a).1),hcl];omega
   ·rw [p.evL_len (fun b a=>(hc b a).1),hcl];omega
   have hS5:=hS4.grown hO4 hg5 hsep3 (by decide) (by decide) (by decide)
   have hEw5:=(hEw3.ext hE4).grown hO4 hg5 (by decide)
   have hT5:Tn base B nv nv3 w W5:=(hTT.extR hE4 h.bW).grown hg5 (fun k hk=>(hO.blk k hk).1) h.bW
   have hsep5:Sep out' (xs++(ys++zs)):=by
    rcases hr5 with e|e
    ·intro x hx k hk;rw [e];exact hsep3 x hx k hk
    ·refine Sep.old (w:=W4) hS4.old ?_
     intro k hk;rw [e] at hk;cases hk;exact Nat.le_refl _
   simp
   refine ⟨⟨r0,r1,j,g,nv3,ys++zs,hS5,ls++[a], ?_, ?_,hT5,hEw5, ?_,hsep5, ?_, ?_,n',hk⟩, ?_⟩
   ·rw [List.map_append,hnd,hnd3,Pu.nodesL_snoc,←hyl,List.length_append]
   ·intro y hy
    rcases List.mem_append.1 hy with hy|hy
    ·exact hfr y hy
    ·exact (hfr3 y hy).mono (hT.trans hT2).size
   ·rw [Pu.evL_snoc,←hyl,←List.length_append];exact hO5
   ·simp only [List.length_append] at hcnt⊢;omega
   ·simp;omega
   ·rw [hS5.atOf,hat];omega
theorem ri40:rowInfo Tryz.prog 40=some (3,1,8):=by kernel_rfl
theorem sl40:sliceInfo Tryz.prog 40=some (3,1):=by kernel_rfl
end Go.L02
namespace Go.L02
open Go Go.Eng Go.RowKit
open Go.Proofs hiding encI
open Go.L01 (Bs Tok encT SlT toksV toksV_len toksV_get SlK retT Own.same ownMono retK_c1 retTT)
set_option maxRecDepth 100000
set_option maxHeartbeats 2000000
section
variable {α β:Type} {A:Ans α} {A':Ans β} {L:List Tok} {m:M α} {k:α→M β} {r:Rs β} {base B:Nat} {w w1:World} {tv nv nv1:Value} {i f:Nat} {xs zs:List NV} {K:Env→World→Prop} {Q:Ks} {ρ:Env} {d:Option Nat}
theorem step0 (hA:∀b a,A.nodes b a=[]) {F:FuncId} {args:Array Value} (hx:∃ys,zs=xs++ys) (hm:m i f≠ .oof→Calls Tryz.prog F args w1 (PR A base B tv nv1 L zs w1 (m i f))) (hT:Tn base B nv nv1 w w1) (hr:bnd m k i f=r) (ho:r≠ .oof)
  (hpn:∀c w',PR A' base B tv nv L xs w r (.panicked c) w'→Q.pn ρ c w')
  (h:∀a j g v nv2 w2,m i f= .ok a j g→PSt base B w2 tv nv2 L j g zs→Tn base B nv1 nv2 w1 w2→Tn base B nv nv2 w w2→A.val w1 w2 zs.length a v→k a j g=r→K (updO ρ d v) w2):
  Calls Tryz.prog F args w1 (callK Q d K ρ):=by
 obtain ⟨ys,rfl⟩:=hx
 refine stepC (xs:=xs) (ys:=ys) (r:=r) (A':=A') hm hT hr ho hpn ?_
 intro a j g v nv2 us w2 hma hS hnd _ hT2 hTT hv hk
 rw [hA] at hnd
 obtain rfl:us=[]:=by simpa using hnd
 simp only [List.append_nil] at hS
 exact h a j g v nv2 w2 hma hS hT2 hTT hv hk
theorem stepTake {s:Bs} {x y:M β} (hx:∃ys,zs=xs++ys) (hS:PSt base B w1 tv nv1 L i f zs) (hT:Tn base B nv nv1 w w1) (hr:tif L s x y i f=r)
  (h1:∀w2,isT L i [s]=true→PSt base B w2 tv nv1 L (i+1) f zs→Tn base B nv1 nv1 w1 w2→Tn base B nv nv1 w w2→x (i+1) f=r→K (updO ρ d (.bool true)) w2)
  (h2:∀w2,isT L i [s]=false→PSt base B w2 tv nv1 L i f zs→Tn base B nv1 nv1 w1 w2→Tn base B nv nv1 w w2→y i f=r→K (updO ρ d (.bool false)) w2):
  Calls Tryz.prog 117 #[.pointer (some ⟨B,0,none⟩), .string (mkS s)] w1 (callK Q d K ρ):=by
 refine (p_take hS s).mono ?_
 rintro _ w2 ⟨rfl,hS2,hT2⟩
 rw [callK_ret]
 unfold tif at hr
 cases hc:isT L i [s] with
 |true=>
  rw [hc] at hr hS2
  simp only [if_true] at hr hS2
  exact h1 w2 hc hS2 hT2 (hT.trans hT2) hr
 |false=>
  rw [hc] at hr hS2
  simp only [Bool.false_eq_true,if_false] at hr hS2
  exact h2 w2 hc hS2 hT2 (hT.trans hT2) hr
theorem lit1 {ty:TypeId} (hS:PSt base B w1 tv nv1 L i f zs) (hT:Tn base B nv nv1 w w1) (hb:base≤w.heap.size) (s:Bs) (h:∀v w2,Ext w1 w2→PSt base B w2 tv nv1 L i f zs→Tn base B nv nv1 w w2→Own 0 9 1 w2 v ([s].map encT)→K (updO ρ d v) w2):
  effW Tryz.prog Q d (.buildSlice 51 1 #[(0, .const (.string ⟨s.toArray⟩))]) ty K ρ w1:=by
 refine eff_lit si51 (by decide) (by simp) (by simp [Value.cells]) fun X W hX hE hb' _=> ?_
 simp [Value.cells] at hb'
 exact h _ W hE (hS.ext hE) (hT.extR hE hb) (Own.lit (sz:=1) (cs:=[encT s]) (by simpa [encT,mkS] using hb') (by simp) (Nat.zero_le _) (by decide))
theorem stepNeed {ss:List Bs} {k:Unit→M β} {v:Value} (hx:∃ys,zs=xs++ys) (hS:PSt base B w1 tv nv1 L i f zs) (hv:Own 0 9 1 w1 v (ss.map encT)) (hbd:ss.length<4611686018427387904) (hT:Tn base B nv nv1 w w1) (hr:bnd (needs L ss) k i f=r) (ho:r≠ .oof)
  (hpn:∀c w',PR A' base B tv nv L xs w r (.panicked c) w'→Q.pn ρ c w')
  (h:∀j g nv2 w2,needs L ss i f= .ok () j g→PSt base B w2 tv nv2 L j g zs→Tn base B nv1 nv2 w1 w2→Tn base B nv nv2 w w2→k () j g=r→K (updO ρ d (.tuple #[])) w2):
  Calls Tryz.prog 153 #[.pointer (some ⟨B,0,none⟩),v] w1 (callK Q d K ρ):=
 step0 (A:=aU) (A':=A') (fun _ _=>rfl) hx (fun _=>p_need hS hv hbd) hT hr ho hpn fun _ j g v nv2 w2 hma hS2 hT2 hTT hv hk=>by
  change v=_ at hv
  subst hv
  exact h j g nv2 w2 hma hS2 hT2 hTT hk
end
section
variable {L:List Tok} {base B:Nat} {w w':World} {tv nv nv':Value} {i f:Nat} {xs:List NV}
theorem finU {r:Rs Unit} (hS:PSt base B w' tv nv' L i f xs) (hT:Tn base B nv nv' w w') (hr:ret () i f=r):PR aU base B tv nv L xs w r (.returned (.tuple #[])) w':=by
 rw [←hr];exact ⟨_,nv',[],rfl,by simpa using hS,rfl,by simp,hT,rfl⟩
theorem finS {r:Rs Bs} {s:Bs} (hS:PSt base B w' tv nv' L i f xs) (hT:Tn base B nv nv' w w') (hr:ret s i f=r):PR aS base B tv nv L xs w r (.returned (.string (mkS s))) w':=by
 rw [←hr];exact ⟨_,nv',[],rfl,by simpa using hS,rfl,by simp,hT,rfl⟩
theorem self (xs:List NV):∃ys,xs=xs++ys:=⟨[],by simp⟩
end
def pS:Pu Bs:=⟨fun _ _=>[],fun _ s=> .string (mkS s),fun _=>0,fun _ _=>rfl⟩
@[simp] theorem cb72:callB Tryz.prog 72=true:=by kernel_rfl
@[simp] theorem cb156:callB Tryz.prog 156=true:=by kernel_rfl
theorem p_part {L:List Tok} {k:M Unit} (hk:Mt aU L 72 me k) (hu:Up k):Mt aS L 155 me (partM L k):=by
 intro base B w tv nv i f xs hS hn hno
 generalize hr:partM L k i f=r at hno
 have hb:=hS.bW
 refine ir155_calls fun ρ r0=> ?_
 simp [ir155,r0]
 refine step0 (A:=aS) (A':=aS) (nv:=nv) (w:=w) (fun _ _=>rfl) (self xs) (fun _=>p_name hS) (Tn.refl _ _ _ _) hr hno (fun c w' hp=>by simpa using hp) ?_
 intro s j g v nv2 w2 hna hS2 hT2 hTT2 hv hr
 simp [r0]
 refine lit1 hS2 hTT2 hb [58] fun v2 w3 hE3 hS3 hTT3 hv3=> ?_
 simp
 refine stepNeed (A':=aS) (self xs) hS3 hv3 (by simp) hTT3 hr hno (fun c w' hp=>by simpa using hp) ?_
 intro j2 g2 nv4 w4 hne hS4 hT4 hTT4 hr
 simp [r0]
 have hj:=((up_needs _).ok hne).1
 have hj0:=(up_name.ok hna).1
 refine step0 (A:=aU) (A':=aS) (nv:=nv) (w:=w) (fun _ _=>rfl) (self xs) (fun hno=>hk base B w4 tv nv4 j2 g2 xs hS4 (by omega) hno) hTT4 hr hno (fun c w' hp=>by simpa using hp) ?_
 intro _ j5 g5 v5 nv5 w5 _ hS5 hT5 hTT5 hv5 hr
 simp
 exact finS (s:=[]) hS5 hTT5 hr
theorem fn_part {L:List Tok} {k:M Unit} (hk:Mt aU L 72 me k) (hu:Up k) (B:Nat):FnM pS.ans none B L (.func (.func 155) #[.pointer (some ⟨B,0,none⟩)] #[]) (partM L k):=
 ⟨155,_,_,rfl,by kernel_rfl,fun base w tv nv i f xs hS _ hn hno=>p_part hk hu base B w tv nv i f xs hS hn hno⟩
theorem sz_part {L:List Tok} {k:M Unit} (hu:Up k):Sz pS.μ 0 (partM L k):=sz_up (up_part hu)
theorem pS_cells (b:Nat) (s:Bs):(pS.ev b s).cells.size=1∧∀u∈(pS.ev b s).cells.toList,u.oneCell'=true:=⟨rfl,by simp [pS,Value.cells,Value.oneCell']⟩
theorem nodesL_pS:∀(b:Nat) (l:List Bs),(pS.ansL 9 1).nodes b l=[]
 |_,[]=>rfl
 |b,_::l=>nodesL_pS b l
theorem p_kind {L:List Tok}:∀n,Mt aU L 72 me (kind L n)
 |0=>fun _ _ _ _ _ _ _ _ _ _ h=>absurd rfl h
 |n+1=>by
  have ih:=p_kind (L:=L) n
  intro base B w tv nv i f xs hS hn hno
  generalize hr:kind L (n+1) i f=r at hno
  have hb:=hS.bW
  refine ir72_calls fun ρ r0=> ?_
  simp [ir72,r0]
  refine stepTake (s:=[105,110,116]) (w:=w) (nv:=nv) (xs:=xs) (self xs) hS (Tn.refl _ _ _ _) hr (fun w1 hc hS1 hT1 hTT1 hr=> ?_) (fun w1 hc hS1 hT1 hTT1 hr=> ?_)
  ·simp
   exact finU hS1 hTT1 hr
  simp [r0]
  refine stepTake (s:=[98,111,111,108]) (w:=w) (nv:=nv) (xs:=xs) (self xs) hS1 hTT1 hr (fun w1 hc hS1 hT1 hTT1 hr=> ?_) (fun w1 hc hS1 hT1 hTT1 hr=> ?_)
  ·simp
   exact finU hS1 hTT1 hr
  simp [r0]
  refine stepTake (s:=[110,117,108,108]) (w:=w) (nv:=nv) (xs:=xs) (self xs) hS1 hTT1 hr (fun w1 hc hS1 hT1 hTT1 hr=> ?_) (fun w1 hc hS1 hT1 hTT1 hr=> ?_)
  ·simp
   exact finU hS1 hTT1 hr
  simp [r0]
  refine stepTake (s:=[97,114,114,97,121]) (w:=w) (nv:=nv) (xs:=xs) (self xs) hS1 hTT1 hr (fun w2 hc hS2 hT2 hTT2 hr=> ?_) (fun w2 hc hS2 hT2 hTT2 hr=> ?_)
  ·simp [r0]
   refine lit1 hS2 hTT2 hb [91] fun v3 w3 hE3 hS3 hTT3 hv3=> ?_
   simp
   refine stepNeed (A':=aU) (self xs) hS3 hv3 (by simp) hTT3 hr hno (fun c w' hp=>by simpa using hp) ?_
   intro j g nv4 w4 hne hS4 hT4 hTT4 hr
   have hj:=((up_needs _).ok hne).1
   simp [r0]
   refine step0 (A:=aU) (A':=aU) (nv:=nv) (w:=w) (fun _ _=>rfl) (self xs) (fun hno=>ih base B w4 tv nv4 j g xs hS4 (by omega) hno) hTT4 hr hno (fun c w' hp=>by simpa using hp) ?_
   intro _ j5 g5 v5 nv5 w5 hk5 hS5 hT5 hTT5 hv5 hr
   simp [r0]
   refine lit1 hS5 hTT5 hb [93] fun v6 w6 hE6 hS6 hTT6 hv6=> ?_
   simp
   refine stepNeed (A':=aU) (k:=ret) (self xs) hS6 hv6 (by simp) hTT6 (by rw [ret_bnd];exact hr) hno (fun c w' hp=>by simpa using hp) ?_
   intro j7 g7 nv7 w7 hne7 hS7 hT7 hTT7 hr
   simp
   exact finU hS7 hTT7 hr
  simp [r0]
  refine stepTake (s:=[114,101,99,111,114,100]) (w:=w) (nv:=nv) (xs:=xs) (self xs) hS2 hTT2 hr (fun w3 hc hS3 hT3 hTT3 hr=> ?_) (fun w3 hc hS3 hT3 hTT3 hr=> ?_)
  ·simp [r0]
   refine lit1 hS3 hTT3 hb [91] fun v4 w4 hE4 hS4 hTT4 hv4=> ?_
   simp
   refine stepNeed (A':=aU) (self xs) hS4 hv4 (by simp) hTT4 hr hno (fun c w' hp=>by simpa using hp) ?_
   intro j g nv5 w5 hne hS5 hT5 hTT5 hr
   have hj:=((up_needs _).ok hne).1
   simp [r0]
   refine step0 (A:=pS.ansL 9 1) (A':=aU) (m:=listed L n (partM L (kind L n))) (nv:=nv) (w:=w) (fun _ a=>nodesL_pS _ a) (self xs) (fun hno=>p_listed154 (fn_part ih (up_kind n) B) (up_part (up_kind n)) (sz_part (up_kind n)) pS_cells n hS5 (fun b h=>by cases h) (by omega) hno) hTT5 hr hno (fun c w' hp=>by simpa using hp) ?_
   intro _ j6 g6 v6 nv6 w6 hk6 hS6 hT6 hTT6 hv6 hr
   simp [r0]
   refine lit1 hS6 hTT6 hb [93] fun v7 w7 hE7 hS7 hTT7 hv7=> ?_
   simp
   refine stepNeed (A':=aU) (k:=ret) (self xs) hS7 hv7 (by simp) hTT7 (by rw [ret_bnd];exact hr) hno (fun c w' hp=>by simpa using hp) ?_
   intro j8 g8 nv8 w8 hne8 hS8 hT8 hTT8 hr
   simp
   exact finU hS8 hTT8 hr
  simp [r0]
  refine stepTake (s:=[111,110,101,111,102]) (w:=w) (nv:=nv) (xs:=xs) (self xs) hS3 hTT3 hr (fun w3 hc hS3 hT3 hTT3 hr=> ?_) (fun w3 hc hS3 hT3 hTT3 hr=> ?_)
  ·simp [r0]
   refine lit1 hS3 hTT3 hb [91] fun v4 w4 hE4 hS4 hTT4 hv4=> ?_
   simp
   refine stepNeed (A':=aU) (self xs) hS4 hv4 (by simp) hTT4 hr hno (fun c w' hp=>by simpa using hp) ?_
   intro j g nv5 w5 hne hS5 hT5 hTT5 hr
   have hj:=((up_needs _).ok hne).1
   simp [r0]
   refine step0 (A:=pS.ansL 9 1) (A':=aU) (m:=listed L n (partM L (kind L n))) (nv:=nv) (w:=w) (fun _ a=>nodesL_pS _ a) (self xs) (fun hno=>p_listed154 (fn_part ih (up_kind n) B) (up_part (up_kind n)) (sz_part (up_kind n)) pS_cells n hS5 (fun b h=>by cases h) (by omega) hno) hTT5 hr hno (fun c w' hp=>by simpa using hp) ?_
   intro _ j6 g6 v6 nv6 w6 hk6 hS6 hT6 hTT6 hv6 hr
   simp [r0]
   refine lit1 hS6 hTT6 hb [93] fun v7 w7 hE7 hS7 hTT7 hv7=> ?_
   simp
   refine stepNeed (A':=aU) (k:=ret) (self xs) hS7 hv7 (by simp) hTT7 (by rw [ret_bnd];exact hr) hno (fun c w' hp=>by simpa using hp) ?_
   intro j8 g8 nv8 w8 hne8 hS8 hT8 hTT8 hr
   simp
   exact finU hS8 hTT8 hr
  simp [r0]
  refine stepTake (s:=[63]) (w:=w) (nv:=nv) (xs:=xs) (self xs) hS3 hTT3 hr (fun w3 hc hS3 hT3 hTT3 hr=> ?_) (fun w3 hc hS3 hT3 hTT3 hr=> ?_)
  ·simp [r0]
   refine step0 (A:=aU) (A':=aU) (nv:=nv) (w:=w) (k:=ret) (fun _ _=>rfl) (self xs) (fun _=>p_param hS3) hTT3 (by rw [ret_bnd];exact hr) hno (fun c w' hp=>by simpa using hp) ?_
   intro _ j5 g5 v5 nv5 w5 _ hS5 hT5 hTT5 hv5 hr
   simp
   exact finU hS5 hTT5 hr
  simp [r0]
  refine step0 (A:=aS) (A':=aU) (nv:=nv) (w:=w) (fun _ _=>rfl) (self xs) (fun _=>p_name hS3) hTT3 hr hno (fun c w' hp=>by simpa using hp) ?_
  intro s j4 g4 v4 nv4 w4 hna hS4 hT4 hTT4 hv4 hr
  have hj:=(up_name.ok hna).1
  simp [r0]
  refine stepTake (s:=[91]) (w:=w) (nv:=nv) (xs:=xs) (self xs) hS4 hTT4 hr (fun w5 hc hS5 hT5 hTT5 hr=> ?_) (fun w5 hc hS5 hT5 hTT5 hr=> ?_)
  ·simp [r0]
   refine step0 (A:=aU) (A':=aU) (nv:=nv) (w:=w) (fun _ _=>rfl) (self xs) (fun hno=>ih base B w5 tv nv4 (j4+1) g4 xs hS5 (by omega) hno) hTT5 hr hno (fun c w' hp=>by simpa using hp) ?_
   intro _ j6 g6 v6 nv6 w6 hk6 hS6 hT6 hTT6 hv6 hr
   simp [r0]
   refine lit1 hS6 hTT6 hb [93] fun v7 w7 hE7 hS7 hTT7 hv7=> ?_
   simp
   refine stepNeed (A':=aU) (k:=ret) (self xs) hS7 hv7 (by simp) hTT7 (by rw [ret_bnd];exact hr) hno (fun c w' hp=>by simpa using hp) ?_
   intro j8 g8 nv8 w8 hne8 hS8 hT8 hTT8 hr
   simp
   exact finU hS8 hTT8 hr
  ·simp
   exact finU hS5 hTT5 hr
end Go.L02
namespace Go.L02
open Go Go.Eng Go.RowKit
open Go.Proofs hiding encI
open Go.L01 (Bs Tok encT SlT toksV toksV_len toksV_get SlK retT Own.same ownMono retK_c1 retTT Bd)
set_option maxRecDepth 100000
set_option maxHeartbeats 2000000
@[simp] theorem cb73:callB Tryz.prog 73=true:=by kernel_rfl
@[simp] theorem cb89:callB Tryz.prog 89=true:=by kernel_rfl
@[simp] theorem cb90:callB Tryz.prog 90=true:=by kernel_rfl
theorem z114:zeroCellsOf Tryz.prog 114=some #[.pointer none, .slice none 0 0]:=by kernel_rfl
theorem Bd.ext {B b:Nat} {bs:Bs} {w w':World} (h:Bd B b bs w) (hE:Ext w w'):Bd B b bs w':=by
 rcases h with h|h
 all_goals
  have hlt:=h.lt
  obtain ⟨hB,v,hb,hown,hne⟩:=h
  have hr:w'.ownsRow B 5 1 v (bs.map encB).length (bs.map encB):=by
   have:=hown.kept (w':=w') (row:=none) ⟨hE.os,hE.tape,hE.output,hE.size,fun k hk _=>hE.block k hk⟩ (by cases v.ownBlock<;>simp)
   simpa using this
 ·exact .inl ⟨hB,v,(hE.block b hlt).trans hb,hr,hne⟩
 ·exact .inr ⟨hB,v,(hE.block b hlt).trans hb,hr,hne⟩
def Shrt (L:List Tok):Prop:=∀t∈L,t.text.length≤20
theorem joinT_le {L:List Tok} (h:Shrt L):(joinT L).length≤20*L.length:=by
 induction L with
 |nil=>simp [joinT]
 |cons t L ih=>
  have h1:=h t (by simp)
  have h2:=ih fun x hx=>h x (by simp [hx])
  have e:joinT (t::L)=t.text++joinT L:=by simp [joinT]
  rw [e,List.length_append,List.length_cons];omega
theorem joinT_snoc (L:List Tok) (t:Tok):joinT (L++[t])=joinT L++t.text:=by simp [joinT]
theorem p_joined {w:World} {v:Value} {ts:List Tok} (hs:SlK w v ts) (hsh:Shrt ts) (hn:ts.length≤20000):Calls Tryz.prog 73 #[v] w fun e w'=>e= .returned (.string (mkS (joinT ts)))∧Ext w w':=by
 refine ir73_calls fun ρ r0=> ?_
 simp [ir73,r0,hs.is,hs.len]
 refine eff_alloc z114 fun b W hb hE hbk _=> ?_
 have hfresh:Bd b b [] W:= .inl ⟨Nat.le_refl _, .slice none 0 0,hbk.heap,World.ownsRow_nil _ _ _ _,by simp [Value.ownBlock]⟩
 have hbW:=hbk.lt
 simp [r0,hs.is,hs.len]
 refine loopC 8 ts.length (fun k ρ' w'=>ρ' 3= .pointer (some ⟨b,0,none⟩)∧ρ' 6=v∧ρ' 7= .int .i64 (ts.length:Int)∧Bd b b (joinT (ts.take k)) w'∧Below b W w') (by simp) ⟨by simp,by simp,by simp,by simpa [joinT] using hfresh,Below.refl _ _⟩ ?_
 rintro k ρ' w' hk r8 ⟨r3,r6,r7,hB,hBe⟩
 have hEx:∀{w'},Below b W w'→Ext w w':=fun h=>Below.trans hE (h.mono hb)
 have hE':=hEx hBe
 have hs':=hs.ext hE'
 by_cases hlt:k<ts.length
 ·obtain ⟨c0,c1,c2⟩:=hs'.cell k hlt
  have hle:(joinT (ts.take k)).length≤20*k:=by
   have:=joinT_le (L:=ts.take k) (fun t ht=>hsh t (List.mem_of_mem_take ht))
   rw [List.length_take] at this;omega
  have hsl:=hsh ts[k] (List.getElem_mem hlt)
  simp [ir73_l2,ir73_k1,r8,r7,r6,r3,hlt,hs'.is,hs'.len,c0,c1,c2]
  refine eff_alloc z53 fun X W2 hX hE2 hb2 _=> ?_
  simp
  refine eff_storeN (B:=X) (by simp) hb2 (by simp [Value.cells]) (by simp [Value.cells]) (by simpa [Value.cells] using sz53) fun W3 hO3 hb3=> ?_
  simp [Value.cells] at hb3
  have hE3:Ext w' W3:=hO3.ext hE2 hX
  simp [(row3 hb3).2.1,r3]
  refine (L01.b_str ts[k].text (Bd.ext hB hE3) (by omega) (by have:=hBe.size;have:=hE3.size;omega)).mono ?_
  rintro _ W4 ⟨rfl,hB4,hBe4⟩
  simp [ir73_k0,r8,r3,r6,r7,i64w (n:=(k:Int)+1) (by omega)]
  refine ⟨?_,hBe.trans ((hE3.mono (by have:=hBe.size;omega)).trans hBe4)⟩
  have:ts.take (k+1)=ts.take k++[ts[k]]:=by rw [List.take_succ_eq_append_getElem hlt]
  rw [this,joinT_snoc];exact hB4
 ·have hk':k=ts.length:=by omega
  subst hk'
  simp [ir73_l2,ir73_k3,r8,r7,r3]
  rw [List.take_length] at hB
  refine (L01.b_string hB (by have:=hBe.size;omega)).mono ?_
  rintro _ W4 ⟨rfl,hBe4⟩
  simp
  exact hEx (hBe.trans hBe4)
theorem shrt_cut {L:List Tok} (h:Shrt L) (i j:Nat):Shrt (cutT L i j):=fun t ht=>h t (List.mem_of_mem_take (List.mem_of_mem_drop ht))
end Go.L02
namespace Go.L02
open Go Go.Eng Go.RowKit
open Go.Proofs hiding encI
open Go.L01 (Bs Tok encT SlT toksV toksV_len toksV_get SlK retT Own.same ownMono retK_c1 retTT Bd)
set_option maxRecDepth 100000
set_option maxHeartbeats 2000000
theorem slt_lit {W:World} {X:Nat} {l:List Bs} (hb:Blk W X (l.map encT).toArray 9) (hn:l.length≤1000):SlT W (.slice (some ⟨X,0,none⟩) l.length l.length) l:=by
 refine ⟨by simp [isSl],by simp [slLen],by omega,fun j hj=> ?_⟩
 simp only [slAddr,Nat.zero_add]
 rw [hb.cell];simp [hj]
@[simp] theorem cb75:callB Tryz.prog 75=true:=by kernel_rfl
theorem p_isWord (s:Bs) (w:World):Calls Tryz.prog 75 #[.string (mkS s)] w fun e w'=>e= .returned (.bool (wordOps.contains s))∧Ext w w':=by
 refine ir75_calls fun ρ r0=> ?_
 simp [ir75,r0]
 refine eff_lit si51 (by decide) (by decide) (by simp [Value.cells]) fun X W hX hE hb _=> ?_
 simp [Value.cells] at hb
 simp [r0]
 refine (L01.s_contains (l:=wordOps) s (slt_lit (l:=wordOps) (by simpa [wordOps,encT,mkS] using hb) (by decide))).mono ?_
 rintro _ _ ⟨rfl,rfl⟩
 simp
 exact hE
theorem mkS_app (x y:Bs):mkS x++mkS y=mkS (x++y):=by
 apply ByteArray.ext
 show ((mkS x).append (mkS y)).data=_
 rw [ByteArray.append_eq,ByteArray.data_append]
 simp [mkS]
section
variable {base B:Nat} {w w':World} {tv nv nv':Value} {L:List Tok} {i f:Nat} {xs:List NV}
end
end Go.L02
namespace Go.L02
open Go Go.Eng Go.RowKit
open Go.Proofs hiding encI
open Go.L01 (Bs Tok encT SlT toksV toksV_len toksV_get SlK retT Own.same ownMono retK_c1 retTT Bd)
set_option maxRecDepth 100000
set_option maxHeartbeats 2000000
theorem Own.down {b b' e sz:Nat} {w:World} {v:Value} {ys:List Value} (h:Own b e sz w v ys) (hb:b'≤b):Own b' e sz w v ys:=by
 rcases h with h|⟨g,off,n,cap,cur,rfl,h1,h2⟩
 ·exact .inl h
 ·exact .inr ⟨g,off,n,cap,cur,rfl,by omega,h2⟩
structure NVr (B X:Nat) (nv:Value) (W:World) (x:NV):Prop where
 blk:Blk W X (ndV x).toArray 44
 neB:X≠B
 neR:nv.ownBlock≠some X
structure Cu (base B:Nat) (w:World) (tv nv:Value) (L:List Tok) (xs:List NV) (w1:World) (nv1:Value) (i f:Nat) (ys:List NV):Prop where
 st:PSt base B w1 tv nv1 L i f (xs++ys)
 tn:Tn base B nv nv1 w w1
 fr:∀y∈ys,Fresh w y.kv
 b0:base≤w.heap.size
section
variable {base B X:Nat} {w w1 w2:World} {tv nv nv1 nv2:Value} {L:List Tok} {i f j g:Nat} {xs ys zs:List NV} {x:NV}
theorem NVr.turn (h:NVr B X nv1 w1 x) (hT:Tn base B nv1 nv2 w1 w2):NVr B X nv2 w2 x:=⟨hT.blk h.blk h.neB h.neR,h.neB,hT.ne h.blk.lt h.neR⟩
theorem NVr.ext (h:NVr B X nv1 w1 x) (hE:Ext w1 w2):NVr B X nv1 w2 x:=⟨h.blk.ext hE,h.neB,h.neR⟩
theorem Cu.ext (h:Cu base B w tv nv L xs w1 nv1 i f ys) (hE:Ext w1 w2):Cu base B w tv nv L xs w2 nv1 i f ys:=⟨h.st.ext hE,h.tn.extR hE h.b0,h.fr,h.b0⟩
theorem Cu.more (h:Cu base B w tv nv L xs w1 nv1 i f ys) (hS:PSt base B w2 tv nv2 L j g (xs++(ys++zs))) (hT:Tn base B nv1 nv2 w1 w2) (hf:∀z∈zs,Fresh w1 z.kv):Cu base B w tv nv L xs w2 nv2 j g (ys++zs):=
 ⟨hS,h.tn.trans hT,fun y hy=>by
  rcases List.mem_append.1 hy with hy|hy
  ·exact h.fr y hy
  ·exact (hf y hy).mono h.tn.size,h.b0⟩
theorem Cu.size (h:Cu base B w tv nv L xs w1 nv1 i f ys):w.heap.size≤w1.heap.size:=h.tn.size
theorem Cu.keep (h:Cu base B w tv nv L xs w1 nv1 i f ys) (hT:Tn base B nv1 nv2 w1 w2) {b e sz:Nat} {v:Value} {us:List Value} (ho:Own b e sz w1 v us) (h1:e≠44) (h2:e≠85):Own b e sz w2 v us:=h.st.keep hT ho h1 h2
end
section
variable {α β:Type} {A:Ans α} {A':Ans β} {L:List Tok} {m:M α} {k:α→M β} {r:Rs β} {base B X:Nat} {w w1:World} {tv nv nv1:Value} {i f:Nat} {xs ys:List NV} {K:Env→World→Prop} {Q:Ks} {ρ:Env} {d:Option Nat}
end
section
variable {L:List Tok} {base B:Nat} {w w':World} {tv nv nv':Value} {i f:Nat} {xs ys:List NV}
end
end Go.L02
namespace Go.L02
open Go Go.Eng Go.RowKit
open Go.Proofs hiding encI
open Go.L01 (Bs Tok encT SlT toksV toksV_len toksV_get SlK retT Own.same ownMono retK_c1 retTT Bd)
set_option maxRecDepth 100000
set_option maxHeartbeats 2000000
theorem NVr.row {B X:Nat} {nv:Value} {W:World} {x:NV} (h:NVr B X nv W x):Eng.rowAt W ⟨X,0,none⟩ 0 6=some (ndV x):=by
 have:=row_blk h.blk
 simpa [ndV] using this
theorem sz9:sizeIs Tryz.prog 9 1=true:=by kernel_rfl
def kdV (k:Nat) (nm vr ty:Bs) (n:Int) (kv:Value) (kids:List Int):NV:=⟨⟨⟨k,nm,vr,ty,n⟩,kids⟩,kv⟩
end Go.L02
namespace Go.L02
open Go Go.Eng Go.RowKit
open Go.Proofs hiding encI
open Go.L01 (Bs Tok encT SlT toksV toksV_len toksV_get SlK retT Own.same ownMono retK_c1 retTT Bd ifc20 isStr leaves_fn)
set_option maxRecDepth 100000
set_option maxHeartbeats 2000000
section
variable {P:Program} {Q:Ks} {d:Option Nat} {ty:TypeId} {K:Env→World→Prop} {ρ:Env} {w:World}
theorem eff_neqNilI {x:Operand} {t t2:TypeId} (ht:P.underlying t=some (.interface (P.methodsAt t))) (h:evE ρ x= .nilIface) (hk:K (updO ρ d (.bool false)) w):effW P Q d (.binOp .neq t x (.const .nilIface) t2) ty K ρ w:=by
 refine effE_ok (v:= .bool false) (w':=w) ?_ hk
 have:=run_equal_nil_nil (P:=P) (w:=w) t ht
 simp [execOp,effOp,h,eqGuard_nil_constR,binOp,this]
theorem eff_neqNilI' {x:Operand} {t t2 u:TypeId} {v:Value} (ht:P.underlying t=some (.interface (P.methodsAt t))) (h:evE ρ x= .iface u v) (hk:K (updO ρ d (.bool true)) w):effW P Q d (.binOp .neq t x (.const .nilIface) t2) ty K ρ w:=by
 refine effE_ok (v:= .bool true) (w':=w) ?_ hk
 have:=run_equal_held_nil (P:=P) (w:=w) t u v ht
 simp [execOp,effOp,h,eqGuard,binOp,this]
end
noncomputable def jr116 (v:Value):IR:=zq [za 7 (.const v),za 4 (zv 7),za 8 (zv 4),zE 9 (.binOp .neq 20 (zt 8) (.const .nilIface) 20) 4] <| .cond (zv 9) (zq [za 11 (zv 4),zE 12 (.typeAssert (zt 11) 20 153 true) 154,za 10 (zv 12),za 13 (ze 0 (zv 10)),za 14 (ze 1 (zv 10)),zE 5 (.alloc 153) 0,zw 153 (zt 5) (zt 13),za 6 (zv 14),za 16 (zn (zv 6))] <| .seq (.cond (zv 16) (.reg [za 17 (zv 4), .eff none none (.panic (zt 17)) 0]) (.skip)) (ir116_k0)) (.skip)
theorem jr116_ok (v:Value):(comp Tryz.prog Tryz.f116.ntmps ir116_V [5] (swapRec v (Tryz.f116.body.getD .skip))).map IR.norm=some (jr116 v):=by kernel_rfl
theorem jr116_calls {v0 v1 v2 v3:Value} {u:FrameMode} {w:World} {R:Ending→FrameMode→World→Prop} (h:∀ρ:Env,ρ 0=v0→ρ 1=v1→ρ 2=v2→ρ 3=v3→(jr116 (recV u)).wp ⟨Tryz.prog,31,ir116_V,[]⟩ (recK [] (recU u) R) (recKs [] (recU u) R) ρ w):
  CallsDIn Fence.wide 0 Tryz.prog 116 #[v0,v1,v2,v3] u w R:=by
 obtain ⟨ir0,h1,h2⟩:=Option.map_eq_some_iff.1 (jr116_ok (recV u))
 exact callsD_recR (args:= #[v0,v1,v2,v3]) Tryz.func116 (c:=Tryz.f116.body.getD .skip) rfl (by kernel_rfl) h1 h2 (by kernel_rfl) (show rvsOf Tryz.prog ir116_V Tryz.f116.results.toList=some [] by kernel_rfl) (Nat.le_of_ble_eq_true rfl) (h _ rfl rfl rfl rfl)
theorem und153:∃ds,Tryz.prog.underlying 153=some ds∧∀m,ds≠ .interface m:=by
 have h:isStr (Tryz.prog.underlying 153)=true:=by kernel_rfl
 unfold isStr at h
 split at h
 ·rename_i fs he
  exact ⟨_,he,fun m hm=>by cases hm⟩
 ·cases h
theorem z153:zeroCellsOf Tryz.prog 153=some #[]:=by kernel_rfl
theorem sz153:sizeIs Tryz.prog 153 0=true:=by kernel_rfl
theorem z4:zeroCellsOf Tryz.prog 4=some #[.bool false]:=by kernel_rfl
theorem z3:zeroCellsOf Tryz.prog 3=some #[.int .i64 0]:=by kernel_rfl
theorem sz4:sizeIs Tryz.prog 4 1=true:=by kernel_rfl
@[simp] theorem cb54:callB Tryz.prog 54=true:=by kernel_rfl
@[simp] theorem cb116:callB Tryz.prog 116=true:=by kernel_rfl
theorem d116_none {v0 v1 v2 v3:Value} {w:World}:CallsDIn Fence.wide 0 Tryz.prog 116 #[v0,v1,v2,v3] .returning w fun e u' w'=>(∃v,e= .returned v)∧u'= .returning∧w'=w:=by
 refine jr116_calls fun ρ h0 h1 h2 h3=> ?_
 simp [jr116,recV,recU]
 refine eff_neqNilI ifc20 (by simp) ?_
 simp
theorem d116_stray {w:World} {A P N O B:Nat} {tv nv:Value} {a i f n:Nat} (hA:Blk w A #[.int .i64 (a:Int)] 3) (hP:Blk w P #[.pointer (some ⟨B,0,none⟩)] 83) (hN:Blk w N #[.int .i64 (n:Int)] 3) (hO:Blk w O #[.bool true] 4∨Blk w O #[.bool false] 4)
  (hB:Blk w B #[tv, .int .i64 (i:Int), .int .i64 (f:Int),nv] 85) (hnv:isSl nv=true) (hn:n≤slLen nv):
  CallsDIn Fence.wide 0 Tryz.prog 116 #[.pointer (some ⟨A,0,none⟩), .pointer (some ⟨P,0,none⟩), .pointer (some ⟨N,0,none⟩), .pointer (some ⟨O,0,none⟩)] (.panicking strayC) w fun e u' w'=>(∃v,e= .returned v)∧settle u'= .returning∧
   ∃W W2,Ext w W∧Only B W W2∧Blk W2 B #[tv, .int .i64 (a:Int), .int .i64 (f:Int),slSub nv 6 0 n (slCap nv)] 85∧Only O W2 w'∧Blk w' O #[.bool false] 4:=by
 obtain ⟨ds,hu,hd⟩:=und153
 refine jr116_calls fun ρ r0 r1 r2 r3=> ?_
 simp [jr116,recV,recU,strayC]
 refine eff_neqNilI' (u:=153) (v:= .agg #[]) ifc20 (by simp) ?_
 simp
 refine eff_assert (a:=153) (v:= .agg #[]) hu hd (by simp) ?_
 simp
 refine eff_alloc z153 fun X W hX hE hb _=> ?_
 simp
 refine eff_storeN (B:=X) (by simp) hb (by simp [Value.cells]) (by simp [Value.cells]) (by simpa [Value.cells] using sz153) fun W1 hO1 hb1=> ?_
 have hE1:Ext w W1:=hO1.ext hE hX
 have nX:∀{k:Nat} {cs:Array Value} {T:TypeId},Blk w k cs T→k≠X:=fun h=>by have:=h.lt;omega
 simp [ir116_k0]
 refine raw_ord ir116_o5_ok (fun W=>(Blk W A #[.int .i64 (a:Int)] 3∧Blk W P #[.pointer (some ⟨B,0,none⟩)] 83)∧Blk W N #[.int .i64 (n:Int)] 3∧W.cell? ⟨B,3,none⟩=some nv) fun W2 hE2 _=> ?_
 have hE3:=hE1.trans' hE2
 have hB2:=hB.ext hE3
 have c3:W2.cell? ⟨B,3,none⟩=some nv:=by rw [hB2.cell];rfl
 have hJ:(Blk W2 A #[.int .i64 (a:Int)] 3∧Blk W2 P #[.pointer (some ⟨B,0,none⟩)] 83)∧Blk W2 N #[.int .i64 (n:Int)] 3∧W2.cell? ⟨B,3,none⟩=some nv:=⟨⟨hA.ext hE3,hP.ext hE3⟩,hN.ext hE3,c3⟩
 refine ⟨hJ, ?_⟩
 have cA:∀W,((Blk W A #[.int .i64 (a:Int)] 3∧Blk W P #[.pointer (some ⟨B,0,none⟩)] 83)∧Blk W N #[.int .i64 (n:Int)] 3∧W.cell? ⟨B,3,none⟩=some nv)→W.cell? ⟨A,0,none⟩=some (.int .i64 (a:Int))∧W.cell? ⟨P,0,none⟩=some (.pointer (some ⟨B,0,none⟩))∧W.cell? ⟨N,0,none⟩=some (.int .i64 (n:Int))∧W.cell? ⟨B,3,none⟩=some nv:=fun W h=>⟨by rw [h.1.1.cell];rfl,by rw [h.1.2.cell];rfl,by rw [h.2.1.cell];rfl,h.2.2⟩
 simp+contextual -implicitDefEqProofs [ir116_o5,cA,hJ,r0,r1,r2,r3]
 have hcap:=isSl_len_cap hnv
 have hnc:n≤slCap nv:=by omega
 simp [hnv,hnc]
 have bB3:B≠A:=fun e=>by subst e;have:=hA.heap;rw [hB.heap] at this;cases this
 have bBP:B≠P:=fun e=>by subst e;have:=hP.heap;rw [hB.heap] at this;cases this
 have bBN:B≠N:=fun e=>by subst e;have:=hN.heap;rw [hB.heap] at this;cases this
 have bBO:O≠B:=fun e=>by subst e;rcases hO with h|h<;>(have:=h.heap;rw [hB.heap] at this;cases this)
 refine eff_store1 (B:=B) (i:=1) (by simp) hB2 (by simp) (by simp [Value.cells]) (by simp) sz3 fun W3 hO3 hb3=> ?_
 simp at hb3
 refine ⟨⟨⟨hO3.blk hJ.1.1 bB3.symm,hO3.blk hJ.1.2 bBP.symm⟩,hO3.blk hJ.2.1 bBN.symm,by rw [hb3.cell];rfl⟩, ?_⟩
 simp
 have hc2:(slSub nv 6 0 n (slCap nv)).cells= #[slSub nv 6 0 n (slCap nv)]:=isSl_cells (isSl_sub hnv 6 0 n (slCap nv) (Nat.zero_le _) hnc (Nat.le_refl _))
 have h12:(slSub nv 6 0 n (slCap nv)).oneCell=true:=isSl_one (isSl_sub hnv 6 0 n (slCap nv) (Nat.zero_le _) hnc (Nat.le_refl _))
 refine eff_store1 (B:=B) (i:=3) (by simp) hb3 (by simp) (by simpa using hc2) (by simpa using h12) sz29 fun W4 hO4 hb4=> ?_
 simp at hb4
 simp
 have hO5:Blk W4 O #[.bool true] 4∨Blk W4 O #[.bool false] 4:=by
  rcases hO with h|h
  ·exact .inl (hO4.blk (hO3.blk (h.ext hE3) bBO) bBO)
  ·exact .inr (hO4.blk (hO3.blk (h.ext hE3) bBO) bBO)
 rcases hO5 with h|h
 all_goals
  refine eff_store1 (B:=O) (i:=0) (by simp [r3]) h (by simp) (by simp [Value.cells]) (by simp) sz4 fun W5 hO5 hb5=> ?_
  simp at hb5
  exact ⟨rfl,W2,hE3,W4,hO3.trans hO4,hb4,hO5,hb5⟩
theorem Own.take {b e sz n:Nat} {w:World} {v:Value} {ys zs:List Value} (h:Own b e sz w v (ys++zs)) (hl:ys.length=n*sz) (hz:0<sz):Own b e sz w (slSub v sz 0 n (slCap v)) ys:=by
 rcases h with ⟨rfl,h0⟩|⟨g,off,m,cap,cur,rfl,h1,h2,h3,h4,h5,h6,h7⟩
 ·have h1:ys=[]:=(List.append_eq_nil_iff.1 h0).1
  subst h1
  have hn:n=0:=by
   have:=Nat.mul_eq_zero.1 hl.symm
   omega
  subst hn
  exact .inl ⟨by simp [slSub,slCap],rfl⟩
 ·have hle:n*sz≤m*sz:=by rw [←hl,←h3,List.length_append];omega
  have hnm:n≤m:=Nat.le_of_mul_le_mul_right hle hz
  refine .inr ⟨g,off,n,cap,cur, ?_,h1,h2,hl,by omega,h5,h6, ?_⟩
  ·simp [slSub,slCap,Addr.add]
  ·have h8:((cur.toList.drop off).take (m*sz)).take (n*sz)=ys:=by rw [h7,List.take_left' hl]
   rw [←h8,List.take_take,Nat.min_eq_left hle]
structure TnO (base B O:Nat) (nv nv':Value) (w w':World):Prop where
 below:Below base w w'
 block:∀k,k<w.heap.size→k≠B→nv.ownBlock≠some k→k≠O→w'.heap[k]? =w.heap[k]?
 row:∀k,nv'.ownBlock=some k→nv.ownBlock=some k∨w.heap.size≤k
structure TnW (base B:Nat) (nv nv':Value) (w w':World):Prop where
 below:Below base w w'
 block:∀k,k<w.heap.size→k≠B→nv.ownBlock≠some k→w'.heap[k]? =w.heap[k]?
 row:∀k,nv'.ownBlock=some k→nv.ownBlock=some k∨w.heap.size≤k
section
variable {base B O X:Nat} {w w1 w2:World} {tv nv nv1 nv2:Value} {L:List Tok} {i f j g:Nat} {xs ys zs:List NV} {x:NV}
theorem Tn.toW (h:Tn base B nv nv1 w w1):TnW base B nv nv1 w w1:=⟨h.below,h.block,h.row⟩
theorem TnW.trans (h:TnW base B nv nv1 w w1) (k:TnW base B nv1 nv2 w1 w2):TnW base B nv nv2 w w2:=by
 have hs:=h.below.size
 refine ⟨h.below.trans k.below,fun j hj h1 h2=> ?_,fun j hj=> ?_⟩
 ·refine (k.block j (by omega) h1 fun e=> ?_).trans (h.block j hj h1 h2)
  rcases h.row j e with h3|h3
  ·exact h2 h3
  ·omega
 ·rcases k.row j hj with h3|h3
  ·exact h.row j h3
  ·exact .inr (by omega)
theorem TnO.only (h:TnO base B O nv nv1 w w1) (hO:Only X w1 w2) (hX:X=O∨w.heap.size≤X) (hb:base≤X):TnO base B O nv nv1 w w2:=by
 refine ⟨h.below.trans (only_below hO hb),fun k h1 h2 h3 h4=> ?_,h.row⟩
 rw [hO.block k (by rintro rfl;rcases hX with e|e<;>omega)]
 exact h.block k h1 h2 h3 h4
theorem TnO.tn (h:TnO base B O nv nv1 w w1) (hT:Tn base B nv1 nv2 w1 w2):TnO base B O nv nv2 w w2:=by
 have hs:=h.below.size
 refine ⟨h.below.trans hT.below,fun j hj h1 h2 h3=> ?_,fun j hj=> ?_⟩
 ·refine (hT.block j (by omega) h1 fun e=> ?_).trans (h.block j hj h1 h2 h3)
  rcases h.row j e with h4|h4
  ·exact h2 h4
  ·omega
 ·rcases hT.row j hj with h4|h4
  ·exact h.row j h4
  ·exact .inr (by omega)
end
theorem tr_hpn {R:Ending→World→Prop} {l:List Nat} (hl:∀d∈l,d≠gS∧d≠4):∀d∈l,∀ρ v c w,(ksD Tryz.prog [.cell1 4] R).pn (upd ρ d v) c w→(ksD Tryz.prog [.cell1 4] R).pn ρ c w:=by
 intro d hd ρ v c w h
 obtain ⟨h1,h2⟩:=hl d hd
 refine endK_upd h1 (fun w=> ?_) h
 simp [resVals,RV.val,Ne.symm h2]
end Go.L02
namespace Go.L02
open Go Go.Eng Go.RowKit
open Go.Proofs hiding encI
open Go.L01 (Bs Tok encT SlT toksV toksV_len toksV_get SlK retT Own.same ownMono retK_c1 retTT Bd ifc20 isStr leaves_fn)
set_option maxRecDepth 100000
set_option maxHeartbeats 4000000
@[simp] theorem cb273:callB Tryz.prog 273=true:=by kernel_rfl
theorem p_atoi {w:World} {s:Bs} {n:Int} (hs:s.length≤20) (h:Lib.atoiAll s= .ok n):Calls Tryz.prog 273 #[.string (mkS s)] w fun e w'=>Ext w w'∧e= .returned (.tuple #[.int .i64 n, .nilIface]):=by
 refine (Tryz.atoi_ok (mkS s) (by show s.length≤_;omega) n h w).mono ?_
 rintro _ w' ⟨rfl,hw⟩
 refine ⟨?_,rfl⟩
 rcases hw with rfl|⟨t,rfl⟩
 ·exact ext_refl _
 ·exact ⟨rfl,rfl,rfl,by rw [Lib.bytesWorld_size];omega,fun k hk=>Lib.bytesWorld_at_old _ _ _ _ hk⟩
section
variable {L:List Tok} {base B X:Nat} {w w1:World} {tv nv nv1:Value} {i f:Nat} {xs ys:List NV} {K:Env→World→Prop} {Q:Ks} {ρ:Env} {d:Option Nat}
end
theorem TnO.var {base B O X:Nat} {w1 w2:World} {tv nv1 nv2:Value} {L:List Tok} {i f:Nat} {xs:List NV} (hT:TnO base B O nv1 nv2 w1 w2) (h:PSt base B w1 tv nv1 L i f xs) {cs:Array Value} {T:TypeId} (hb:Blk w1 X cs T) (h1:T≠44) (h2:T≠85) (h3:X≠O):Blk w2 X cs T:=
 ⟨(hT.block X hb.lt (h.blkNe hb.heap h2) (h.rowNe hb.heap h1) h3).trans hb.heap⟩
end Go.L02
namespace Go.L02
open Go Go.Eng Go.RowKit
open Go.Proofs hiding encI
open Go.L01 (Bs Tok encT SlT toksV toksV_len toksV_get SlK retT Own.same ownMono retK_c1 retTT Bd ifc20 isStr leaves_fn)
set_option maxRecDepth 100000
set_option maxHeartbeats 4000000
def rv (b:Nat) (t:T):Int:=(b:Int)+t.size - 1
section
variable {L:List Tok} {base B X:Nat} {w w1:World} {tv nv nv1:Value} {i f:Nat} {xs ys:List NV} {K:Env→World→Prop} {Q:Ks} {ρ:Env} {d:Option Nat}
end
end Go.L02
namespace Go.L02
open Go Go.Eng Go.RowKit
open Go.Proofs hiding encI
open Go.L01 (Bs Tok encT SlT toksV toksV_len toksV_get SlK retT Own.same ownMono retK_c1 retTT Bd ifc20 isStr leaves_fn)
set_option maxRecDepth 100000
set_option maxHeartbeats 1000000
section
variable {L:List Tok} {base B X:Nat} {w w1:World} {tv nv nv1:Value} {i f:Nat} {xs ys:List NV} {K:Env→World→Prop} {Q:Ks} {ρ:Env} {d:Option Nat}
end
structure NK (w:World) (B X:Nat) (nv:Value) (W:World) (x:NV) (all:List NV):Prop where
 var:NVr B X nv W x
 own:Own w.heap.size 3 1 W x.kv (x.nd.kids.map encI)
 sep:Sep x.kv all
section
variable {L:List Tok} {base B X:Nat} {w w1 w2:World} {tv nv nv1 nv2:Value} {i f:Nat} {xs ys zs:List NV} {x:NV} {K:Env→World→Prop} {Q:Ks} {ρ:Env} {d:Option Nat}
theorem NK.ext {all:List NV} (h:NK w B X nv1 w1 x all) (hE:Ext w1 w2):NK w B X nv1 w2 x all:=⟨h.var.ext hE,h.own.ext hE,h.sep⟩
end
section
variable {α β:Type} {A:Ans α} {A':Ans β} {L:List Tok} {m:M α} {k:α→M β} {r:Rs β} {base B X:Nat} {w w1:World} {tv nv nv1:Value} {i f:Nat} {xs ys:List NV} {K:Env→World→Prop} {Q:Ks} {ρ:Env} {d:Option Nat}
end
end Go.L02
namespace Go.L02
open Go Go.Eng Go.RowKit
open Go.Proofs hiding encI
open Go.L01 (Bs Tok encT SlT toksV toksV_len toksV_get SlK retT Own.same ownMono retK_c1 retTT Bd ifc20 isStr leaves_fn)
set_option maxRecDepth 100000
set_option maxHeartbeats 1000000
section
variable {L:List Tok} {base B X:Nat} {w w1:World} {tv nv nv1:Value} {i f:Nat} {xs ys:List NV} {K:Env→World→Prop} {Q:Ks} {ρ:Env} {d:Option Nat}
theorem NK.add {w2:World} {nv2:Value} {x z:NV} (h:NK w B X nv1 w1 x (xs++ys)) (hC:Cu base B w tv nv L xs w1 nv1 i f ys) (hT:Tn base B nv1 nv2 w1 w2) (hz:∀k,z.kv.ownBlock=some k→x.kv.ownBlock≠some k):NK w B X nv2 w2 x (xs++(ys++[z])):=
 ⟨h.var.turn hT,hC.keep hT h.own (by decide) (by decide),by rw [←List.append_assoc];exact h.sep.app fun y hy k hk=>(by
  obtain rfl:y=z:=List.mem_singleton.1 hy
  exact hz k hk)⟩
end
end Go.L02
namespace Go.L02
open Go Go.Eng Go.RowKit
open Go.Proofs hiding encI
open Go.L01 (Bs Tok encT SlT toksV toksV_len toksV_get SlK retT Own.same ownMono retK_c1 retTT Bd ifc20 isStr leaves_fn)
set_option maxRecDepth 100000
set_option maxHeartbeats 1000000
theorem bu31 (s:Bs):Tryz.prog.built 44 [(0, .int .u8 31),(1, .string (mkS s))]=some (ndV (kdV 31 s [] [] 0 (.slice none 0 0) [])).toArray:=by kernel_rfl
end Go.L02
namespace Go.L02
open Go Go.Eng Go.RowKit
open Go.Proofs hiding encI
open Go.L01 (Bs Tok encT SlT toksV toksV_len toksV_get SlK retT Own.same ownMono retK_c1 retTT Bd ifc20 isStr leaves_fn)
set_option maxRecDepth 100000
set_option maxHeartbeats 1000000
def SameAt (p:Nat→TypeId→Prop) (w w':World):Prop:=∀k cs T z,w.heap[k]? =some (.cells cs T z)→p k T→w'.heap[k]? =w.heap[k]?
theorem SameAt.mono {p q:Nat→TypeId→Prop} {w w':World} (h:SameAt p w w') (hi:∀k T,q k T→p k T):SameAt q w w':=fun k cs T z h1 h2=>h k cs T z h1 (hi k T h2)
theorem SameAt.trans {p:Nat→TypeId→Prop} {w w' w'':World} (h:SameAt p w w') (h':SameAt p w' w''):SameAt p w w'':=fun k cs T z h1 h2=>by
 have e:=h k cs T z h1 h2
 exact (h' k cs T z (e.trans h1) h2).trans e
theorem SameAt.ext {p:Nat→TypeId→Prop} {w w':World} (h:Ext w w'):SameAt p w w':=fun k _ _ _ h1 _=>h.block k (Array.getElem?_eq_some_iff.1 h1).1
theorem SameAt.only {X:Nat} {w w':World} {cs:Array Value} {TX:TypeId} (h:Only X w w') (hb:Blk w X cs TX):SameAt (fun k T=>k≠X∨T≠TX) w w':=fun k cs' T z h1 h2=>by
 refine h.block k ?_
 rintro rfl
 have:=hb.heap
 rw [h1] at this;cases this
 rcases h2 with h2|h2<;>exact h2 rfl
theorem SameAt.grown {w w':World} {b e sz:Nat} {v:Value} {xs:List Value} (ho:Own b e sz w v xs) (hg:w.grownBy w' v.ownBlock):SameAt (fun k T=>v.ownBlock≠some k∨T≠e) w w':=fun k cs T z h1 h2=>by
 refine hg.block k (Array.getElem?_eq_some_iff.1 h1).1 fun hk=> ?_
 obtain ⟨cur,hc⟩:=Own.row ho hk.symm
 rw [hc] at h1;cases h1
 rcases h2 with h2|h2
 ·exact h2 hk.symm
 ·exact h2 rfl
theorem PSt.sameT {base B:Nat} {w w':World} {tv nv nv':Value} {L:List Tok} {i f:Nat} {xs:List NV} (h:PSt base B w tv nv L i f xs) (hT:Tn base B nv nv' w w'):SameAt (fun k T=>T≠85∧(T≠44∨nv.ownBlock≠some k)) w w':=fun k cs T z h1 h2=>by
 refine hT.block k (Array.getElem?_eq_some_iff.1 h1).1 (h.blkNe h1 h2.1) fun e=> ?_
 rcases h2.2 with h3|h3
 ·exact h.rowNe h1 h3 e
 ·exact h3 e
theorem _root_.Go.Eng.Own.at' {p:Nat→TypeId→Prop} {w w':World} {b e sz:Nat} {v:Value} {xs:List Value} (h:Own b e sz w v xs) (hs:SameAt p w w') (hp:∀k,v.ownBlock=some k→p k e):Own b e sz w' v xs:=Own.same h fun k hk=>by
 obtain ⟨cur,hc⟩:=Own.row h hk
 exact hs k _ _ _ hc (hp k hk)
theorem _root_.Go.Eng.Blk.at' {p:Nat→TypeId→Prop} {w w':World} {X:Nat} {cs:Array Value} {T:TypeId} (h:Blk w X cs T) (hs:SameAt p w w') (hp:p X T):Blk w' X cs T:=⟨(hs X _ _ _ h.heap hp).trans h.heap⟩
def All2 {α β:Type} (C:α→β→Prop):List α→List β→Prop
 |[],[]=>True
 |a::us,b::vs=>C a b∧All2 C us vs
 |_,_=>False
section
variable {α β:Type} {C C':α→β→Prop}
theorem All2.imp (hC:∀a b,C a b→C' a b):∀{us:List α} {vs:List β},All2 C us vs→All2 C' us vs
 |[],[],_=>trivial
 |_::_,_::_,h=>⟨hC _ _ h.1,All2.imp hC h.2⟩
 |[],_::_,h=>h.elim
 |_::_,[],h=>h.elim
theorem All2.len:∀{us:List α} {vs:List β},All2 C us vs→us.length=vs.length
 |[],[],_=>rfl
 |_::_,_::_,h=>by simp [All2.len h.2]
 |[],_::_,h=>h.elim
 |_::_,[],h=>h.elim
theorem All2.get:∀{us:List α} {vs:List β},All2 C us vs→∀(i:Nat) (h1:i<us.length) (h2:i<vs.length),C us[i] vs[i]
 |_::_,_::_,h,0,_,_=>h.1
 |_::_,_::_,h,i+1,h1,h2=>All2.get h.2 i (by simpa using h1) (by simpa using h2)
theorem All2.left {P:α→Prop} (hC:∀a b,C a b→P a):∀{us:List α} {vs:List β},All2 C us vs→∀a∈us,P a
 |[],[],_,a,ha=>by cases ha
 |_::_,_::_,h,a,ha=>by
  rcases List.mem_cons.1 ha with rfl|ha
  ·exact hC _ _ h.1
  ·exact All2.left hC h.2 a ha
 |[],_::_,h,_,_=>h.elim
 |_::_,[],h,_,_=>h.elim
end
def SlC {α:Type} (b T sz:Nat) (C:List Value→α→Prop) (w:World) (v:Value) (l:List α):Prop:=∃css:List (List Value),Own b T sz w v css.flatten∧All2 C css l
def SigC (w:World) (cs:List Value) (s:Sig):Prop:=∃av sv,cs=[.bool s.iter,av, .string (mkS s.result),sv]∧Own 0 9 1 w av (s.args.map encT)∧Own 0 9 1 w sv (s.signals.map encT)
def NeedC (w:World) (cs:List Value) (n:Need):Prop:=∃c,cs= .string (mkS n.op)::c∧SigC w c n.sig
def OpnC (w:World) (cs:List Value) (o:Opn):Prop:=∃c,cs= .string (mkS o.name)::c∧SigC w c o.sig
def NodeC (q:Nat→Prop) (w:World) (v:Value) (l:List Nd):Prop:=∃xs:List NV,xs.map (·.nd)=l∧Own 0 44 6 w v (nvV xs)∧∀x∈xs,Own 0 3 1 w x.kv (x.nd.kids.map encI)∧∀k,x.kv.ownBlock=some k→q k
def RoutC (N:Value→List Nd→Prop) (w:World) (cs:List Value) (r:Rout):Prop:=∃c pv ndv,cs= .string (mkS r.name)::(c++[pv,ndv])∧SigC w c r.sig∧Own 0 9 1 w pv (r.params.map encT)∧N ndv r.nodes
def ModC (N:Value→List Nd→Prop) (w:World) (cs:List Value) (m:Mod):Prop:=∃needv opv rv,cs=[.string (mkS m.face.name), .int .u8 (m.face.kind:Int), .bool m.face.param,needv,opv, .string (mkS m.rep),rv]∧
 SlC 0 132 5 (NeedC w) w needv m.face.needs∧SlC 0 135 5 (OpnC w) w opv m.face.ops∧SlC 0 82 7 (RoutC N w) w rv m.routs
section
variable {p:Nat→TypeId→Prop} {w w':World} {cs:List Value} {v:Value}
theorem SlC.at' {α:Type} {b T sz:Nat} {C C':List Value→α→Prop} {l:List α} (h:SlC b T sz C w v l) (hs:SameAt p w w') (hp:∀k,v.ownBlock=some k→p k T) (hC:∀c a,C c a→C' c a):SlC b T sz C' w' v l:=by
 obtain ⟨css,h1,h2⟩:=h
 exact ⟨css,h1.at' hs hp,h2.imp hC⟩
theorem SigC.at' {s:Sig} (h:SigC w cs s) (hs:SameAt p w w') (hp:∀k,p k 9):SigC w' cs s:=by
 obtain ⟨av,sv,h1,h2,h3⟩:=h
 exact ⟨av,sv,h1,h2.at' hs fun k _=>hp k,h3.at' hs fun k _=>hp k⟩
theorem NeedC.at' {s:Need} (h:NeedC w cs s) (hs:SameAt p w w') (hp:∀k,p k 9):NeedC w' cs s:=by
 obtain ⟨c,h1,h2⟩:=h
 exact ⟨c,h1,h2.at' hs hp⟩
theorem OpnC.at' {s:Opn} (h:OpnC w cs s) (hs:SameAt p w w') (hp:∀k,p k 9):OpnC w' cs s:=by
 obtain ⟨c,h1,h2⟩:=h
 exact ⟨c,h1,h2.at' hs hp⟩
theorem NodeC.at2 {q:Nat→Prop} {l:List Nd} (h:NodeC q w v l) (hs:SameAt p w w') (hp:∀k,q k→p k 3) (h44:∀k,v.ownBlock=some k→p k 44):NodeC q w' v l:=by
 obtain ⟨xs,h1,h2,h3⟩:=h
 exact ⟨xs,h1,h2.at' hs h44,fun x hx=>⟨(h3 x hx).1.at' hs fun k hk=>hp k ((h3 x hx).2 k hk),(h3 x hx).2⟩⟩
theorem NodeC.at' {q:Nat→Prop} {l:List Nd} (h:NodeC q w v l) (hs:SameAt p w w') (hp:∀k,p k 3) (h44:∀k,v.ownBlock=some k→p k 44):NodeC q w' v l:=h.at2 hs (fun k _=>hp k) h44
theorem NodeC.mono {q q':Nat→Prop} {l:List Nd} (h:NodeC q w v l) (hq:∀k,k<w.heap.size→q k→q' k):NodeC q' w v l:=by
 obtain ⟨xs,h1,h2,h3⟩:=h
 exact ⟨xs,h1,h2,fun x hx=>⟨(h3 x hx).1,fun k hk=>hq k ((h3 x hx).1.blk k hk).2 ((h3 x hx).2 k hk)⟩⟩
theorem RoutC.at' {N N':Value→List Nd→Prop} {r:Rout} (h:RoutC N w cs r) (hs:SameAt p w w') (hp:∀k,p k 9) (hN:∀v l,N v l→N' v l):RoutC N' w' cs r:=by
 obtain ⟨c,pv,ndv,h1,h2,h3,h4⟩:=h
 exact ⟨c,pv,ndv,h1,h2.at' hs hp,h3.at' hs fun k _=>hp k,hN _ _ h4⟩
end
section
variable {base B X:Nat} {w w1 w2:World} {tv nv nv1 nv2:Value} {L:List Tok} {i f j g:Nat} {xs ys zs:List NV}
theorem PSt.sep (h:PSt base B w1 tv nv1 L i f xs) {out:Value} {e sz b:Nat} {cs:List Value} (ho:Own b e sz w1 out cs) (he:e≠3):Sep out xs:=fun x hx k hk e2=>by
 obtain ⟨cur,hc⟩:=Own.row (h.kid x hx) hk
 obtain ⟨cur',hc'⟩:=Own.row ho e2
 rw [hc] at hc';cases hc';exact he rfl
end
end Go.L02
namespace Go.L02
open Go Go.Eng Go.RowKit
open Go.Proofs hiding encI
open Go.L01 (Bs Tok encT SlT toksV toksV_len toksV_get SlK retT Own.same ownMono retK_c1 retTT Bd ifc20 isStr leaves_fn)
set_option maxRecDepth 100000
set_option maxHeartbeats 1000000
def PRx {β:Type} (base B:Nat) (tv nv:Value) (L:List Tok) (xs:List NV) (w:World) (V:β→Nat→Nat→Value→World→Prop):Rs β→Ending→World→Prop
 | .oof,_,_=>False
 | .ok a j g,e,w'=>∃v,e= .returned v∧V a j g v w'
 | .no g,e,w'=>∃j nv' ys,e= .panicked strayC∧PSt base B w' tv nv' L j g (xs++ys)∧Tn base B nv nv' w w'
section
variable {α β:Type} {A':Ans β} {L:List Tok} {m:M α} {k:α→M β} {r:Rs β} {base B X:Nat} {w w1:World} {tv nv nv1:Value} {i f:Nat} {xs ys:List NV} {K:Env→World→Prop} {Q:Ks} {ρ:Env} {d:Option Nat}
theorem stepX {V:α→Nat→Nat→Value→World→Prop} {F:FuncId} {args:Array Value} (hm:m i f≠ .oof→Calls Tryz.prog F args w1 (PRx base B tv nv L xs w V (m i f))) (hr:bnd m k i f=r) (ho:r≠ .oof)
  (hpn:∀c w',PR A' base B tv nv L xs w r (.panicked c) w'→Q.pn ρ c w') (h:∀a j g v w2,m i f= .ok a j g→V a j g v w2→k a j g=r→K (updO ρ d v) w2):Calls Tryz.prog F args w1 (callK Q d K ρ):=by
 have hno:m i f≠ .oof:=fun e=>ho (by rw [←hr,bnd_oof e])
 refine (hm hno).mono ?_
 intro e w2 hp
 cases hm':m i f with
 |oof=>exact absurd hm' hno
 |no g=>
  rw [hm'] at hp
  obtain ⟨j,nv2,zs,rfl,hS2,hT2⟩:=hp
  rw [callK_pan]
  refine hpn _ _ ?_
  rw [←hr,bnd_no hm']
  exact ⟨j,nv2,zs,rfl,hS2,hT2⟩
 |ok a j g=>
  rw [hm'] at hp
  obtain ⟨v,rfl,hv⟩:=hp
  rw [callK_ret]
  exact h a j g v w2 hm' hv (by rw [←hr,bnd_ok hm'])
end
def smX (X:Nat):Nat→TypeId→Prop:=fun k T=>T≠85∧T≠44∧k≠X
theorem Cu.sm {base B X:Nat} {w w1 w2:World} {tv nv nv1 nv2:Value} {L:List Tok} {i f:Nat} {xs ys:List NV} (h:Cu base B w tv nv L xs w1 nv1 i f ys) (hT:Tn base B nv1 nv2 w1 w2):SameAt (smX X) w1 w2:=(h.st.sameT hT).mono fun _ _ h=>⟨h.1, .inl h.2.1⟩
end Go.L02
namespace Go.L02
open Go Go.Eng Go.Proofs
set_option maxRecDepth 100000
set_option maxHeartbeats 2000000
noncomputable def ir50_k0:IR:= .cond (zv 24) (zq [za 4 (.const (zb false))] <| .ret) (.skip)
noncomputable def ir50_k1:IR:= .reg [za 13 (zI .add (zv 13) (.const (zk 1)))]
noncomputable def ir50_k2:IR:= .seq (.block 1 (zq [za 5 (zv 13)] <| .seq (.drw [za 24 (zI .neq (zl (zx 1 (zv 0) (zv 5))) (zl (zx 1 (zv 1) (zv 5))))]) (ir50_k0))) (ir50_k1)
noncomputable def ir50_l3:IR:=zq [za 14 (zI .lss (zv 13) (zv 12))] <| .seq (.cond (zv 14) (.skip) (.exit 0)) (ir50_k2)
noncomputable def ir50_k4:IR:=zq [za 4 (.const (zb true))] <| .ret
noncomputable def ir50_k5:IR:=zq [za 12 (zL (zv 0)),za 13 (.const (zk 0))] <| .seq (.block 0 (.loop ir50_l3)) (ir50_k4)
noncomputable def ir50:IR:=zq [za 4 (.const (zb false)),za 10 (zI .neq (zL (zv 0)) (zL (zv 1)))] <| .seq (.cond (zv 10) (zq [za 4 (.const (zb false))] <| .ret) (.skip)) (ir50_k5)
def ir50_V:List Nat:=[0,1,4,5,10,12,13,14,24]
theorem ir50_calls:C2 50 26 ir50_V ir50 [.tmp 4]:=c2 [] Tryz.func50
noncomputable def ir160:IR:=zq [za 4 (.const (zb false)),za 5 (zv 0),za 6 (zv 1),zc 7 229 #[zt 5,zt 6] #[51,9] 3,za 4 (zI .geq (zv 7) (.const (zk 0)))] <| .ret
def ir160_V:List Nat:=[0,1,4,5,6,7]
theorem ir160_calls:C2 160 9 ir160_V ir160 [.tmp 4]:=c2 [] Tryz.func160
noncomputable def ir229_k0:IR:= .reg [za 8 (zI .add (zv 8) (.const (zk 1)))]
noncomputable def ir229_k1:IR:= .seq (.block 1 (zq [za 5 (zv 8),za 16 (zS .eql (zv 1) (zl (zx 1 (zv 0) (zv 5))))] <| .cond (zv 16) (zq [za 4 (zv 5)] <| .ret) (.skip))) (ir229_k0)
noncomputable def ir229_l2:IR:=zq [za 9 (zI .lss (zv 8) (zv 7))] <| .seq (.cond (zv 9) (.skip) (.exit 0)) (ir229_k1)
noncomputable def ir229_k3:IR:=zq [za 4 (.const (.int .i64 (-1)))] <| .ret
noncomputable def ir229:IR:=zq [za 4 (.const (zk 0)),za 7 (zL (zv 0)),za 8 (.const (zk 0))] <| .seq (.block 0 (.loop ir229_l2)) (ir229_k3)
def ir229_V:List Nat:=[0,1,4,5,7,8,9,16]
theorem ir229_calls:C2 229 19 ir229_V ir229 [.tmp 4]:=c2 [] Tryz.func229
end Go.L02
namespace Go.L02
open Go Go.Eng Go.RowKit
open Go.Proofs hiding encI
open Go.L01 (Bs Tok encT SlT toksV toksV_len toksV_get SlK retT Own.same ownMono retK_c1 retTT Bd ifc20 isStr leaves_fn)
set_option maxRecDepth 100000
set_option maxHeartbeats 1000000
theorem agg_cells {cs:List Value} (h:∀c∈cs,c.cells= #[c]):(Value.agg cs.toArray).cells=cs.toArray:=by
 have:∀l:List Value,(∀c∈l,c.cells= #[c])→(l.flatMap fun c=>c.cells.toList)=l:=by
  intro l
  induction l with
  |nil=>intro _;rfl
  |cons a l ih=>
   intro h
   rw [List.flatMap_cons,h a (by simp),ih fun c hc=>h c (by simp [hc])]
   rfl
 apply Array.toList_inj.1
 simp [Value.cells,Array.toList_flatMap,this cs h]
theorem NeedC.len {w:World} {cs:List Value} {s:Need} (h:NeedC w cs s):cs.length=5:=by
 obtain ⟨c,rfl,av,sv,rfl,_⟩:=h;rfl
theorem flatten_len {n:Nat}:∀{css:List (List Value)},(∀c∈css,c.length=n)→css.flatten.length=css.length*n
 |[],_=>by simp
 |c::css,h=>by
  rw [List.flatten_cons,List.length_append,h c (by simp),flatten_len fun c hc=>h c (by simp [hc]),List.length_cons,Nat.add_mul];omega
end Go.L02
namespace Go.L02
open Go Go.Eng Go.RowKit
open Go.Proofs hiding encI
open Go.L01 (Bs Tok encT SlT toksV toksV_len toksV_get SlK retT Own.same ownMono retK_c1 retTT Bd ifc20 isStr leaves_fn)
set_option maxRecDepth 100000
set_option maxHeartbeats 1000000
def Nds (q:Nat→Prop) (w:World) (nv:Value) (xs:List NV) (v:Value) (l:List Nd):Prop:=(v=nv∧l=xs.map (·.nd)∧∀x∈xs,∀k,x.kv.ownBlock=some k→q k)∨(NodeC q w v l∧∀k,v.ownBlock=some k→nv.ownBlock≠some k)
section
variable {base B X:Nat} {w w1 w2:World} {tv nv nv1 nv2 v:Value} {L:List Tok} {i f j g:Nat} {xs xs1 ys:List NV} {l:List Nd}
theorem Nds.at' {q:Nat→Prop} (h:Nds q w nv xs v l) {p:Nat→TypeId→Prop} (hs:SameAt p w w1) (hp:∀k,p k 3) (h44:∀k,nv.ownBlock≠some k→p k 44):Nds q w1 nv xs v l:=by
 rcases h with h|⟨h1,h2⟩
 ·exact .inl h
 ·exact .inr ⟨h1.at' hs hp fun k hk=>h44 k (h2 k hk),h2⟩
end
section
variable {w w1:World} {nv v:Value} {xs:List NV} {l:List Nd} {q q':Nat→Prop} {p:Nat→TypeId→Prop}
theorem Nds.at2 (h:Nds q w nv xs v l) (hs:SameAt p w w1) (hp:∀k,q k→p k 3) (h44:∀k,nv.ownBlock≠some k→p k 44):Nds q w1 nv xs v l:=by
 rcases h with h|⟨h1,h2⟩
 ·exact .inl h
 ·exact .inr ⟨h1.at2 hs hp fun k hk=>h44 k (h2 k hk),h2⟩
theorem Nds.mono (h:Nds q w nv xs v l) (hx:∀x∈xs,∀k,x.kv.ownBlock=some k→k<w.heap.size) (hq:∀k,k<w.heap.size→q k→q' k):Nds q' w nv xs v l:=by
 rcases h with ⟨h1,h2,h3⟩|⟨h1,h2⟩
 ·exact .inl ⟨h1,h2,fun x hx' k hk=>hq k (hx x hx' k hk) (h3 x hx' k hk)⟩
 ·exact .inr ⟨h1.mono hq,h2⟩
end
theorem PSt.kidLt {base B:Nat} {w:World} {tv nv:Value} {L:List Tok} {i f:Nat} {xs:List NV} (h:PSt base B w tv nv L i f xs):∀x∈xs,∀k,x.kv.ownBlock=some k→k<w.heap.size:=fun x hx k hk=>((h.kid x hx).blk k hk).2
section
variable {base B X:Nat} {w w1 w2:World} {tv nv nv1 nv2 v:Value} {L:List Tok} {i f j g:Nat} {xs xs1 ys:List NV} {l:List Nd}
structure Cm (base B:Nat) (w:World) (tv nv:Value) (L:List Tok) (xs:List NV) (w1:World) (nv1:Value) (i f:Nat) (xs1:List NV):Prop where
 st:PSt base B w1 tv nv1 L i f xs1
 ln:xs1.length≤2*i+2
 tn:TnW base B nv nv1 w w1
 nd:∀q v l,Nds q w nv xs v l→Nds q w1 nv1 xs1 v l
 b0:base≤w.heap.size
 fr:∀x∈xs1,x∈xs∨Fresh w x.kv
theorem Cm.trans (h:Cm base B w tv nv L xs w1 nv1 i f xs1) (h':Cm base B w1 tv nv1 L xs1 w2 nv2 j g ys):Cm base B w tv nv L xs w2 nv2 j g ys:=
 ⟨h'.st,h'.ln,h.tn.trans h'.tn,fun q v l hv=>h'.nd q v l (h.nd q v l hv),h.b0,fun y hy=>by
  rcases h'.fr y hy with h1|h1
  ·exact h.fr y h1
  ·exact .inr fun k hk=>Nat.le_trans h.tn.below.size (h1 k hk)⟩
end
section
variable {α β:Type} {A:Ans α} {A':Ans β} {L:List Tok} {m:M α} {k:α→M β} {r:Rs β} {base B X:Nat} {w w0 w1:World} {tv nv nv0 nv1:Value} {i f i0 f0:Nat} {xs xs0 ys:List NV} {K:Env→World→Prop} {Q:Ks} {ρ:Env} {d:Option Nat}
end
section
variable {base B X:Nat} {w w1 w2:World} {tv nv nv1:Value} {L:List Tok} {i f:Nat} {xs xs1:List NV}
theorem Cm.ext (h:Cm base B w tv nv L xs w1 nv1 i f xs1) (hE:Ext w1 w2):Cm base B w tv nv L xs w2 nv1 i f xs1:=
 ⟨h.st.ext hE,h.ln,h.tn.trans (Tn.toW (Tn.ext hE h.st.bW)),fun q v l hv=>(h.nd q v l hv).at' (SameAt.ext (p:=fun _ _=>True) hE) (fun _=>trivial) fun _ _=>trivial,h.b0,h.fr⟩
theorem Cm.block {zs:List NV} {j g:Nat} {nv2:Value} (h:Cu base B w1 tv (.slice none 0 0) L [] w2 nv2 j g zs) (hS:PSt base B w1 tv (.slice none 0 0) L i f []) (hl:zs.length≤2*j+2):Cm base B w1 tv (.slice none 0 0) L [] w2 nv2 j g zs:=by
 refine ⟨by simpa using h.st,hl,h.tn.toW,fun q v l hv=> .inr ?_,h.b0,fun y hy=> .inr (h.fr y hy)⟩
 have hsm:=hS.sameT h.tn
 rcases hv with ⟨rfl,rfl,_⟩|⟨h1,_⟩
 ·exact ⟨⟨[],rfl,Own.nil _ _ _ _,by simp⟩,fun k hk=>by cases hk⟩
 ·refine ⟨h1.at' hsm (fun k=>⟨by decide, .inl (by decide)⟩) fun k _=>⟨by decide, .inr (by simp [Value.ownBlock])⟩,fun k hk e=> ?_⟩
  obtain ⟨us,_,h2,_⟩:=h1
  have h3:=(h2.blk k hk).2
  rcases h.tn.row k e with h4|h4
  ·cases h4
  ·omega
end
end Go.L02
namespace Go.L02
open Go Go.Eng Go.RowKit
open Go.Proofs hiding encI
open Go.L01 (Bs Tok encT SlT toksV toksV_len toksV_get SlK retT Own.same ownMono retK_c1 retTT Bd ifc20 isStr leaves_fn)
set_option maxRecDepth 100000
set_option maxHeartbeats 1000000
def mdA (nm:Bs) (k:Int) (pr:Bool) (nd op:Value) (rep:Bs) (rv:Value):Array Value:= #[.string (mkS nm), .int .u8 k, .bool pr,nd,op, .string (mkS rep),rv]
theorem sz5:sizeIs Tryz.prog 5 1=true:=by kernel_rfl
section
variable {base B X:Nat} {w w1 w2:World} {tv nv nv1 nv2:Value} {L:List Tok} {i f j g:Nat} {xs xs1 ys:List NV} {p:Nat→TypeId→Prop} {N N':Value→List Nd→Prop} {cs:List Value}
theorem ModC.at' {m:Mod} (h:ModC N w cs m) (hs:SameAt p w w1) (h9:∀k,p k 9) (h132:∀k,p k 132) (h135:∀k,p k 135) (h82:∀k,p k 82) (hN:∀v l,N v l→N' v l):ModC N' w1 cs m:=by
 obtain ⟨needv,opv,rv,e,h1,h2,h3⟩:=h
 exact ⟨needv,opv,rv,e,h1.at' hs (fun k _=>h132 k) fun _ _ h=>h.at' hs h9,h2.at' hs (fun k _=>h135 k) fun _ _ h=>h.at' hs h9,h3.at' hs (fun k _=>h82 k) fun _ _ h=>h.at' hs h9 hN⟩
theorem Cm.same (h:Cm base B w tv nv L xs w1 nv1 i f xs1) (hS:PSt base B w tv nv L j g xs):SameAt (fun k T=>T≠85∧T≠44) w w1:=fun k cs T z h1 h2=>
 h.tn.block k (Array.getElem?_eq_some_iff.1 h1).1 (hS.blkNe h1 h2.1) (hS.rowNe h1 h2.2)
theorem Cm.var (h:Cm base B w tv nv L xs w1 nv1 i f xs1) (hS:PSt base B w tv nv L j g xs) {Y:Nat} {cs:Array Value} {T:TypeId} (hb:Blk w Y cs T) (h1:T≠44) (h2:T≠85):Blk w1 Y cs T:=hb.at' (h.same hS) ⟨h2,h1⟩
end
end Go.L02
namespace Go.L02
open Go Go.Eng Go.RowKit
open Go.Proofs hiding encI
open Go.L01 (Bs Tok encT SlT toksV toksV_len toksV_get SlK retT Own.same ownMono retK_c1 retTT Bd ifc20 isStr leaves_fn)
set_option maxRecDepth 100000
set_option maxHeartbeats 1000000
section
variable {base B X:Nat} {w w1 w2:World} {tv nv nv1:Value} {L:List Tok} {i f:Nat} {xs xs1:List NV}
end
structure ClS (L:List Tok) (base B R X:Nat) (w:World) (tv nv v7 v8:Value) (xs:List NV) (nm rep:Bs) (pr:Bool) (names:List Bs) (ws:List Need) (i f:Nat) (nv' rv:Value) (ys:List NV) (css:List (List Value)) (rs:List Rout) (w':World):Prop where
 m:Cm base B w tv nv L xs w' nv' i f ys
 bR:Blk w' R (mdA [] 0 false (.slice none 0 0) (.slice none 0 0) [] (.slice none 0 0)) 66
 bX:Blk w' X (mdA nm 3 pr v8 (.slice none 0 0) rep rv) 66
 own:Own w.heap.size 82 7 w' rv css.flatten
 all:All2 (RoutC (Nds (fun k=>w.heap.size≤k) w' nv' ys) w') css rs
 bd:∀q∈rs,q.sig.args.length≤20001∧q.sig.signals.length≤20001
 nms:Own 0 9 1 w' v7 (names.map encT)
 nds:SlC 0 132 5 (NeedC w') w' v8 ws
 len:rs.length≤i
 Xw:w.heap.size≤X
 Rw:w.heap.size≤R
 RX:R≠X
 nl:names.length≤20001
section
variable {L:List Tok} {base B R X n:Nat} {w:World} {tv nv v7 v8:Value} {xs:List NV} {nm rep:Bs} {pr:Bool} {names:List Bs} {ws:List Need} {r:Rs Mod}
theorem ClS.ext {i f:Nat} {nv' rv:Value} {ys:List NV} {css:List (List Value)} {rs:List Rout} {w1 w2:World} (h:ClS L base B R X w tv nv v7 v8 xs nm rep pr names ws i f nv' rv ys css rs w1) (hE:Ext w1 w2):ClS L base B R X w tv nv v7 v8 xs nm rep pr names ws i f nv' rv ys css rs w2:=
 have hs:SameAt (fun _ _=>True) w1 w2:=SameAt.ext hE
 ⟨h.m.ext hE,h.bR.ext hE,h.bX.ext hE,h.own.ext hE,h.all.imp fun _ _ h=>h.at' hs (fun _=>trivial) fun v l hv=>hv.at' hs (fun _=>trivial) fun _ _=>trivial,h.bd,h.nms.ext hE,h.nds.at' hs (fun _ _=>trivial) fun _ _ h=>h.at' hs fun _=>trivial,h.len,h.Xw,h.Rw,h.RX,h.nl⟩
structure ClN (L:List Tok) (base B R X:Nat) (w:World) (tv nv v7 v8:Value) (xs:List NV) (nm rep:Bs) (pr:Bool) (names:List Bs) (ws:List Need) (i f:Nat) (nv' rv:Value) (ys:List NV) (css:List (List Value)) (rs:List Rout) (k:Nat) (w':World):Prop where
 m:Cm base B w tv nv L xs w' nv' i f ys
 bR:Blk w' R (mdA [] 0 false (.slice none 0 0) (.slice none 0 0) [] (.slice none 0 0)) 66
 bX:∃opv cs2,Blk w' X (mdA nm 3 pr v8 opv rep rv) 66∧Own w.heap.size 135 5 w' opv (List.flatten cs2)∧All2 (OpnC w') cs2 ((opsOf names rs).take k)
 own:Own w.heap.size 82 7 w' rv css.flatten
 all:All2 (RoutC (Nds (fun k=>w.heap.size≤k) w' nv' ys) w') css rs
 nms:Own 0 9 1 w' v7 (names.map encT)
 nds:SlC 0 132 5 (NeedC w') w' v8 ws
theorem ClN.ext {L:List Tok} {base B R X:Nat} {w:World} {tv nv v7 v8:Value} {xs:List NV} {nm rep:Bs} {pr:Bool} {names:List Bs} {ws:List Need} {i f k:Nat} {nv' rv:Value} {ys:List NV} {css:List (List Value)} {rs:List Rout} {w1 w2:World} (h:ClN L base B R X w tv nv v7 v8 xs nm rep pr names ws i f nv' rv ys css rs k w1) (hE:Ext w1 w2):ClN L base B R X w tv nv v7 v8 xs nm rep pr names ws i f nv' rv ys css rs k w2:=by
 have hs:SameAt (fun _ _=>True) w1 w2:=SameAt.ext hE
 obtain ⟨opv,cs2,h1,h2,h3⟩:=h.bX
 exact ⟨h.m.ext hE,h.bR.ext hE,⟨opv,cs2,h1.ext hE,h2.ext hE,h3.imp fun _ _ h=>h.at' hs fun _=>trivial⟩,h.own.ext hE,h.all.imp fun _ _ h=>h.at' hs (fun _=>trivial) fun v l hv=>hv.at' hs (fun _=>trivial) fun _ _=>trivial,h.nms.ext hE,h.nds.at' hs (fun _ _=>trivial) fun _ _ h=>h.at' hs fun _=>trivial⟩
end
end Go.L02
namespace Go.L02
open Go Go.Eng Go.RowKit
open Go.Proofs hiding encI
open Go.L01 (Bs Tok encT SlT toksV toksV_len toksV_get SlK retT Own.same ownMono retK_c1 retTT Bd ifc20 isStr leaves_fn)
set_option maxRecDepth 100000
set_option maxHeartbeats 1000000
theorem ModC.row {N:Value→List Nd→Prop} {w:World} {cs:List Value} {m:Mod} (h:ModC N w cs m):cs.length=7∧∀c∈cs,c.cells= #[c]∧c.oneCell=true:=by
 obtain ⟨needv,opv,rv,rfl,⟨_,h1,_⟩,⟨_,h2,_⟩,⟨_,h3,_⟩⟩:=h
 refine ⟨rfl, ?_⟩
 intro c hc
 simp only [List.mem_cons,List.mem_nil_iff,or_false] at hc
 rcases hc with rfl|rfl|rfl|rfl|rfl|rfl|rfl
 ·exact ⟨rfl,rfl⟩
 ·exact ⟨rfl,rfl⟩
 ·exact ⟨rfl,rfl⟩
 ·exact ⟨isSl_cells h1.isl,isSl_one h1.isl⟩
 ·exact ⟨isSl_cells h2.isl,isSl_one h2.isl⟩
 ·exact ⟨rfl,rfl⟩
 ·exact ⟨isSl_cells h3.isl,isSl_one h3.isl⟩
theorem eff_min {P:Program} {Q:Ks} {d:Option Nat} {ty:TypeId} {K:Env→World→Prop} {ρ:Env} {w:World} {a b:Operand} {k:IntKind} {x y:Int} {ts:Array TypeId} (ha:evE ρ a= .int k x) (hb:evE ρ b= .int k y) (h:K (updO ρ d (.int k (if y<x then y else x))) w):
  effW P Q d (.call {callee:= .builtin .min,args:= #[a,b],argTypes:=ts}) ty K ρ w:=by
 show effE P Q d _ ty K ρ w
 refine effE_ok (v:= .int k (if y<x then y else x)) (w':=w) ?_ h
 simp [execOp,effOp,resolve,invoke,builtin,ha,hb,Builtin.min_,Builtin.min2]
end Go.L02
namespace Go.L02
open Go Go.Eng Go.RowKit
open Go.Proofs hiding encI
open Go.L01 (Bs Tok encT SlT toksV toksV_len toksV_get SlK retT Own.same ownMono retK_c1 retTT Bd ifc20 isStr leaves_fn)
set_option maxRecDepth 100000
set_option maxHeartbeats 2000000
def tryP (_:Nat) (T:TypeId):Prop:=T=3∨T=4∨T=83
def CloR (B:Nat) (tv:Value) (W:World) (ok:Bool) (g:Nat) (Ok:World→Prop) (e:Ending) (w2:World):Prop:=
 SameAt tryP W w2∧Below B W w2∧((ok=true∧e= .returned (.tuple #[])∧Ok w2)∨(ok=false∧e= .panicked strayC∧∃(j:Nat) (nv2:Value),Blk w2 B #[tv, .int .i64 (j:Int), .int .i64 (g:Int),nv2] 85∧isSl nv2=true∧Ok w2))
def TopR (B:Nat) (w:World) (tv:Value) (ok:Bool) (g:Nat) (Ok:World→Prop) (e:Ending) (w':World):Prop:=
 e= .returned (.bool ok)∧Below B w w'∧∃w2,Ok w2∧SameAt (fun _ T=>T≠4∧(ok=true∨T≠85)) w2 w'∧(ok=false→∃a b,Blk w' B #[tv,a, .int .i64 (g:Int),b] 85)
theorem ext_below {B:Nat} {w w':World} (h:Ext w w') (hB:B≤w.heap.size):Below B w w':=⟨h.os,h.tape,h.output,h.size,fun k hk=>h.block k (by omega)⟩
theorem p_triedT {L:List Tok} {base B:Nat} {w:World} {tv nv:Value} {i f g:Nat} (hS:PSt base B w tv nv L i f []) {ok:Bool} {F:FuncId} {caps:Array Value} {Ok:World→Prop} (hcb:callB Tryz.prog F=true) (hcall:∀W,Ext w W→Calls Tryz.prog F caps W (CloR B tv W ok g Ok)):
  Calls Tryz.prog 54 #[.pointer (some ⟨B,0,none⟩), .func (.func F) #[] caps] w (TopR B w tv ok g Ok):=by
 generalize hR:TopR B w tv ok g Ok=R
 refine ir54_calls fun ρ r0 r1 rg=> ?_
 simp [ir54,r0]
 refine eff_box fun A W1 hA hE1 hbA _=> ?_
 simp [Value.cells,r0] at hbA
 simp
 refine eff_alloc z4 fun Y W2 hY hE2 hbY _=> ?_
 simp
 have hS2:=hS.ext (hE1.trans' hE2)
 have hA2:=hbA.ext hE2
 refine raw_ord (hpn:=tr_hpn (by decide)) ir54_o1_ok (fun W=>Blk W A #[.pointer (some ⟨B,0,none⟩)] 83∧Blk W B #[tv, .int .i64 (i:Int), .int .i64 (f:Int),nv] 85) fun W3 hE3 _=> ?_
 have hS3:=hS2.ext hE3
 have hA3:=hA2.ext hE3
 have hJ:Blk W3 A #[.pointer (some ⟨B,0,none⟩)] 83∧Blk W3 B #[tv, .int .i64 (i:Int), .int .i64 (f:Int),nv] 85:=⟨hA3,hS3.blk⟩
 refine ⟨hJ, ?_⟩
 have cA:∀W,(Blk W A #[.pointer (some ⟨B,0,none⟩)] 83∧Blk W B #[tv, .int .i64 (i:Int), .int .i64 (f:Int),nv] 85)→W.cell? ⟨A,0,none⟩=some (.pointer (some ⟨B,0,none⟩))∧W.cell? ⟨B,1,none⟩=some (.int .i64 (i:Int))∧W.cell? ⟨B,3,none⟩=some nv:=fun W h=>⟨by rw [h.1.cell];rfl,by rw [h.2.cell];rfl,by rw [h.2.cell];rfl⟩
 have hisl:=hS.own.isl
 simp+contextual -implicitDefEqProofs [ir54_o1,cA,hJ,hisl]
 have rest:∀(ρ2:Env) (W4:World) (X5 X6:Nat),Ext W3 W4→Blk W4 X5 #[.int .i64 (i:Int)] 3→Blk W4 X6 #[.int .i64 (0:Int)] 3→ρ2 1=ρ 1→ρ2 2= .pointer (some ⟨A,0,none⟩)→ρ2 4= .pointer (some ⟨Y,0,none⟩)→ρ2 5= .pointer (some ⟨X5,0,none⟩)→ρ2 6= .pointer (some ⟨X6,0,none⟩)→ρ2 gS= .tuple #[]→ir54_k0.wp ⟨Tryz.prog,19,ir54_V,dAny⟩ (endK Tryz.prog [.cell1 4] R .returning) (ksD Tryz.prog [.cell1 4] R) ρ2 W4:=by
  intro ρ2 W4 X5 X6 hE4 hb5 hb6 e1 e2 e4 e5 e6 eg
  have hA4:=hA3.ext hE4
  have hY4:=(hbY.ext hE3).ext hE4
  have hE04:Ext w W4:=((hE1.trans' hE2).trans' hE3).trans' hE4
  have hBw:=hS.blk.lt
  have hBY:B≤Y:=by have:=hE1.size;omega
  have hBl4:Below B w W4:=ext_below hE04 (by omega)
  simp [ir54_k0]
  refine eff_defer (f:=116) (caps:= #[.pointer (some ⟨X5,0,none⟩), .pointer (some ⟨A,0,none⟩), .pointer (some ⟨X6,0,none⟩), .pointer (some ⟨Y,0,none⟩)]) (by simp [e2,e4,e5,e6]) trivial ?_
  have eg':ρ2 1000000000= .tuple #[]:=eg
  simp [gS,e1,r1,eg']
  refine eff_callv (f:=F) hcb (fs:= #[]) (caps:=caps) (by simp) ?_
  simp
  refine (hcall W4 hE04).mono ?_
  rintro e w5 ⟨hsm,hbl5,h|h⟩
  ·obtain ⟨rfl,rfl,hOk⟩:=h
   have hY5:=hY4.at' hsm (.inr (.inl rfl))
   simp
   refine eff_store1 (B:=Y) (i:=0) (by simp [e4]) hY5 (by simp) (by simp [Value.cells]) (by simp) sz4 fun W6 hO6 hb6=> ?_
   simp at hb6
   simp [ksD,endK,gS,e4]
   refine leaves_fn (by simp) cb116 (d116_none.mono ?_)
   rintro e u' w' ⟨⟨v,rfl⟩,rfl,rfl⟩
   refine leaves_ret ?_
   have cY:w'.cell? ⟨Y,0,none⟩=some (.bool true):=by rw [hb6.cell];rfl
   simp [retK,resVals,RV.val,e4,cY,tupled,←hR]
   exact ⟨rfl,(hBl4.trans hbl5).trans (only_below hO6 hBY),w5,hOk,(SameAt.only hO6 hY5).mono fun _ _ h=> .inr h.1,by simp⟩
  ·obtain ⟨rfl,rfl,j,nv2,hB5,hsl,hOk⟩:=h
   have hY5:=hY4.at' hsm (.inr (.inl rfl))
   have h55:=hb5.at' hsm (.inl rfl)
   have h56:=hb6.at' hsm (.inl rfl)
   have hA5:=hA4.at' hsm (.inr (.inr rfl))
   simp [ksD,endK,gS,e4]
   refine leaves_fn (by simp) cb116 ((d116_stray (n:=0) h55 hA5 h56 (.inr hY5) hB5 hsl (Nat.zero_le _)).mono ?_)
   rintro e u' w' ⟨⟨v,rfl⟩,hu,W6,W7,hE6,hO7,hb7,hO8,hb8⟩
   show LeavesV _ _ _ _ [] (settle u') w'
   rw [hu]
   refine leaves_ret ?_
   have cY:w'.cell? ⟨Y,0,none⟩=some (.bool false):=by rw [hb8.cell];rfl
   simp [retK,resVals,RV.val,e4,cY,tupled,←hR]
   have bYB:B≠Y:=fun e=>by
    subst e
    have:=hB5.heap;rw [hY5.heap] at this;cases this
   have hY7:=hO7.blk (hY5.ext hE6) (Ne.symm bYB)
   have hB8:=hO8.blk hb7 bYB
   refine ⟨rfl,(((hBl4.trans hbl5).trans (ext_below hE6 (by have:=hB5.lt;omega))).trans (only_below hO7 (Nat.le_refl _))).trans (only_below hO8 hBY),w5,hOk, ?_,fun _=>⟨_,_,hB8⟩⟩
   exact ((SameAt.ext hE6).trans ((SameAt.only hO7 (hB5.ext hE6)).mono fun _ _ h=> .inr (by simpa using h.2))).trans ((SameAt.only hO8 hY7).mono fun _ _ h=> .inr h.1)
 have nvl:slLen nv=0:=by
  have:=(L01.own_cells hS.own).len
  rw [nvV_len] at this;simp at this;omega
 refine ⟨?_, ?_⟩
 ·refine eff_alloc z3 fun X5 W4 hX5 hE4 hb4 hs4=>⟨⟨hA3.ext hE4,(hS3.ext hE4).blk⟩, ?_⟩
  refine eff_alloc z3 fun X6 W5 hX6 hE5 hb5 hs5=>⟨⟨(hA3.ext hE4).ext hE5,((hS3.ext hE4).ext hE5).blk⟩, ?_⟩
  have hS5:=(hS3.ext hE4).ext hE5
  have l5:W3.heap.size≤X5:=hX5
  have l56:X5≠X6:=by omega
  refine eff_store1 (B:=X5) (i:=0) (by simp) (hb4.ext hE5) (by simp) (by simp [Value.cells]) (by simp) sz3 fun W6 hO6 hb6=> ?_
  simp at hb6
  have hA6:=hO6.blk ((hA3.ext hE4).ext hE5) (by have:=hA3.lt;omega)
  have hB6:=hO6.blk hS5.blk (by have:=hS3.blk.lt;omega)
  refine ⟨⟨hA6,hB6⟩, ?_⟩
  refine eff_store1 (B:=X6) (i:=0) (by simp) (hO6.blk hb5 (Ne.symm l56)) (by simp) (by simp [Value.cells]) (by simp) sz3 fun W7 hO7 hb7=> ?_
  simp [nvl] at hb7
  exact rest _ W7 X5 X6 (hO7.ext (hO6.ext (hE4.trans' hE5) l5) (by have:=hE4.size;omega)) (hO7.blk hb6 l56) hb7 (by simp) (by simp) (by simp) (by simp) (by simp) (by simp [gS] at rg⊢;exact rg)
 ·refine eff_alloc z3 fun X6 W4 hX6 hE4 hb4 hs4=>⟨⟨hA3.ext hE4,(hS3.ext hE4).blk⟩, ?_⟩
  refine eff_alloc z3 fun X5 W5 hX5 hE5 hb5 hs5=>⟨⟨(hA3.ext hE4).ext hE5,((hS3.ext hE4).ext hE5).blk⟩, ?_⟩
  have hS5:=(hS3.ext hE4).ext hE5
  have l5:W3.heap.size≤X5:=Nat.le_trans hE4.size hX5
  have l56:X6≠X5:=by omega
  refine eff_store1 (B:=X5) (i:=0) (by simp) hb5 (by simp) (by simp [Value.cells]) (by simp) sz3 fun W6 hO6 hb6=> ?_
  simp at hb6
  have hA6:=hO6.blk ((hA3.ext hE4).ext hE5) (by have:=hA3.lt;omega)
  have hB6:=hO6.blk hS5.blk (by have:=hS3.blk.lt;omega)
  refine ⟨⟨hA6,hB6⟩, ?_⟩
  refine eff_store1 (B:=X6) (i:=0) (by simp) (hO6.blk (hb4.ext hE5) l56) (by simp) (by simp [Value.cells]) (by simp) sz3 fun W7 hO7 hb7=> ?_
  simp [nvl] at hb7
  exact rest _ W7 X5 X6 (hO7.ext (hO6.ext (hE4.trans' hE5) l5) hX6) (hO7.blk hb6 (Ne.symm l56)) hb7 (by simp) (by simp) (by simp) (by simp) (by simp) (by simp [gS] at rg⊢;exact rg)
end Go.L02
namespace Go.L02
open Go Go.Eng Go.RowKit
open Go.Proofs hiding encI
open Go.L01 (Bs Tok encT SlT toksV toksV_len toksV_get SlK retT Own.same ownMono retK_c1 retTT Bd ifc20 isStr leaves_fn scan)
set_option maxRecDepth 100000
set_option maxHeartbeats 2000000
theorem words_short:∀t∈L01.wordsL,t.length≤20:=by decide
theorem signs_short:∀t∈L01.signsL,t.length≤20:=by decide
theorem shrt_good {L:List Tok} (h:Good L):Shrt L:=fun t ht=>by
 have:=h t ht
 unfold L01.right at this
 split at this
 ·unfold L01.isName at this
  simp only [Bool.and_eq_true,decide_eq_true_eq] at this
  omega
 ·split at this
  ·exact words_short _ (List.contains_iff_mem.1 this)
  ·split at this
   ·unfold L01.isNumber at this
    simp only [Bool.and_eq_true,Bool.not_eq_true',Bool.or_eq_false_iff,decide_eq_false_iff_not] at this
    omega
   ·split at this
    ·exact signs_short _ (List.contains_iff_mem.1 this)
    ·cases this
section
variable {α:Type} {A:Ans α} {L:List Tok} {m:M α} {B P:Nat} {w:World} {tv nv:Value} {g:Nat}
def okOf (L:List Tok) (m:M α):Bool:=match bnd m (fun a=>bnd (fin L) fun _=>ret a) 0 0 with| .ok _ _ _=>true|_=>false
def CloOk (A:Ans α) (L:List Tok) (B:Nat) (tv:Value) (m:M α) (w2:World):Prop:=∃(i f:Nat) (nv2:Value) (ys:List NV),PSt B B w2 tv nv2 L i f ys∧∀a j g,okOf L m=true→m 0 0= .ok a j g→ys.map (·.nd)=A.nodes 0 a∧j≤L.length
def farOf (L:List Tok) (m:M α):Nat:=match bnd m (fun a=>bnd (fin L) fun _=>ret a) 0 0 with| .no g=>g| .ok _ _ g=>g| .oof=>0
end
theorem p_71 {L:List Tok} {m:M Unit} (hm:Mt aU L 72 me m) (hno:m 0 0≠ .oof) {B P:Nat} {w:World} {tv:Value} (hS:PSt B B w tv (.slice none 0 0) L 0 0 []) (hP:Blk w P #[.pointer (some ⟨B,0,none⟩)] 83):
  Calls Tryz.prog 71 #[.pointer (some ⟨P,0,none⟩)] w (CloR B tv w (okOf L m) (farOf L m) (CloOk aU L B tv m)):=by
 refine ir71_calls fun ρ r0=> ?_
 have cP:w.cell? ⟨P,0,none⟩=some (.pointer (some ⟨B,0,none⟩)):=by rw [hP.cell];rfl
 simp [ir71,r0,cP]
 have sm:∀{nv2:Value} {w2:World},Tn B B (.slice none 0 0) nv2 w w2→SameAt tryP w w2:=fun hT=>(hS.sameT hT).mono fun k T h=>by
  rcases h with rfl|rfl|rfl<;>exact ⟨by decide, .inl (by decide)⟩
 refine (hm B B w tv _ 0 0 [] hS (by simp) hno).mono ?_
 intro e w2 hp
 cases h:m 0 0 with
 |oof=>exact absurd h hno
 |no g=>
  rw [h] at hp
  obtain ⟨j,nv2,ys,rfl,hS2,hT2⟩:=hp
  have e1:okOf L m=false:=by simp [okOf,bnd,h,Rs.andThen]
  have e2:farOf L m=g:=by simp [farOf,bnd,h,Rs.andThen]
  rw [e1,e2]
  refine ⟨sm hT2,hT2.below, .inr ⟨rfl,rfl,j,nv2,hS2.blk,hS2.own.isl,j,g,nv2,_,hS2,fun a j g _ h2=> ?_⟩⟩
  cases h.symm.trans h2
 |ok t j g=>
  rw [h] at hp
  obtain ⟨v,nv2,ys,rfl,hS2,hnd,_,hT2,hv⟩:=hp
  have hP2:=hP.at' (sm hT2) (.inr (.inr rfl))
  have cP2:w2.cell? ⟨P,0,none⟩=some (.pointer (some ⟨B,0,none⟩)):=by rw [hP2.cell];rfl
  simp [r0,cP2]
  refine ⟨by kernel_rfl,(p_end hS2).mono ?_⟩
  intro e w3 hp3
  cases h3:fin L j g with
  |oof=>rw [h3] at hp3;exact hp3.elim
  |no g3=>
   rw [h3] at hp3
   obtain ⟨j3,nv3,ys3,rfl,hS3,hT3⟩:=hp3
   have e1:okOf L m=false:=by simp [okOf,bnd,h,h3,Rs.andThen]
   have e2:farOf L m=g3:=by simp [farOf,bnd,h,h3,Rs.andThen]
   rw [e1,e2]
   simp
   exact ⟨sm (hT2.trans hT3),(hT2.trans hT3).below, .inr ⟨rfl,rfl,j3,nv3,hS3.blk,hS3.own.isl,j3,g3,nv3,_,hS3,fun a j g h2=>by rw [e1] at h2;cases h2⟩⟩
  |ok u j3 g3=>
   rw [h3] at hp3
   obtain ⟨v3,nv3,ys3,rfl,hS3,hnd3,_,hT3,hv3⟩:=hp3
   have e1:okOf L m=true:=by simp [okOf,bnd,h,h3,ret,Rs.andThen]
   have e2:farOf L m=g3:=by simp [farOf,bnd,h,h3,ret,Rs.andThen]
   rw [e1,e2]
   obtain rfl:ys3=[]:=by simpa [aU] using hnd3
   simp
   refine ⟨sm (hT2.trans hT3),(hT2.trans hT3).below, .inl ⟨rfl,rfl,j3,g3,nv3,ys,by simpa using hS3,fun a j g _ h2=> ?_⟩⟩
   obtain ⟨_,rfl,_⟩:=Rs.ok.inj (h.symm.trans h2)
   exact ⟨hnd,hS2.il⟩
end Go.L02
namespace Go.L02
open Go Go.Eng Go.RowKit
open Go.Proofs hiding encI
open Go.L01 (Bs Tok encT SlT toksV toksV_len toksV_get SlK retT Own.same ownMono retK_c1 retTT Bd ifc20 isStr leaves_fn scan fV ScanR)
set_option maxRecDepth 100000
set_option maxHeartbeats 2000000
@[simp] theorem cbY53:callB Tryz.prog 53=true:=by kernel_rfl
@[simp] theorem cbY64:callB Tryz.prog 64=true:=by kernel_rfl
@[simp] theorem cbY76:callB Tryz.prog 76=true:=by kernel_rfl
theorem scanF_bad:∀(n:Nat) (s:Bs) (l e m:Int),L01.scanF n s l= .bad e m→e≠0
 |0,_,_,_,_,h=>by cases h
 |_+1,[],_,_,_,h=>by cases h
 |n+1,c::r,l,e,m,h=>by
  have add:∀{o c:_} {x:L01.Res},x.add o c= .bad e m→x= .bad e m:=fun {o c x} h=>by cases x<;>simpa [L01.Res.add] using h
  unfold L01.scanF at h
  split at h
  ·exact scanF_bad n _ _ _ _ h
  ·split at h
   ·exact scanF_bad n _ _ _ _ h
   ·split at h
    ·exact scanF_bad n _ _ _ _ (add h)
    ·split at h
     ·rename_i h1
      simp only [L01.Res.bad.injEq] at h
      rw [←h.1];exact h1
     ·exact scanF_bad n _ _ _ _ (add h)
theorem scan_bad {s:Bs} {e l:Int} (h:scan s= .bad e l):e≠0:=by
 unfold L01.scan at h
 split at h
 ·simp only [L01.Res.bad.injEq] at h
  rw [←h.1];decide
 ·exact scanF_bad _ _ _ _ _ h
theorem bu85 {v:Value} (h:isSl v=true):Tryz.prog.built 85 [(0,v)]=some #[v, .int .i64 0, .int .i64 0, .slice none 0 0]:=by
 rcases isSl_cases h with ⟨b,o,n,c,rfl,_⟩|rfl|⟨b,o,s,rfl⟩<;>kernel_rfl
theorem z83:zeroCellsOf Tryz.prog 83=some #[.pointer none]:=by kernel_rfl
theorem sz83:sizeIs Tryz.prog 83 1=true:=by kernel_rfl
theorem ext_bl {B:Nat} {w w1 w2:World} (h:Ext w w1) (h2:Below B w1 w2) (hB:w.heap.size≤B):Ext w w2:=⟨h2.os.trans h.os,h2.tape.trans h.tape,h2.output.trans h.output,Nat.le_trans h.size h2.size,fun k hk=>(h2.block k (by omega)).trans (h.block k hk)⟩
theorem p_IsType {w:World} (hG:L01.G w) (s:Bs) (hs:s.length<4611686018427387904):Calls Tryz.prog 22 #[.string (mkS s)] w fun e w'=>e= .returned (.bool (isType s))∧Ext w w':=by
 refine ir22_calls fun ρ r0=> ?_
 simp -implicitDefEqProofs [ir22,r0]
 refine (L01.t_Scan hG s hs).mono ?_
 rintro _ w1 ⟨v,rfl,hv,hE1⟩
 simp -implicitDefEqProofs [fV]
 refine eff_alloc L01.z31 fun F w2 hF hE2 hb2 _=> ?_
 simp -implicitDefEqProofs
 refine eff_storeN (B:=F) (by simp) hb2 (by simp [Value.cells]) (by simp [Value.cells]) (by simpa [Value.cells] using L01.sz31) fun w3 hO3 hb3=> ?_
 simp [Value.cells] at hb3
 have hE3:Ext w w3:=(hO3.ext hE2 hF)|>hE1.trans'
 have hc0:w3.cell? ⟨F,0,none⟩=some (.int .i64 (scan s).err):=by rw [hb3.cell];rfl
 simp -implicitDefEqProofs [hc0,r0]
 by_cases hbad:(scan s).err=0∧s.length≤100
 ·obtain ⟨he,h100⟩:=hbad
  have h100':¬(100:Int)<(s.length:Int):=by omega
  obtain ⟨ts,cs,hok⟩:∃ts cs,scan s= .ok ts cs:=by
   cases h:scan s with
   |ok ts cs=>exact ⟨ts,cs,rfl⟩
   |bad e l=>rw [h] at he;exact absurd he (scan_bad h)
  rw [hok] at hv
  have hv':Own w.heap.size 53 3 w1 v (toksV ts):=hv
  have hgood:=good_scan hok
  have htl:ts.length≤20000:=by have:=(L01.scan_le s).1;rw [hok] at this;exact this
  have his:=hv'.isl
  have hic:=isSl_cells his
  simp -implicitDefEqProofs [he,h100',ir22_k0,bu85 his]
  refine eff_box fun B w4 hB hE4 hb4 _=> ?_
  simp -implicitDefEqProofs [Value.cells,hic] at hb4⊢
  refine eff_alloc z83 fun P w5 hP hE5 hb5 _=> ?_
  simp -implicitDefEqProofs
  refine eff_storeN (B:=P) (by simp) hb5 (by simp [Value.cells]) (by simp [Value.cells]) (by simpa [Value.cells] using sz83) fun w6 hO6 hb6=> ?_
  simp -implicitDefEqProofs [Value.cells] at hb6
  have cP:w6.cell? ⟨P,0,none⟩=some (.pointer (some ⟨B,0,none⟩)):=by rw [hb6.cell];rfl
  have hE46:Ext w4 w6:=hO6.ext hE5 hP
  have hE36:Ext w3 w6:=hE4.trans' hE46
  have hv6:=((hv'.ext ((hO3.ext hE2 hF))).ext hE36)
  have hB6:=hb4.ext hE46
  have hS:PSt B B w6 v (.slice none 0 0) ts 0 0 []:=⟨hB6,Own.down hv6 (Nat.zero_le _),Own.nil _ _ _ _,by simp,Nat.le_refl _,Nat.le_of_lt hB6.lt,htl,Nat.zero_le _,Nat.zero_le _⟩
  simp -implicitDefEqProofs [cP]
  have hkn:kind ts (ts.length+3) 0 0≠ .oof:=kind_end (Nat.le_refl _) 0
  refine (p_triedT hS (by kernel_rfl) fun W hE=>p_71 (p_kind (ts.length+3)) hkn (hS.ext hE) (hb6.ext hE)).mono ?_
  rintro _ w7 ⟨rfl,hBl,w8,_,hsm,_⟩
  have hB3:w3.heap.size≤B:=hB
  have hE7:Ext w w7:=by
   exact ext_bl (hE3.trans' hE36) hBl (by have:=hE3.size;omega)
  have hok2:okOf ts (kind ts (ts.length+3))=(match kind ts (ts.length+3) 0 0 with| .ok _ j _=>decide (ts.length≤j)|_=>false):=by
   unfold okOf bnd
   cases h:kind ts (ts.length+3) 0 0 with
   |oof=>rfl
   |no g=>rfl
   |ok u j g=>
    simp only [Rs.andThen,bnd,fin]
    by_cases hj:j<ts.length
    ·simp [hj,Rs.andThen]
    ·simp [hj,Rs.andThen,ret];omega
  have hty:isType s=(okOf ts (kind ts (ts.length+3))&&decide (joinT ts=s)):=by
   unfold isType
   rw [hok,hok2]
   simp [h100]
   rfl
  cases hk:okOf ts (kind ts (ts.length+3)) with
  |false=>
   rw [hk] at hty
   simp -implicitDefEqProofs [hty]
   exact hE7
  |true=>
   rw [hk] at hty hsm
   have hv7:Own w.heap.size 53 3 w7 v (toksV ts):=Own.same hv6 fun k hk=>hBl.block k (by have:=(hv'.blk k hk).2;have:=hE2.size;have:=hO3.size;omega)
   simp -implicitDefEqProofs [hty]
   refine (p_joined (SlK.own hv7 (by omega)) (shrt_good hgood) htl).mono ?_
   rintro _ w9 ⟨rfl,hE9⟩
   simp -implicitDefEqProofs [r0]
   exact ⟨mkS_inj,hE7.trans' hE9⟩
 ·have hfalse:isType s=false:=by
   unfold isType
   split
   ·rename_i ts cs h
    have:¬s.length≤100:=fun h1=>hbad ⟨by rw [h];rfl,h1⟩
    simp [this]
   ·rfl
  rw [hfalse]
  have hor:((scan s).err=0→(100:Int)<s.length):=fun h=>by
   have:¬s.length≤100:=fun h1=>hbad ⟨h,h1⟩
   omega
  by_cases he:(scan s).err=0
  ·have:=hor he
   simp -implicitDefEqProofs [he,this]
   exact hE3
  ·simp -implicitDefEqProofs [he]
   exact hE3
end Go.L02
