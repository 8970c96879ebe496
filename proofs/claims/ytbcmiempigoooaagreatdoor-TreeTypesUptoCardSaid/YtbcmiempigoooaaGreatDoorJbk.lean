/- Texts of mine for the claims about layer 2 (tree), joined: L1B, L1A, L1C. -/
import Derived.Test.YtbcmiempigoooaaGreatDoorJbj
import Derived.Lib.Walk
import Derived.WalkKit
import Derived.Laws.Externs
import Derived.Laws.Pointers
set_option linter.all false
set_option linter.unusedSimpArgs false
set_option linter.unusedVariables false
namespace Go.L01
open Go Go.Eng Go.RowKit Go.Proofs
set_option maxRecDepth 100000
set_option maxHeartbeats 2000000
theorem cb177:callB Tryz.prog 177=true:=by kernel_rfl
theorem sz67:sizeIs Tryz.prog 112 1=true:=by kernel_rfl
theorem si67:sliceInfo Tryz.prog 112=some (5,1):=by kernel_rfl
theorem info69:∃j,Tryz.prog.info? 114=some j∧j.size=2:=by
 obtain ⟨j,h1,h2⟩:=Option.map_eq_some_iff.1 Tryz.extra169.sizeBuilder
 exact ⟨j,h1,h2⟩
theorem info5:∃i,Tryz.prog.info? 5=some i∧i.zero=some (.int .u8 0)∧i.size=1∧i.bytes=1:=by
 have h:=Tryz.extra169.infoByte
 obtain ⟨i,h1,h2⟩:=Option.map_eq_some_iff.1 h
 simp only [Prod.mk.injEq] at h2
 exact ⟨i,h1,h2.1,h2.2.1,h2.2.2⟩
abbrev Bd (B b:Nat) (bs:Bs) (w:World):Prop:=Lib.IsBuilder 114 5 B b (bs.map encB) w
theorem byteCells_enc (l:Bs):Lib.byteCells l=l.map encB:=by
 simp [Lib.byteCells,encB]
theorem strCells_enc (s:ByteArray):Lib.strCells s=s.data.toList.map encB:=by
 simp [Lib.strCells,encB]
theorem b_used (b:Nat) (w:World) (h0:w.cell? ⟨b,0,none⟩=some (.pointer (some ⟨b,0,none⟩))):
  Calls Tryz.prog 177 #[.pointer (some ⟨b,0,none⟩)] w fun e w'=>e= .returned (.tuple #[])∧w'=w:=by
 obtain ⟨j,hj,_⟩:=info69
 go_enter Tryz.func177,Tryz.ntmps177
 go_wp2
 rw [Lib.run_neq_ptr_same w _ Tryz.underlying111 hj]
 go_wp2
 go_end0
 exact ⟨rfl,rfl⟩
theorem b_fresh (b:Nat) (w:World) (h0:w.cell? ⟨b,0,none⟩=some (.pointer none)) (hsh:w.shape? b=some (114,2)) (hfz:w.frozen? ⟨b,0,none⟩=false):
  Calls Tryz.prog 177 #[.pointer (some ⟨b,0,none⟩)] w fun e w'=>e= .returned (.tuple #[])∧w'=w.setCell ⟨b,0,none⟩ (.pointer (some ⟨b,0,none⟩)):=by
 obtain ⟨j,hj,hjs⟩:=info69
 go_enter Tryz.func177,Tryz.ntmps177
 go_wp2
 rw [Lib.run_to_unsafe w ⟨b,0,none⟩ Tryz.underlying111 Tryz.underlying254 hj (by rw [hjs];decide) hsh (Nat.zero_lt_succ 1)]
 simp only [Result.andThen]
 rw [Oper.upon_value]
 go_wp2
 rw [run_callFunc_extern Tryz.func247 (by kernel_rfl) (by kernel_rfl) (by kernel_rfl) (e:=Extern.AbiNoEscape.same) (by kernel_rfl),Lib.run_noEscape]
 simp only [Result.andThen]
 rw [Oper.upon_value]
 go_wp2
 rw [Lib.run_from_unsafe w ⟨b,0,none⟩ Tryz.underlying254 Tryz.underlying111 hj hsh Tryz.extra169.liesBuilder]
 simp only [Result.andThen]
 rw [Oper.upon_value]
 go_wp2
 go_end0
 exact ⟨rfl,rfl⟩
theorem b_check {w:World} {B b:Nat} {bs:List Value} (h:Lib.IsBuilder 114 5 B b bs w):
  Calls Tryz.prog 177 #[.pointer (some ⟨b,0,none⟩)] w fun e w'=>e= .returned (.tuple #[])∧Lib.BuilderAt 114 5 B b (.pointer (some ⟨b,0,none⟩)) bs w'∧Below B w w':=by
 rcases h with h|h
 ·refine (b_fresh b w h.cell0 h.shape h.frozen0).mono ?_
  rintro _ _ ⟨rfl,rfl⟩
  exact ⟨rfl,h.used _,(Below.refl B w).setCell (p:=⟨b,0,none⟩) h.1 _⟩
 ·refine (b_used b w h.cell0).mono ?_
  rintro _ _ ⟨rfl,rfl⟩
  exact ⟨rfl,h,Below.refl B _⟩
theorem put_at {w:World} {B b:Nat} {p v v':Value} {bs':List Value} (hB:B≤b) (hb:Blk w b #[p,v] 114) (hown:w.ownsRow B 5 1 v' bs'.length bs'):∀W,Only b w W→Blk W b #[p,v'] 114→Lib.BuilderAt 114 5 B b p bs' W:=by
 intro W hO hW
 have hne:=Lib.ownBlock_ne hown hb.heap (by decide)
 exact ⟨hB,v',hW.heap,hown.kept (only_grownBy hO) (.inr hne),hne⟩
theorem b_str {w:World} {B b:Nat} {bs:Bs} (s:Bs) (h:Bd B b bs w) (hlen:bs.length+s.length≤100000000) (hBw:B≤w.heap.size):
  Calls Tryz.prog 89 #[.pointer (some ⟨b,0,none⟩), .string (mkS s)] w fun e w'=>e= .returned (.tuple #[.int .i64 s.length, .nilIface])∧Bd B b (bs++s) w'∧Below B w w':=by
 refine ir89_calls fun ρ h0 h1=> ?_
 simp [ir89,h0,cb177]
 refine (b_check h).mono ?_
 rintro _ w1 ⟨rfl,⟨hB,v,hbk,hown,hne⟩,hb1⟩
 have hb:Blk w1 b #[.pointer (some ⟨b,0,none⟩),v] 114:=⟨hbk⟩
 simp [h0,h1,hb.cell]
 obtain ⟨i,hi,hz,hs,hby⟩:=info5
 have hBs:=hb1.size
 have hlt:=hb.lt
 have hsz:(mkS s).size=s.length:=rfl
 obtain ⟨v',W3,hr,hown3,hg3,_⟩:=Lib.run_append_own_string (P:=Tryz.prog) w1 B 112 9 112 5 i Tryz.underlying112 Tryz.underlying9 hi hz hs hby v bs.length (bs.map encB) (by simpa using hown) (mkS s) (by rw [hsz];simp only [maxLen];omega) (by rw [hsz];omega) (by omega)
 have hown3':W3.ownsRow B 5 1 v' ((bs++s).map encB).length ((bs++s).map encB):=by simpa [strCells_enc] using hown3
 have hb3:Blk W3 b #[.pointer (some ⟨b,0,none⟩),v] 114:=⟨(hg3.block b hlt (fun e=>hne e.symm)).trans hbk⟩
 refine effE_ok (v:=v') (w':=W3) (by simp [execOp,effOp,resolve,invoke,builtin,hr]) ?_
 have hv1:v'.cells= #[v']∧v'.oneCell=true:=by
  rcases hown3'.2 with ⟨rfl,_⟩|⟨g,cap,cur,rfl,_⟩<;>exact ⟨rfl,rfl⟩
 simp
 refine eff_store1 (B:=b) (i:=1) (by simp) hb3 (by simp) (by simp;exact hv1.1) (by simp;exact hv1.2) sz67 fun W4 hO4 hb4=> ?_
 simp [h1] at hb4⊢
 refine ⟨.inr (put_at hB hb3 hown3' W4 hO4 hb4), ?_⟩
 have h3:Below B w W3:=hb1.grown hg3 (by omega) fun k hk=>(hown.lt k hk).1
 exact Below.trans h3 (only_below hO4 hB)
theorem b_string {w:World} {B b:Nat} {bs:Bs} (h:Bd B b bs w) (hBw:B≤w.heap.size):
  Calls Tryz.prog 90 #[.pointer (some ⟨b,0,none⟩)] w fun e w'=>e= .returned (.string (mkS bs))∧Below B w w':=by
 have h':Lib.IsBuilder 114 5 B b (Lib.byteCells bs) w:=by rw [byteCells_enc];exact h
 exact (Tryz.b_string B b bs w h' hBw).mono fun e w' hh=>⟨hh.1,hh.2⟩
end Go.L01
namespace Go.L01
open Go Go.Eng Go.RowKit Go.Proofs
set_option maxRecDepth 100000
set_option maxHeartbeats 2000000
structure G (w:World):Prop where
 sp:∀c:Nat,c<256→w.cell? ⟨3,c,none⟩=some (.int .u8 (if Lib.isSp (UInt8.ofNat c) then 1 else 0))
 pow : Lib.TabIs Tryz.prog w "internal/strconv.uint64pow10" .u64 Lib.pow10Tab
 es:∃te pe,w.cell? ⟨5,0,none⟩=some (.iface te pe)
 er:∃te pe,w.cell? ⟨6,0,none⟩=some (.iface te pe)
theorem G.ext {w w':World} (h:G w) (hE:Ext w w'):G w':=by
 refine ⟨fun c hc=>hE.cell (h.sp c hc), ?_,let ⟨te,pe,h1⟩:=h.es;⟨te,pe,hE.cell h1⟩,let ⟨te,pe,h1⟩:=h.er;⟨te,pe,hE.cell h1⟩⟩
 have hp:=h.pow
 unfold Lib.TabIs World.var? at hp⊢
 cases hg : Tryz.prog.globalNamed "internal/strconv.uint64pow10" with
 |none=>rw [hg] at hp;cases hp
 |some g=>
  rw [hg] at hp
  simp only [Option.bind_some] at hp⊢
  cases hh:w.heap[g]? with
  |none=>rw [hh] at hp;cases hp
  |some o=>rw [hE.block g (Array.getElem?_eq_some_iff.1 hh).1];exact hp
def encT (b:Bs):Value:= .string (mkS b)
abbrev SlT (w:World) (v:Value) (l:List Bs):Prop:=Sl encT w v l
@[simp] theorem mkS_get (b:Bs) (i:Nat):(mkS b)[i]? =b[i]? :=by
 show (mkS b).data[i]? =_
 simp [mkS]
theorem str_get {b:Bs} {i:Nat} (h:i<b.length):((mkS b)[i]?).map (fun c:UInt8=>Value.int .u8 c.toNat)=some (encB b[i]):=by
 rw [mkS_get,List.getElem?_eq_getElem h];rfl
theorem tw_len {p:UInt8→Bool}:∀(s:Bs) (k:Nat),k≤s.length→(∀j (hj:j<s.length),j<k→p s[j]=true)→(∀hk:k<s.length,p s[k]=false)→(s.takeWhile p).length=k
 |[],k,hk,_,_=>by simp at hk;subst hk;rfl
 |a::s,0,_,_,h2=>by
  have:p a=false:=h2 (by simp)
  simp [List.takeWhile_cons,this]
 |a::s,k+1,hk,h1,h2=>by
  have ha:p a=true:=h1 0 (by simp) (by omega)
  have ih:=tw_len s k (by simpa using hk) (fun j hj hjk=>h1 (j+1) (by simpa using hj) (by omega)) (fun hk=>h2 (by simpa using hk))
  simp [List.takeWhile_cons,ha,ih]
@[simp] theorem cb162:callB Tryz.prog 162=true:=by kernel_rfl
@[simp] theorem cb232:callB Tryz.prog 232=true:=by kernel_rfl
@[simp] theorem cb167:callB Tryz.prog 167=true:=by kernel_rfl
@[simp] theorem cb234:callB Tryz.prog 234=true:=by kernel_rfl
@[simp] theorem cb332:callB Tryz.prog 332=true:=by kernel_rfl
@[simp] theorem cb195:callB Tryz.prog 195=true:=by kernel_rfl
@[simp] theorem cb286:callB Tryz.prog 286=true:=by kernel_rfl
@[simp] theorem cb236:callB Tryz.prog 236=true:=by kernel_rfl
@[simp] theorem cb310:callB Tryz.prog 310=true:=by kernel_rfl
@[simp] theorem cb246:callB Tryz.prog 246=true:=by kernel_rfl
@[simp] theorem cb233:callB Tryz.prog 233=true:=by kernel_rfl
@[simp] theorem cb235:callB Tryz.prog 235=true:=by kernel_rfl
@[simp] theorem cb166:callB Tryz.prog 166=true:=by kernel_rfl
@[simp] theorem cb169:callB Tryz.prog 169=true:=by kernel_rfl
theorem u8_eq (c:UInt8) (n:Nat) (hn:n<256):((c.toNat:Int)=(n:Int))↔c=UInt8.ofNat n:=by
 rw [Int.ofNat_inj,←UInt8.toNat_inj]
 have:(UInt8.ofNat n).toNat=n:=by simp;omega
 rw [this]
theorem lt2 (c:UInt8) (a b:Nat):(decide ((a:Int)≤(c.toNat:Int))&&decide ((c.toNat:Int)≤(b:Int)))=(decide (a≤c.toNat)&&decide (c.toNat≤b)):=by
 rw [Bool.eq_iff_iff]
 simp only [Bool.and_eq_true,decide_eq_true_eq]
 omega
theorem t_letter (c:UInt8) (w:World):Calls Tryz.prog 162 #[encB c] w fun e w'=>e= .returned (.bool (letter c))∧w'=w:=by
 refine ir162_calls fun ρ h0=> ?_
 simp [ir162,h0,encB,letter]
 exact lt2 c 97 122
theorem t_digit (c:UInt8) (w:World):Calls Tryz.prog 232 #[encB c] w fun e w'=>e= .returned (.bool (digit c))∧w'=w:=by
 refine ir232_calls fun ρ h0=> ?_
 simp [ir232,h0,encB,digit]
 exact lt2 c 48 57
theorem r_letter (c:UInt8) (w:World):Calls Tryz.prog 167 #[encB c] w fun e w'=>e= .returned (.bool (letter c))∧w'=w:=by
 refine ir167_calls fun ρ h0=> ?_
 simp [ir167,h0,encB,letter]
 exact lt2 c 97 122
theorem r_digit (c:UInt8) (w:World):Calls Tryz.prog 234 #[encB c] w fun e w'=>e= .returned (.bool (digit c))∧w'=w:=by
 refine ir234_calls fun ρ h0=> ?_
 simp [ir234,h0,encB,digit]
 exact lt2 c 48 57
theorem t_part (c:UInt8) (w:World):Calls Tryz.prog 165 #[encB c] w fun e w'=>e= .returned (.bool (part c))∧w'=w:=by
 refine ir165_calls fun ρ h0=> ?_
 simp [ir165,h0]
 refine (t_letter c w).mono ?_
 rintro _ _ ⟨rfl,rfl⟩
 cases hl:letter c with
 |true=>simp [part,hl]
 |false=>
  simp [h0]
  refine (t_digit c _).mono ?_
  rintro _ _ ⟨rfl,rfl⟩
  simp [part,hl]
theorem t_blank (c:UInt8) (w:World):Calls Tryz.prog 346 #[encB c] w fun e w'=>e= .returned (.bool (blank c))∧w'=w:=by
 refine ir346_calls fun ρ h0=> ?_
 simp [ir346,h0,encB,blank]
 rw [Bool.eq_iff_iff]
 simp only [Bool.or_eq_true,decide_eq_true_eq,beq_iff_eq]
 exact or_congr (or_congr (u8_eq c 32 (by decide)) (u8_eq c 9 (by decide))) (u8_eq c 10 (by decide))
theorem str_ix {b:Bs} {i:Nat} (h:i<b.length):Option.map (fun c:UInt8=>Value.int .u8 (c.toNat:Int)) (mkS b)[i]? =some (encB b[i]):=str_get h
theorem r_run (s:Bs) (hs:s.length<4611686018427387904) (w:World):Calls Tryz.prog 168 #[.string (mkS s)] w fun e w'=>e= .returned (.int .i64 (runL s))∧w'=w:=by
 refine ir168_calls fun ρ h0=> ?_
 simp [ir168]
 refine loopC 3 s.length (fun k ρ' w'=>w'=w∧ρ' 0= .string (mkS s)∧∀j (hj:j<s.length),j<k→part s[j]=true) (by simp) ⟨rfl,by simp [h0],by simp⟩ ?_
 rintro k ρ' w' hk h3 ⟨rfl,h0,hall⟩
 by_cases hlt:k<s.length
 ·have fin:part s[k]=false→runL s=k:=fun hp=>tw_len s k (by omega) (fun j hj h=>hall j hj h) (fun _=>hp)
  simp [ir168_l1,h3,h0,hlt]
  refine (r_letter s[k] _).mono ?_
  rintro _ _ ⟨rfl,rfl⟩
  cases hl:letter s[k] with
  |true=>
   simp [ir168_k0,h3,i64w (n:=(k:Int)+1) (by omega),h0]
   intro j hj hjk
   by_cases e:j=k
   ·subst e;simp [part,hl]
   ·exact hall j hj (by omega)
  |false=>
   simp [h3,h0,hlt]
   refine (r_digit s[k] _).mono ?_
   rintro _ _ ⟨rfl,rfl⟩
   cases hd:digit s[k] with
   |true=>
    simp [ir168_k0,h3,i64w (n:=(k:Int)+1) (by omega),h0]
    intro j hj hjk
    by_cases e:j=k
    ·subst e;simp [part,hd]
    ·exact hall j hj (by omega)
   |false=>simp [ir168_k2,h3,fin (by simp [part,hl,hd])]
 ·have hk':k=s.length:=by omega
  subst hk'
  simp [ir168_l1,h3,h0,ir168_k2,undef]
  rw [runL,tw_len s s.length (Nat.le_refl _) (fun j hj h=>hall j hj h) (fun h=>by omega)]
theorem r_digits (s:Bs) (hs:s.length<4611686018427387904) (w:World):Calls Tryz.prog 244 #[.string (mkS s)] w fun e w'=>e= .returned (.int .i64 (digitsL s))∧w'=w:=by
 refine ir244_calls fun ρ h0=> ?_
 simp [ir244]
 refine loopC 3 s.length (fun k ρ' w'=>w'=w∧ρ' 0= .string (mkS s)∧∀j (hj:j<s.length),j<k→digit s[j]=true) (by simp) ⟨rfl,by simp [h0],by simp⟩ ?_
 rintro k ρ' w' hk h3 ⟨rfl,h0,hall⟩
 by_cases hlt:k<s.length
 ·have fin:digit s[k]=false→digitsL s=k:=fun hp=>tw_len s k (by omega) (fun j hj h=>hall j hj h) (fun _=>hp)
  simp [ir244_l1,h3,h0,hlt]
  refine (r_digit s[k] _).mono ?_
  rintro _ _ ⟨rfl,rfl⟩
  cases hd:digit s[k] with
  |true=>
   simp [ir244_k0,h3,i64w (n:=(k:Int)+1) (by omega),h0]
   intro j hj hjk
   by_cases e:j=k
   ·subst e;exact hd
   ·exact hall j hj (by omega)
  |false=>simp [ir244_k2,h3,fin hd]
 ·have hk':k=s.length:=by omega
  subst hk'
  simp [ir244_l1,h3,h0,ir244_k2,undef]
  rw [digitsL,tw_len s s.length (Nat.le_refl _) (fun j hj h=>hall j hj h) (fun h=>by omega)]
theorem r_comment (s:Bs) (hs:s.length<4611686018427387904) (w:World):Calls Tryz.prog 175 #[.string (mkS s)] w fun e w'=>e= .returned (.int .i64 (comLen s))∧w'=w:=by
 refine ir175_calls fun ρ h0=> ?_
 simp [ir175]
 refine loopC 3 s.length (fun k ρ' w'=>w'=w∧ρ' 0= .string (mkS s)∧∀j (hj:j<s.length),j<k→s[j]≠10) (by simp) ⟨rfl,by simp [h0],by simp⟩ ?_
 rintro k ρ' w' hk h3 ⟨rfl,h0,hall⟩
 by_cases hlt:k<s.length
 ·have fin:s[k]=10→comLen s=k:=fun hp=>tw_len s k (by omega) (fun j hj h=>by simpa using hall j hj h) (fun _=>by simpa using hp)
  have hu:=u8_eq s[k] 10 (by decide)
  simp [ir175_l1,h3,h0,hlt]
  by_cases h10:s[k]=10
  ·have h10':(s[k].toNat:Int)=10:=hu.2 h10
   simp [h10',ir175_k2,h3,fin h10]
  ·have h10':¬(s[k].toNat:Int)=10:=fun h=>h10 (hu.1 h)
   simp [h10',ir175_k0,h3,i64w (n:=(k:Int)+1) (by omega),h0]
   intro j hj hjk
   by_cases e:j=k
   ·subst e;exact h10
   ·exact hall j hj (by omega)
 ·have hk':k=s.length:=by omega
  subst hk'
  simp [ir175_l1,h3,h0,ir175_k2]
  rw [comLen,tw_len s s.length (Nat.le_refl _) (fun j hj h=>by simpa using hall j hj h) (fun h=>by omega)]
theorem r_in {w:World} {v:Value} {l:List Bs} (s:Bs) (hl:SlT w v l):Calls Tryz.prog 235 #[v, .string (mkS s)] w fun e w'=>e= .returned (.bool (l.contains s))∧w'=w:=by
 have hbd:=hl.bd
 refine ir235_calls fun ρ h0 h1=> ?_
 simp [ir235]
 refine loopC 5 l.length (fun k ρ' w'=>w'=w∧ρ' 0=v∧ρ' 1= .string (mkS s)∧∀j (hj:j<l.length),j<k→l[j]≠s) (by simp) ⟨rfl,by simp [h0],by simp [h1],by simp⟩ ?_
 rintro k ρ' w' hk h5 ⟨rfl,h0,h1,hall⟩
 by_cases hlt:k<l.length
 ·simp [ir235_l2,ir235_k1,h5,h0,h1,hl.is,hl.len,hlt,hl.cell k hlt,encT,mkS_inj]
  by_cases he:l[k]=s
  ·simp [he]
   exact he▸List.getElem_mem hlt
  ·simp [he,ir235_k0,h5,i64w (n:=(k:Int)+1) (by omega),h0,h1]
   intro j hj hjk
   by_cases e:j=k
   ·subst e;exact he
   ·exact hall j hj (by omega)
 ·have hk':k=l.length:=by omega
  subst hk'
  simp [ir235_l2,h5,h0,hl.is,hl.len,ir235_k3]
  intro hm
  obtain ⟨j,hj,rfl⟩:=List.getElem_of_mem hm
  exact hall j hj hj rfl
end Go.L01
namespace Go.L01
open Go Go.Eng Go.RowKit Go.Proofs
set_option maxRecDepth 100000
set_option maxHeartbeats 2000000
def NewT (w w':World) (v:Value) (l:List Bs):Prop:=Own w.heap.size 9 1 w' v (l.map encT)∧Ext w w'
theorem NewT.sl {w w':World} {v:Value} {l:List Bs} (h:NewT w w' v l) (hl:l.length<4611686018427387904):SlT w' v l:=h.1.sl hl
theorem si25:sliceInfo Tryz.prog 51=some (9,1):=by kernel_rfl
theorem wordsL_len:wordsL.length=46:=rfl
theorem signsL_len:signsL.length=21:=rfl
theorem flds_words:Lib.fields [97,110,100,32,97,114,114,97,121,32,98,101,103,105,110,32,98,111,111,108,32,98,114,101,97,107,32,99,108,117,115,116,101,114,32,100,111,32,100,111,119,110,32,101,108,115,101,32,101,108,115,101,105,102,32,101,110,100,32,101,120,99,101,112,116,32,102,97,108,115,101,32,102,111,114,32,104,97,115,32,105,102,32,105,110,32,105,110,116,32,105,115,32,105,116,101,114,32,109,111,100,32,110,105,108,32,110,111,116,32,110,117,108,108,32,111,110,101,111,102,32,111,114,32,111,116,104,101,114,115,32,112,114,111,99,32,112,117,116,32,114,101,99,111,114,100,32,114,101,112,32,114,101,116,117,114,110,32,114,101,116,117,114,110,115,32,115,105,103,110,97,108,32,115,105,103,110,97,108,115,32,116,97,103,32,116,97,103,99,97,115,101,32,116,104,101,110,32,116,114,117,101,32,117,112,32,118,97,114,32,119,104,101,110,32,119,104,101,114,101,32,119,104,105,108,101,32,121,105,101,108,100,32,121,105,101,108,100,115]=wordsL:=by kernel_rfl
theorem flds_signs:Lib.fields [36,32,40,32,41,32,42,32,43,32,44,32,45,32,46,32,47,32,58,32,58,61,32,59,32,60,32,60,61,32,61,32,63,32,91,32,93,32,95,32,123,32,125]=signsL:=by kernel_rfl
theorem new_fields {w:World} (hG:G w) (s:Bs) (l:List Bs) (hl:l.length≤maxLen) (hs:s.length<4294967281) (ha:s.all (fun b=>decide (b.toNat<128))=true) (hf:Lib.fields s=l):
  Calls Tryz.prog 332 #[.string (mkS s)] w fun e w'=>∃v,e= .returned v∧NewT w w' v l:=by
 refine (Tryz.fields (mkS s) w hs (fun j b hj=> ?_) hG.sp).mono ?_
 ·have:=List.all_eq_true.1 ha b (List.mem_of_getElem? hj)
  simpa using this
 ·rintro _ _ ⟨rfl,rfl⟩
  have hf':Lib.fields (mkS s).data.toList=l:=hf
  rw [hf']
  refine ⟨_,rfl, ?_,ext_alloc _ _⟩
  exact Own.lit (cs:=l.map encT) (blk_alloc w _ 9) (by simp) (Nat.le_refl _) hl
theorem t_words {w:World} (hG:G w):Calls Tryz.prog 286 #[] w fun e w'=>∃v,e= .returned v∧NewT w w' v wordsL:=by
 refine ir286_calls fun ρ=> ?_
 simp [ir286]
 refine (new_fields hG _ wordsL (by decide) (by decide) (by decide) flds_words).mono ?_
 rintro _ w1 ⟨v,rfl,h⟩
 simp [h]
theorem r_words {w:World}:Calls Tryz.prog 236 #[] w fun e w'=>∃v,e= .returned v∧NewT w w' v wordsL:=by
 refine ir236_calls fun ρ=> ?_
 simp [ir236]
 refine eff_lit si25 (by decide) (by decide) (by simp [Value.cells]) fun B W hB hE hb _=> ?_
 simp [Value.cells] at hb⊢
 exact ⟨Own.lit (cs:=wordsL.map encT) hb rfl hB (by decide),hE⟩
theorem r_signs {w:World}:Calls Tryz.prog 246 #[] w fun e w'=>∃v,e= .returned v∧NewT w w' v signsL:=by
 refine ir246_calls fun ρ=> ?_
 simp [ir246]
 refine eff_lit si25 (by decide) (by decide) (by simp [Value.cells]) fun B W hB hE hb _=> ?_
 simp [Value.cells] at hb⊢
 exact ⟨Own.lit (cs:=signsL.map encT) hb rfl hB (by decide),hE⟩
theorem sorted_signs:(signsL.mergeSort fun x y=>decide (x≤y))=signsL:=List.mergeSort_of_pairwise (by decide)
theorem t_sortSigns {w:World} {base:Nat} {v:Value} (hO:Own base 9 1 w v (signsL.map encT)) (hbase:base≤w.heap.size):
  Calls Tryz.prog 195 #[v] w fun e w'=>e= .returned (.tuple #[])∧Own base 9 1 w' v (signsL.map encT)∧Below base w w':=by
 rcases hO with ⟨rfl,hks⟩|⟨g,off,n,cap,cur,rfl,hb,hg,hn,hnc,hm,hcs,ht⟩
 ·cases hks
 ·have hn':n=signsL.length:=by simp at hn;omega
  have hsl:=Own.sl (enc:=encT) (xs:=signsL) (.inr ⟨g,off,n,cap,cur,rfl,hb,hg,hn,hnc,hm,hcs,ht⟩:Own base 9 1 w _ _) (by decide)
  have hgl:g<w.heap.size:=(Array.getElem?_eq_some_iff.1 hg).1
  have hH:Sort.Holds encStr w g off signsL.toArray:=by
   intro j hj
   have hj':j<signsL.length:=by simpa using hj
   have:=hsl.cell j hj'
   simp only [slAddr,add_lit] at this
   refine ⟨?_,by simp [World.frozen?,hg]⟩
   rw [this]
   simp [hj']
   rfl
  have hc:=Tryz.sort_some g off cap signsL w hH hgl (by decide)
  rw [←hn',sorted_signs] at hc
  refine hc.mono ?_
  rintro _ _ ⟨rfl,m,os,rfl⟩
  have hheap:(Sort.grow (Sort.putRow encStr (Sort.ahead w m) g off signsL.toArray) os).heap[g]? =some (.cells (Sort.putCells encStr off signsL.toArray cur) 9 (0,0)):=by
   rw [Sort.heap_grow_old _ _ (by simpa [Sort.putRow,Sort.mapBlock] using hgl)]
   simp [Sort.putRow,Sort.mapBlock,Sort.ahead,Array.getElem?_modify,hg,Sort.onCells]
  refine ⟨rfl, .inr ⟨g,off,n,cap,_,rfl,hb,hheap,hn,hnc,hm,by simpa [Sort.putCells] using hcs, ?_⟩, ?_⟩
  ·rw [←ht]
   refine List.ext_getElem? fun i=> ?_
   simp only [List.getElem?_take,List.getElem?_drop]
   split
   ·rename_i hi
    have hi2:i<signsL.length:=by omega
    have hsz:off+i<cur.size:=by omega
    have hcell:=hsl.cell i hi2
    simp only [slAddr,add_lit,World.cell?,hg] at hcell
    simp [hsz] at hcell
    simp only [Array.getElem?_toList]
    simp [Sort.putCells,hsz,hi2]
    rw [hcell];rfl
   ·rfl
  ·refine ⟨rfl,rfl,rfl,by simp [Sort.grow,Sort.putRow,Sort.mapBlock,Sort.ahead],fun k hk=> ?_⟩
   rw [Sort.heap_grow_old _ _ (by simp [Sort.putRow,Sort.mapBlock,Sort.ahead];omega)]
   have:g≠k:=by omega
   simp [Sort.putRow,Sort.mapBlock,Sort.ahead,Array.getElem?_modify,this]
theorem t_signs {w:World} (hG:G w):Calls Tryz.prog 310 #[] w fun e w'=>∃v,e= .returned v∧NewT w w' v signsL:=by
 refine ir310_calls fun ρ=> ?_
 simp [ir310]
 refine (new_fields hG _ signsL (by decide) (by decide) (by decide) flds_signs).mono ?_
 rintro _ w1 ⟨v,rfl,h1,h2⟩
 simp
 refine (t_sortSigns h1 h2.size).mono ?_
 rintro _ w2 ⟨rfl,h3,h4⟩
 simp
 exact ⟨h3,ext_of_below h2 h4⟩
end Go.L01
