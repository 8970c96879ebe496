/- Lemmas for a claim about layer 2 (tree). No conditions but those they state. -/
import Derived.Test.YtbcmiempigoooaaGreatDoorGan
import Derived.Lib.Walk
import Derived.WalkKit
import Derived.Laws.Externs
import Derived.Laws.Pointers
set_option linter.all false
namespace Go.L01
open Go Go.Eng Go.Proofs Go.RowKit
set_option maxRecDepth 100000
set_option maxHeartbeats 2000000
theorem qso:qg Tryz.prog 177=true:=by kernel_rfl
theorem qeZ:jG Tryz.prog 112 1=true:=by kernel_rfl
theorem quu:xo Tryz.prog 112=some (5,1):=by kernel_rfl
theorem qhK:∃j,Tryz.prog.info? 114=some j∧j.size=2:=by
 obtain ⟨j,a,b⟩:=Option.map_eq_some_iff.1 Tryz.extra169.sizeBuilder;exact ⟨j,a,b⟩
theorem qbM:∃i,Tryz.prog.info? 5=some i∧i.zero=some (.int .u8 0)∧i.size=1∧i.bytes=1:=by
 have h:=Tryz.extra169.infoByte;obtain ⟨i,b,a⟩:=Option.map_eq_some_iff.1 h;simp only [Prod.mk.injEq] at a;exact ⟨i,b,a.1,a.2.1,a.2.2⟩
abbrev Bd (B b:Nat) (bs:Bs) (w:World):Prop:=Lib.IsBuilder 114 5 B b (bs.map ji) w
theorem qDT (l:Bs):Lib.byteCells l=l.map ji:=by
 simp [Lib.byteCells,ji]
theorem qe3 (s:ByteArray):Lib.strCells s=s.data.toList.map ji:=by
 simp [Lib.strCells,ji]
theorem qiz (b:Nat) (w:World) (c:w.cell? ⟨b,0,none⟩=some (.pointer (some ⟨b,0,none⟩))):
  Calls Tryz.prog 177 #[.pointer (some ⟨b,0,none⟩)] w fun e w'=>e= .returned (.tuple #[])∧w'=w:=by
 obtain ⟨j,a,_⟩:=qhK
 go_enter Tryz.func177,Tryz.ntmps177
 go_wp2
 rw [Lib.run_neq_ptr_same w _ Tryz.underlying111 a]
 go_wp2
 go_end0
 exact ⟨rfl,rfl⟩
theorem qsN (b:Nat) (w:World) (i:w.cell? ⟨b,0,none⟩=some (.pointer none)) (a:w.shape? b=some (114,2)) (h:w.frozen? ⟨b,0,none⟩=false):
  Calls Tryz.prog 177 #[.pointer (some ⟨b,0,none⟩)] w fun e w'=>e= .returned (.tuple #[])∧w'=w.setCell ⟨b,0,none⟩ (.pointer (some ⟨b,0,none⟩)):=by
 obtain ⟨j,g,c⟩:=qhK
 go_enter Tryz.func177,Tryz.ntmps177
 go_wp2
 rw [Lib.run_to_unsafe w ⟨b,0,none⟩ Tryz.underlying111 Tryz.underlying254 g (by rw [c];decide) a (Nat.zero_lt_succ 1)];simp only [Result.andThen];rw [Oper.upon_value]
 go_wp2
 rw [run_callFunc_extern Tryz.func247 (by kernel_rfl) (by kernel_rfl) (by kernel_rfl) (e:=Extern.AbiNoEscape.same) (by kernel_rfl),Lib.run_noEscape];simp only [Result.andThen];rw [Oper.upon_value]
 go_wp2
 rw [Lib.run_from_unsafe w ⟨b,0,none⟩ Tryz.underlying254 Tryz.underlying111 g a Tryz.extra169.liesBuilder];simp only [Result.andThen];rw [Oper.upon_value]
 go_wp2
 go_end0
 exact ⟨rfl,rfl⟩
theorem qsO {w:World} {B b:Nat} {a:List Value} (h:Lib.IsBuilder 114 5 B b a w):
  Calls Tryz.prog 177 #[.pointer (some ⟨b,0,none⟩)] w fun e w'=>e= .returned (.tuple #[])∧Lib.BuilderAt 114 5 B b (.pointer (some ⟨b,0,none⟩)) a w'∧Below B w w':=by
 rcases h with h|h
 ·refine (qsN b w h.cell0 h.shape h.frozen0).mono ?_;rintro _ _ ⟨rfl,rfl⟩;exact ⟨rfl,h.used _,(Below.refl B w).setCell (p:=⟨b,0,none⟩) h.1 _⟩
 ·refine (qiz b w h.cell0).mono ?_;rintro _ _ ⟨rfl,rfl⟩;exact ⟨rfl,h,Below.refl B _⟩
theorem qkP {w:World} {B b:Nat} {p v g:Value} {c:List Value} (k:B≤b) (h:Blk w b #[p,v] 114) (a:w.ownsRow B 5 1 g c.length c):∀W,Only b w W→Blk W b #[p,g] 114→Lib.BuilderAt 114 5 B b p c W:=by
 intro W i j;have e:=Lib.ownBlock_ne a h.heap (by decide);exact ⟨k,g,j.heap,a.kept (qc5 i) (.inr e),e⟩
theorem qEg {w:World} {B b:Nat} {l:Bs} (s:Bs) (h:Bd B b l w) (K:l.length+s.length≤100000000) (V:B≤w.heap.size):
  Calls Tryz.prog 89 #[.pointer (some ⟨b,0,none⟩), .string (qc s)] w fun e w'=>e= .returned (.tuple #[.int .i64 s.length, .nilIface])∧Bd B b (l++s) w'∧Below B w w':=by
 refine qmp fun ρ F I=> ?_;simp [qgm,F,qso];refine (qsO h).mono ?_;rintro _ L ⟨rfl,⟨H,v,n,c,C⟩,y⟩;have J:Blk L b #[.pointer (some ⟨b,0,none⟩),v] 114:=⟨n⟩;simp [F,I,J.cell];obtain ⟨i,S,X,W,E⟩:=qbM;have R:=y.size;have A:=J.lt;have o:(qc s).size=s.length:=rfl;obtain ⟨p,W3,O,j,x,_⟩:=Lib.run_append_own_string (P:=Tryz.prog) L B 112 9 112 5 i Tryz.underlying112 Tryz.underlying9 S X W E v l.length (l.map ji) (by simpa using c) (qc s) (by rw [o];simp only [maxLen];omega) (by rw [o];omega) (by omega);have a:W3.ownsRow B 5 1 p ((l++s).map ji).length ((l++s).map ji):=by simpa [qe3] using j
 have m:Blk W3 b #[.pointer (some ⟨b,0,none⟩),v] 114:=⟨(x.block b A (fun e=>C e.symm)).trans n⟩;refine ju (v:=p) (w':=W3) (by simp [execOp,qD,resolve,invoke,builtin,O]) ?_;have t:p.cells= #[p]∧p.oneCell=true:=by
  rcases a.2 with ⟨rfl,_⟩|⟨g,cap,cur,rfl,_⟩<;>exact ⟨rfl,rfl⟩
 simp;refine qP (B:=b) (i:=1) (by simp) m (by simp) (by simp;exact t.1) (by simp;exact t.2) qeZ fun W4 z u=> ?_;simp [I] at u⊢;refine ⟨.inr (qkP H m a W4 z u), ?_⟩;have Q:Below B w W3:=y.grown x (by omega) fun k U=>(c.lt k U).1;exact Below.trans Q (k9 z H)
theorem b_string {w:World} {B b:Nat} {a:Bs} (h:Bd B b a w) (c:B≤w.heap.size):
  Calls Tryz.prog 90 #[.pointer (some ⟨b,0,none⟩)] w fun e w'=>e= .returned (.string (qc a))∧Below B w w':=by
 have i:Lib.IsBuilder 114 5 B b (Lib.byteCells a) w:=by rw [qDT];exact h
 exact (Tryz.b_string B b a w i c).mono fun e w' g=>⟨g.1,g.2⟩
structure G (w:World):Prop where
 sp:∀c:Nat,c<256→w.cell? ⟨3,c,none⟩=some (.int .u8 (if Lib.isSp (UInt8.ofNat c) then 1 else 0))
 pow : Lib.TabIs Tryz.prog w "internal/strconv.uint64pow10" .u64 Lib.pow10Tab
 es:∃te pe,w.cell? ⟨5,0,none⟩=some (.iface te pe)
 er:∃te pe,w.cell? ⟨6,0,none⟩=some (.iface te pe)
theorem G.ext {w w':World} (h:G w) (hE:qb w w'):G w':=by
 refine ⟨fun c hc=>hE.cell (h.sp c hc), ?_,let ⟨te,pe,h1⟩:=h.es;⟨te,pe,hE.cell h1⟩,let ⟨te,pe,h1⟩:=h.er;⟨te,pe,hE.cell h1⟩⟩;have hp:=h.pow;unfold Lib.TabIs World.var? at hp⊢
 cases hg : Tryz.prog.globalNamed "internal/strconv.uint64pow10" with
 |none=>rw [hg] at hp;cases hp
 |some g=>
  rw [hg] at hp;simp only [Option.bind_some] at hp⊢;cases hh:w.heap[g]? with
  |none=>rw [hh] at hp;cases hp
  |some o=>rw [hE.block g (Array.getElem?_eq_some_iff.1 hh).1];exact hp
def qi (b:Bs):Value:= .string (qc b)
abbrev qQ (w:World) (v:Value) (l:List Bs):Prop:=Sl qi w v l
@[simp] theorem qxY (b:Bs) (i:Nat):(qc b)[i]? =b[i]? :=by
 show (qc b).data[i]? =_;simp [qc]
theorem qub {b:Bs} {i:Nat} (h:i<b.length):((qc b)[i]?).map (fun c:UInt8=>Value.int .u8 c.toNat)=some (ji b[i]):=by
 rw [qxY,List.getElem?_eq_getElem h];rfl
theorem wR {p:UInt8→Bool}:∀(s:Bs) (k:Nat),k≤s.length→(∀j (g:j<s.length),j<k→p s[j]=true)→(∀b:k<s.length,p s[k]=false)→(s.takeWhile p).length=k
 |[],k,b,_,_=>by simp at b;subst b;rfl
 |a::s,0,_,_,c=>by
  have:p a=false:=c (by simp);simp [List.takeWhile_cons,this]
 |a::s,k+1,b,e,c=>by
  have l:p a=true:=e 0 (by simp) (by omega);have h:=wR s k (by simpa using b) (fun j g i=>e (j+1) (by simpa using g) (by omega)) (fun b=>c (by simpa using b));simp [List.takeWhile_cons,l,h]
@[simp] theorem qH9:qg Tryz.prog 162=true:=by kernel_rfl
@[simp] theorem qHU:qg Tryz.prog 232=true:=by kernel_rfl
@[simp] theorem qH5:qg Tryz.prog 167=true:=by kernel_rfl
@[simp] theorem qHS:qg Tryz.prog 234=true:=by kernel_rfl
@[simp] theorem qHz:qg Tryz.prog 332=true:=by kernel_rfl
@[simp] theorem qHZ:qg Tryz.prog 195=true:=by kernel_rfl
@[simp] theorem qHJ:qg Tryz.prog 286=true:=by kernel_rfl
@[simp] theorem qHQ:qg Tryz.prog 236=true:=by kernel_rfl
@[simp] theorem qHB:qg Tryz.prog 310=true:=by kernel_rfl
@[simp] theorem qHN:qg Tryz.prog 246=true:=by kernel_rfl
@[simp] theorem qHT:qg Tryz.prog 233=true:=by kernel_rfl
@[simp] theorem qHR:qg Tryz.prog 235=true:=by kernel_rfl
@[simp] theorem qH6:qg Tryz.prog 166=true:=by kernel_rfl
@[simp] theorem qH3:qg Tryz.prog 169=true:=by kernel_rfl
theorem xS (c:UInt8) (n:Nat) (a:n<256):((c.toNat:Int)=(n:Int))↔c=UInt8.ofNat n:=by
 rw [Int.ofNat_inj,←UInt8.toNat_inj];have:(UInt8.ofNat n).toNat=n:=by simp;omega
 rw [this]
theorem lt2 (c:UInt8) (a b:Nat):(decide ((a:Int)≤(c.toNat:Int))&&decide ((c.toNat:Int)≤(b:Int)))=(decide (a≤c.toNat)&&decide (c.toNat≤b)):=by
 rw [Bool.eq_iff_iff];simp only [Bool.and_eq_true,decide_eq_true_eq];omega
theorem qeW (c:UInt8) (w:World):Calls Tryz.prog 162 #[ji c] w fun e w'=>e= .returned (.bool (vc c))∧w'=w:=by
 refine qBj fun ρ a=> ?_;simp [qp1,a,ji,vc];exact lt2 c 97 122
theorem qeY (c:UInt8) (w:World):Calls Tryz.prog 232 #[ji c] w fun e w'=>e= .returned (.bool (qM c))∧w'=w:=by
 refine qAs fun ρ a=> ?_;simp [qoY,a,ji,qM];exact lt2 c 48 57
theorem qfE (c:UInt8) (w:World):Calls Tryz.prog 167 #[ji c] w fun e w'=>e= .returned (.bool (vc c))∧w'=w:=by
 refine qBa fun ρ a=> ?_;simp [qpW,a,ji,vc];exact lt2 c 97 122
theorem qfG (c:UInt8) (w:World):Calls Tryz.prog 234 #[ji c] w fun e w'=>e= .returned (.bool (qM c))∧w'=w:=by
 refine qAo fun ρ a=> ?_;simp [qoT,a,ji,qM];exact lt2 c 48 57
theorem qjg (c:UInt8) (w:World):Calls Tryz.prog 165 #[ji c] w fun e w'=>e= .returned (.bool (part c))∧w'=w:=by
 refine qBe fun ρ a=> ?_;simp [qpY,a];refine (qeW c w).mono ?_;rintro _ _ ⟨rfl,rfl⟩;cases b:vc c with
 |true=>simp [part,b]
 |false=>
  simp [a];refine (qeY c _).mono ?_;rintro _ _ ⟨rfl,rfl⟩;simp [part,b]
theorem qtX (c:UInt8) (w:World):Calls Tryz.prog 346 #[ji c] w fun e w'=>e= .returned (.bool (yj c))∧w'=w:=by
 refine qzo fun ρ a=> ?_;simp [qnI,a,ji,yj];rw [Bool.eq_iff_iff];simp only [Bool.or_eq_true,decide_eq_true_eq,beq_iff_eq];exact or_congr (or_congr (xS c 32 (by decide)) (xS c 9 (by decide))) (xS c 10 (by decide))
theorem qaS {b:Bs} {i:Nat} (h:i<b.length):Option.map (fun c:UInt8=>Value.int .u8 (c.toNat:Int)) (qc b)[i]? =some (ji b[i]):=qub h
theorem qkB (s:Bs) (x:s.length<4611686018427387904) (w:World):Calls Tryz.prog 168 #[.string (qc s)] w fun e w'=>e= .returned (.int .i64 (qN s))∧w'=w:=by
 refine qA8 fun ρ c=> ?_;simp [qpV];refine js 3 s.length (fun k l w'=>w'=w∧l 0= .string (qc s)∧∀j (b:j<s.length),j<k→part s[j]=true) (by simp) ⟨rfl,by simp [c],by simp⟩ ?_;rintro k l w' v g ⟨rfl,c,a⟩;by_cases i:k<s.length
 ·have fin:part s[k]=false→qN s=k:=fun u=>wR s k (by omega) (fun j b h=>a j b h) (fun _=>u);simp [qhh,g,c,i];refine (qfE s[k] _).mono ?_;rintro _ _ ⟨rfl,rfl⟩;cases t:vc s[k] with
  |true=>
   simp [qhj,g,qr (n:=(k:Int)+1) (by omega),c];intro j b m;by_cases e:j=k
   ·subst e;simp [part,t]
   ·exact a j b (by omega)
  |false=>
   simp [g,c,i];refine (qfG s[k] _).mono ?_;rintro _ _ ⟨rfl,rfl⟩;cases p:qM s[k] with
   |true=>
    simp [qhj,g,qr (n:=(k:Int)+1) (by omega),c];intro j b m;by_cases e:j=k
    ·subst e;simp [part,p]
    ·exact a j b (by omega)
   |false=>simp [qhi,g,fin (by simp [part,t,p])]
 ·have o:k=s.length:=by omega
  subst o;simp [qhh,g,c,qhi,undef];rw [qN,wR s s.length (Nat.le_refl _) (fun j b h=>a j b h) (fun h=>by omega)]
theorem qkD (s:Bs) (v:s.length<4611686018427387904) (w:World):Calls Tryz.prog 244 #[.string (qc s)] w fun e w'=>e= .returned (.int .i64 (jJ s))∧w'=w:=by
 refine qz8 fun ρ c=> ?_;simp [qox];refine js 3 s.length (fun k g w'=>w'=w∧g 0= .string (qc s)∧∀j (b:j<s.length),j<k→qM s[j]=true) (by simp) ⟨rfl,by simp [c],by simp⟩ ?_;rintro k g w' u i ⟨rfl,c,a⟩;by_cases l:k<s.length
 ·have fin:qM s[k]=false→jJ s=k:=fun p=>wR s k (by omega) (fun j b h=>a j b h) (fun _=>p);simp [qgO,i,c,l];refine (qfG s[k] _).mono ?_;rintro _ _ ⟨rfl,rfl⟩;cases o:qM s[k] with
  |true=>
   simp [qow,i,qr (n:=(k:Int)+1) (by omega),c];intro j b t;by_cases e:j=k
   ·subst e;exact o
   ·exact a j b (by omega)
  |false=>simp [qgP,i,fin o]
 ·have m:k=s.length:=by omega
  subst m;simp [qgO,i,c,qgP,undef];rw [jJ,wR s s.length (Nat.le_refl _) (fun j b h=>a j b h) (fun h=>by omega)]
theorem qwb (s:Bs) (y:s.length<4611686018427387904) (w:World):Calls Tryz.prog 175 #[.string (qc s)] w fun e w'=>e= .returned (.int .i64 (jd s))∧w'=w:=by
 refine qA3 fun ρ i=> ?_;simp [qpO];refine js 3 s.length (fun k l w'=>w'=w∧l 0= .string (qc s)∧∀j (g:j<s.length),j<k→s[j]≠10) (by simp) ⟨rfl,by simp [i],by simp⟩ ?_;rintro k l w' x m ⟨rfl,i,b⟩;by_cases o:k<s.length
 ·have fin:s[k]=10→jd s=k:=fun u=>wR s k (by omega) (fun j g h=>by simpa using b j g h) (fun _=>by simpa using u);have t:=xS s[k] 10 (by decide);simp [qhe,m,i,o];by_cases c:s[k]=10
  ·have a:(s[k].toNat:Int)=10:=t.2 c;simp [a,qhf,m,fin c]
  ·have a:¬(s[k].toNat:Int)=10:=fun h=>c (t.1 h);simp [a,qpN,m,qr (n:=(k:Int)+1) (by omega),i];intro j g v;by_cases e:j=k
   ·subst e;exact c
   ·exact b j g (by omega)
 ·have p:k=s.length:=by omega
  subst p;simp [qhe,m,i,qhf];rw [jd,wR s s.length (Nat.le_refl _) (fun j g h=>by simpa using b j g h) (fun h=>by omega)]
theorem qfF {w:World} {v:Value} {l:List Bs} (s:Bs) (g:qQ w v l):Calls Tryz.prog 235 #[v, .string (qc s)] w fun e w'=>e= .returned (.bool (l.contains s))∧w'=w:=by
 have u:=g.bd;refine qAm fun ρ h o=> ?_;simp [qoS];refine js 5 l.length (fun k c w'=>w'=w∧c 0=v∧c 1= .string (qc s)∧∀j (i:j<l.length),j<k→l[j]≠s) (by simp) ⟨rfl,by simp [h],by simp [o],by simp⟩ ?_;rintro k c w' z p ⟨rfl,h,o,a⟩;by_cases b:k<l.length
 ·simp [qgY,qoQ,p,h,o,g.is,g.len,b,g.cell k b,qi,jp];by_cases m:l[k]=s
  ·simp [m];exact m▸List.getElem_mem b
  ·simp [m,qoR,p,qr (n:=(k:Int)+1) (by omega),h,o];intro j i y;by_cases e:j=k
   ·subst e;exact m
   ·exact a j i (by omega)
 ·have t:k=l.length:=by omega
  subst t;simp [qgY,p,h,g.is,g.len,qoP];intro x;obtain ⟨j,i,rfl⟩:=List.getElem_of_mem x;exact a j i i rfl
def Jb (w w':World) (v:Value) (l:List Bs):Prop:=Own w.heap.size 9 1 w' v (l.map qi)∧qb w w'
theorem Jb.sl {w w':World} {v:Value} {l:List Bs} (h:Jb w w' v l) (a:l.length<4611686018427387904):qQ w' v l:=h.1.sl a
theorem qct:xo Tryz.prog 51=some (9,1):=by kernel_rfl
theorem qth:vM.length=46:=rfl
theorem qut:qW.length=21:=rfl
theorem qCE:Lib.fields [97,110,100,32,97,114,114,97,121,32,98,101,103,105,110,32,98,111,111,108,32,98,114,101,97,107,32,99,108,117,115,116,101,114,32,100,111,32,100,111,119,110,32,101,108,115,101,32,101,108,115,101,105,102,32,101,110,100,32,101,120,99,101,112,116,32,102,97,108,115,101,32,102,111,114,32,104,97,115,32,105,102,32,105,110,32,105,110,116,32,105,115,32,105,116,101,114,32,109,111,100,32,110,105,108,32,110,111,116,32,110,117,108,108,32,111,110,101,111,102,32,111,114,32,111,116,104,101,114,115,32,112,114,111,99,32,112,117,116,32,114,101,99,111,114,100,32,114,101,112,32,114,101,116,117,114,110,32,114,101,116,117,114,110,115,32,115,105,103,110,97,108,32,115,105,103,110,97,108,115,32,116,97,103,32,116,97,103,99,97,115,101,32,116,104,101,110,32,116,114,117,101,32,117,112,32,118,97,114,32,119,104,101,110,32,119,104,101,114,101,32,119,104,105,108,101,32,121,105,101,108,100,32,121,105,101,108,100,115]=vM:=by kernel_rfl
theorem qCF:Lib.fields [36,32,40,32,41,32,42,32,43,32,44,32,45,32,46,32,47,32,58,32,58,61,32,59,32,60,32,60,61,32,61,32,63,32,91,32,93,32,95,32,123,32,125]=qW:=by kernel_rfl
theorem qly {w:World} (c:G w) (s:Bs) (l:List Bs) (g:l.length≤maxLen) (i:s.length<4294967281) (m:s.all (fun b=>decide (b.toNat<128))=true) (k:Lib.fields s=l):
  Calls Tryz.prog 332 #[.string (qc s)] w fun e w'=>∃v,e= .returned v∧Jb w w' v l:=by
 refine (Tryz.fields (qc s) w i (fun j b h=> ?_) c.sp).mono ?_
 ·have:=List.all_eq_true.1 m b (List.mem_of_getElem? h);simpa using this
 ·rintro _ _ ⟨rfl,rfl⟩;have a:Lib.fields (qc s).data.toList=l:=k;rw [a];refine ⟨_,rfl, ?_,wE _ _⟩;exact Own.lit (cs:=l.map qi) (qbY w _ 9) (by simp) (Nat.le_refl _) g
theorem qtN {w:World} (a:G w):Calls Tryz.prog 286 #[] w fun e w'=>∃v,e= .returned v∧Jb w w' v vM:=by
 refine qzI fun ρ=> ?_;simp [qn5];refine (qly a _ vM (by decide) (by decide) (by decide) qCE).mono ?_;rintro _ b ⟨v,rfl,h⟩;simp [h]
theorem qv7 {w:World}:Calls Tryz.prog 236 #[] w fun e w'=>∃v,e= .returned v∧Jb w w' v vM:=by
 refine qAk fun ρ=> ?_;simp [qoO];refine jz qct (by decide) (by decide) (by simp [Value.cells]) fun B W c b a _=> ?_;simp [Value.cells] at a⊢;exact ⟨Own.lit (cs:=vM.map qi) a rfl c (by decide),b⟩
theorem qkA {w:World}:Calls Tryz.prog 246 #[] w fun e w'=>∃v,e= .returned v∧Jb w w' v qW:=by
 refine qz5 fun ρ=> ?_;simp [qou];refine jz qct (by decide) (by decide) (by simp [Value.cells]) fun B W c b a _=> ?_;simp [Value.cells] at a⊢;exact ⟨Own.lit (cs:=qW.map qi) a rfl c (by decide),b⟩
theorem qun:(qW.mergeSort fun x y=>decide (x≤y))=qW:=List.mergeSort_of_pairwise (by decide)
theorem qtO {w:World} {base:Nat} {v:Value} (H:Own base 9 1 w v (qW.map qi)) (y:base≤w.heap.size):
  Calls Tryz.prog 195 #[v] w fun e w'=>e= .returned (.tuple #[])∧Own base 9 1 w' v (qW.map qi)∧Below base w w':=by
 rcases H with ⟨rfl,x⟩|⟨g,off,n,cap,cur,rfl,E,t,z,c,F,h,C⟩
 ·cases x
 ·have A:n=qW.length:=by simp at z;omega
  have s:=Own.sl (enc:=qi) (xs:=qW) (.inr ⟨g,off,n,cap,cur,rfl,E,t,z,c,F,h,C⟩:Own base 9 1 w _ _) (by decide);have o:g<w.heap.size:=(Array.getElem?_eq_some_iff.1 t).1;have J:Sort.Holds encStr w g off qW.toArray:=by
   intro j I;have u:j<qW.length:=by simpa using I
   have:=s.cell j u;simp only [qJ,zF] at this;refine ⟨?_,by simp [World.frozen?,t]⟩;rw [this];simp [u];rfl
  have B:=Tryz.sort_some g off cap qW w J o (by decide);rw [←A,qun] at B;refine B.mono ?_;rintro _ _ ⟨rfl,m,os,rfl⟩;have b:(Sort.grow (Sort.putRow encStr (Sort.ahead w m) g off qW.toArray) os).heap[g]? =some (.cells (Sort.putCells encStr off qW.toArray cur) 9 (0,0)):=by
   rw [Sort.heap_grow_old _ _ (by simpa [Sort.putRow,Sort.mapBlock] using o)];simp [Sort.putRow,Sort.mapBlock,Sort.ahead,Array.getElem?_modify,t,Sort.onCells]
  refine ⟨rfl, .inr ⟨g,off,n,cap,_,rfl,E,b,z,c,F,by simpa [Sort.putCells] using h, ?_⟩, ?_⟩
  ·rw [←C];refine List.ext_getElem? fun i=> ?_;simp only [List.getElem?_take,List.getElem?_drop];split
   ·rename_i K;have p:i<qW.length:=by omega
    have l:off+i<cur.size:=by omega
    have a:=s.cell i p;simp only [qJ,zF,World.cell?,t] at a;simp [l] at a;simp only [Array.getElem?_toList];simp [Sort.putCells,l,p];rw [a];rfl
   ·rfl
  ·refine ⟨rfl,rfl,rfl,by simp [Sort.grow,Sort.putRow,Sort.mapBlock,Sort.ahead],fun k L=> ?_⟩;rw [Sort.heap_grow_old _ _ (by simp [Sort.putRow,Sort.mapBlock,Sort.ahead];omega)];have:g≠k:=by omega
   simp [Sort.putRow,Sort.mapBlock,Sort.ahead,Array.getElem?_modify,this]
theorem qtP {w:World} (c:G w):Calls Tryz.prog 310 #[] w fun e w'=>∃v,e= .returned v∧Jb w w' v qW:=by
 refine qzs fun ρ=> ?_;simp [qnO];refine (qly c _ qW (by decide) (by decide) (by decide) qCF).mono ?_;rintro _ j ⟨v,rfl,b,a⟩;simp;refine (qtO b a.size).mono ?_;rintro _ i ⟨rfl,h,g⟩;simp;exact ⟨h,qCS a g⟩
end Go.L01
