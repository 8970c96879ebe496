/- Lemmas for a claim about layer 2 (tree). No conditions but those they state. -/
import Derived.Test.YtbcmiempigoooaaGreatDoorNan
import Derived.Lib.Walk
import Derived.WalkKit
import Derived.Laws.Externs
import Derived.Laws.Pointers
set_option linter.all false
namespace Go.L01
open Go Go.Eng Go.Proofs Go.RowKit
set_option maxRecDepth 100000
set_option maxHeartbeats 2000000
theorem qtL:qf Tryz.prog 177=true:=by kernel_rfl
theorem qfD:jA Tryz.prog 112 1=true:=by kernel_rfl
theorem qv2:xG Tryz.prog 112=some (5,1):=by kernel_rfl
theorem qiJ:∃j,Tryz.prog.info? 114=some j∧j.size=2:=by
 obtain ⟨j,b,a⟩:=Option.map_eq_some_iff.1 Tryz.extra169.sizeBuilder;exact ⟨j,b,a⟩
theorem qch:∃i,Tryz.prog.info? 5=some i∧i.zero=some (.int .u8 0)∧i.size=1∧i.bytes=1:=by
 have h:=Tryz.extra169.infoByte;obtain ⟨i,b,a⟩:=Option.map_eq_some_iff.1 h;simp only [Prod.mk.injEq] at a;exact ⟨i,b,a.1,a.2.1,a.2.2⟩
abbrev Bd (B b:Nat) (bs:Bs) (w:World):Prop:=Lib.IsBuilder 114 5 B b (bs.map jk) w
theorem qF1 (l:Bs):Lib.byteCells l=l.map jk:=by
 simp [Lib.byteCells,jk]
theorem qfG (s:ByteArray):Lib.strCells s=s.data.toList.map jk:=by
 simp [Lib.strCells,jk]
theorem qjw (b:Nat) (w:World) (c:w.cell? ⟨b,0,none⟩=some (.pointer (some ⟨b,0,none⟩))):
  Calls Tryz.prog 177 #[.pointer (some ⟨b,0,none⟩)] w fun e w'=>e= .returned (.tuple #[])∧w'=w:=by
 obtain ⟨j,a,_⟩:=qiJ
 go_enter Tryz.func177,Tryz.ntmps177
 go_wp2
 rw [Lib.run_neq_ptr_same w _ Tryz.underlying111 a]
 go_wp2
 go_end0
 exact ⟨rfl,rfl⟩
theorem qt9 (b:Nat) (w:World) (i:w.cell? ⟨b,0,none⟩=some (.pointer none)) (a:w.shape? b=some (114,2)) (h:w.frozen? ⟨b,0,none⟩=false):
  Calls Tryz.prog 177 #[.pointer (some ⟨b,0,none⟩)] w fun e w'=>e= .returned (.tuple #[])∧w'=w.setCell ⟨b,0,none⟩ (.pointer (some ⟨b,0,none⟩)):=by
 obtain ⟨j,g,c⟩:=qiJ
 go_enter Tryz.func177,Tryz.ntmps177
 go_wp2
 rw [Lib.run_to_unsafe w ⟨b,0,none⟩ Tryz.underlying111 Tryz.underlying254 g (by rw [c];decide) a (Nat.zero_lt_succ 1)];simp only [Result.andThen];rw [Oper.upon_value]
 go_wp2
 rw [run_callFunc_extern Tryz.func247 (by kernel_rfl) (by kernel_rfl) (by kernel_rfl) (e:=Extern.AbiNoEscape.same) (by kernel_rfl),Lib.run_noEscape];simp only [Result.andThen];rw [Oper.upon_value]
 go_wp2
 rw [Lib.run_from_unsafe w ⟨b,0,none⟩ Tryz.underlying254 Tryz.underlying111 g a Tryz.extra169.liesBuilder];simp only [Result.andThen];rw [Oper.upon_value]
 go_wp2
 go_end0
 exact ⟨rfl,rfl⟩
theorem qua {w:World} {B b:Nat} {a:List Value} (h:Lib.IsBuilder 114 5 B b a w):
  Calls Tryz.prog 177 #[.pointer (some ⟨b,0,none⟩)] w fun e w'=>e= .returned (.tuple #[])∧Lib.BuilderAt 114 5 B b (.pointer (some ⟨b,0,none⟩)) a w'∧Below B w w':=by
 rcases h with h|h
 ·refine (qt9 b w h.cell0 h.shape h.frozen0).mono ?_;rintro _ _ ⟨rfl,rfl⟩;exact ⟨rfl,h.used _,(Below.refl B w).setCell (p:=⟨b,0,none⟩) h.1 _⟩
 ·refine (qjw b w h.cell0).mono ?_;rintro _ _ ⟨rfl,rfl⟩;exact ⟨rfl,h,Below.refl B _⟩
theorem qlE {w:World} {B b:Nat} {p v g:Value} {c:List Value} (k:B≤b) (i:Blk w b #[p,v] 114) (a:w.ownsRow B 5 1 g c.length c):∀W,Only b w W→Blk W b #[p,g] 114→Lib.BuilderAt 114 5 B b p c W:=by
 intro W h j;have e:=Lib.ownBlock_ne a i.heap (by decide);exact ⟨k,g,j.heap,a.kept (qdt h) (.inr e),e⟩
theorem qGp {w:World} {B b:Nat} {l:Bs} (s:Bs) (h:Bd B b l w) (L:l.length+s.length≤100000000) (W:B≤w.heap.size):
  Calls Tryz.prog 89 #[.pointer (some ⟨b,0,none⟩), .string (qc s)] w fun e w'=>e= .returned (.tuple #[.int .i64 s.length, .nilIface])∧Bd B b (l++s) w'∧Below B w w':=by
 refine qnj fun ρ K F=> ?_;simp [qha,K,qtL];refine (qua h).mono ?_;rintro _ J ⟨rfl,⟨H,v,y,c,C⟩,x⟩;have I:Blk J b #[.pointer (some ⟨b,0,none⟩),v] 114:=⟨y⟩;simp [K,F,I.cell];obtain ⟨i,V,U,R,A⟩:=qch;have X:=x.size;have E:=I.lt;have m:(qc s).size=s.length:=rfl;obtain ⟨p,W3,S,j,z,_⟩:=Lib.run_append_own_string (P:=Tryz.prog) J B 112 9 112 5 i Tryz.underlying112 Tryz.underlying9 V U R A v l.length (l.map jk) (by simpa using c) (qc s) (by rw [m];simp only [maxLen];omega) (by rw [m];omega) (by omega);have a:W3.ownsRow B 5 1 p ((l++s).map jk).length ((l++s).map jk):=by simpa [qfG] using j
 have t:Blk W3 b #[.pointer (some ⟨b,0,none⟩),v] 114:=⟨(z.block b E (fun e=>C e.symm)).trans y⟩;refine jf (v:=p) (w':=W3) (by simp [execOp,qA,resolve,invoke,builtin,S]) ?_;have o:p.cells= #[p]∧p.oneCell=true:=by
  rcases a.2 with ⟨rfl,_⟩|⟨g,cap,cur,rfl,_⟩<;>exact ⟨rfl,rfl⟩
 simp;refine qK (B:=b) (i:=1) (by simp) t (by simp) (by simp;exact o.1) (by simp;exact o.2) qfD fun W4 n u=> ?_;simp [F] at u⊢;refine ⟨.inr (qlE H t a W4 n u), ?_⟩;have O:Below B w W3:=x.grown z (by omega) fun k Q=>(c.lt k Q).1;exact Below.trans O (wj n H)
theorem b_string {w:World} {B b:Nat} {a:Bs} (h:Bd B b a w) (c:B≤w.heap.size):
  Calls Tryz.prog 90 #[.pointer (some ⟨b,0,none⟩)] w fun e w'=>e= .returned (.string (qc a))∧Below B w w':=by
 have i:Lib.IsBuilder 114 5 B b (Lib.byteCells a) w:=by rw [qF1];exact h
 exact (Tryz.b_string B b a w i c).mono fun e w' g=>⟨g.1,g.2⟩
structure G (w:World):Prop where
 sp:∀c:Nat,c<256→w.cell? ⟨3,c,none⟩=some (.int .u8 (if Lib.isSp (UInt8.ofNat c) then 1 else 0))
 pow : Lib.TabIs Tryz.prog w "internal/strconv.uint64pow10" .u64 Lib.pow10Tab
 es:∃te pe,w.cell? ⟨5,0,none⟩=some (.iface te pe)
 er:∃te pe,w.cell? ⟨6,0,none⟩=some (.iface te pe)
theorem G.ext {w w':World} (h:G w) (hE:qb w w'):G w':=by
 refine ⟨fun c hc=>hE.cell (h.sp c hc), ?_,let ⟨te,pe,h1⟩:=h.es;⟨te,pe,hE.cell h1⟩,let ⟨te,pe,h1⟩:=h.er;⟨te,pe,hE.cell h1⟩⟩;have hp:=h.pow;unfold Lib.TabIs World.var? at hp⊢
 cases hg : Tryz.prog.globalNamed "internal/strconv.uint64pow10" with
 |none=>rw [hg] at hp;cases hp
 |some g=>
  rw [hg] at hp;simp only [Option.bind_some] at hp⊢;cases hh:w.heap[g]? with
  |none=>rw [hh] at hp;cases hp
  |some o=>rw [hE.block g (Array.getElem?_eq_some_iff.1 hh).1];exact hp
def qe (b:Bs):Value:= .string (qc b)
abbrev qS (w:World) (v:Value) (l:List Bs):Prop:=Sl qe w v l
@[simp] theorem qzH (b:Bs) (i:Nat):(qc b)[i]? =b[i]? :=by
 show (qc b).data[i]? =_;simp [qc]
theorem qvK {b:Bs} {i:Nat} (h:i<b.length):((qc b)[i]?).map (fun c:UInt8=>Value.int .u8 c.toNat)=some (jk b[i]):=by
 rw [qzH,List.getElem?_eq_getElem h];rfl
theorem wY {p:UInt8→Bool}:∀(s:Bs) (k:Nat),k≤s.length→(∀j (g:j<s.length),j<k→p s[j]=true)→(∀b:k<s.length,p s[k]=false)→(s.takeWhile p).length=k
 |[],k,b,_,_=>by simp at b;subst b;rfl
 |a::s,0,_,_,c=>by
  have:p a=false:=c (by simp);simp [List.takeWhile_cons,this]
 |a::s,k+1,b,e,c=>by
  have l:p a=true:=e 0 (by simp) (by omega);have i:=wY s k (by simpa using b) (fun j g h=>e (j+1) (by simpa using g) (by omega)) (fun b=>c (by simpa using b));simp [List.takeWhile_cons,l,i]
@[simp] theorem qKs:qf Tryz.prog 162=true:=by kernel_rfl
@[simp] theorem qKc:qf Tryz.prog 232=true:=by kernel_rfl
@[simp] theorem qKo:qf Tryz.prog 167=true:=by kernel_rfl
@[simp] theorem qKa:qf Tryz.prog 234=true:=by kernel_rfl
@[simp] theorem qJQ:qf Tryz.prog 332=true:=by kernel_rfl
@[simp] theorem qFT:qf Tryz.prog 195=true:=by kernel_rfl
@[simp] theorem qJ0:qf Tryz.prog 286=true:=by kernel_rfl
@[simp] theorem qJ8:qf Tryz.prog 236=true:=by kernel_rfl
@[simp] theorem qJS:qf Tryz.prog 310=true:=by kernel_rfl
@[simp] theorem qJ5:qf Tryz.prog 246=true:=by kernel_rfl
@[simp] theorem qKb:qf Tryz.prog 233=true:=by kernel_rfl
@[simp] theorem qJ9:qf Tryz.prog 235=true:=by kernel_rfl
@[simp] theorem qKp:qf Tryz.prog 166=true:=by kernel_rfl
@[simp] theorem qKm:qf Tryz.prog 169=true:=by kernel_rfl
theorem xX (c:UInt8) (n:Nat) (a:n<256):((c.toNat:Int)=(n:Int))↔c=UInt8.ofNat n:=by
 rw [Int.ofNat_inj,←UInt8.toNat_inj];have:(UInt8.ofNat n).toNat=n:=by simp;omega
 rw [this]
theorem lt2 (c:UInt8) (a b:Nat):(decide ((a:Int)≤(c.toNat:Int))&&decide ((c.toNat:Int)≤(b:Int)))=(decide (a≤c.toNat)&&decide (c.toNat≤b)):=by
 rw [Bool.eq_iff_iff];simp only [Bool.and_eq_true,decide_eq_true_eq];omega
theorem qfz (c:UInt8) (w:World):Calls Tryz.prog 162 #[jk c] w fun e w'=>e= .returned (.bool (ve c))∧w'=w:=by
 refine qDp fun ρ a=> ?_;simp [qrp,a,jk,ve];exact lt2 c 97 122
theorem qfB (c:UInt8) (w:World):Calls Tryz.prog 232 #[jk c] w fun e w'=>e= .returned (.bool (qO c))∧w'=w:=by
 refine qCs fun ρ a=> ?_;simp [qqg,a,jk,qO];exact lt2 c 48 57
theorem qgj (c:UInt8) (w:World):Calls Tryz.prog 167 #[jk c] w fun e w'=>e= .returned (.bool (ve c))∧w'=w:=by
 refine qDg fun ρ a=> ?_;simp [qrk,a,jk,ve];exact lt2 c 97 122
theorem qgl (c:UInt8) (w:World):Calls Tryz.prog 234 #[jk c] w fun e w'=>e= .returned (.bool (qO c))∧w'=w:=by
 refine qCo fun ρ a=> ?_;simp [qqb,a,jk,qO];exact lt2 c 48 57
theorem qkd (c:UInt8) (w:World):Calls Tryz.prog 165 #[jk c] w fun e w'=>e= .returned (.bool (part c))∧w'=w:=by
 refine qDk fun ρ a=> ?_;simp [qrm,a];refine (qfz c w).mono ?_;rintro _ _ ⟨rfl,rfl⟩;cases b:ve c with
 |true=>simp [part,b]
 |false=>
  simp [a];refine (qfB c _).mono ?_;rintro _ _ ⟨rfl,rfl⟩;simp [part,b]
theorem qvs (c:UInt8) (w:World):Calls Tryz.prog 346 #[jk c] w fun e w'=>e= .returned (.bool (yp c))∧w'=w:=by
 refine qBg fun ρ a=> ?_;simp [qoO,a,jk,yp];rw [Bool.eq_iff_iff];simp only [Bool.or_eq_true,decide_eq_true_eq,beq_iff_eq];exact or_congr (or_congr (xX c 32 (by decide)) (xX c 9 (by decide))) (xX c 10 (by decide))
theorem qbb {b:Bs} {i:Nat} (h:i<b.length):Option.map (fun c:UInt8=>Value.int .u8 (c.toNat:Int)) (qc b)[i]? =some (jk b[i]):=qvK h
theorem qlr (s:Bs) (v:s.length<4611686018427387904) (w:World):Calls Tryz.prog 168 #[.string (qc s)] w fun e w'=>e= .returned (.int .i64 (qP s))∧w'=w:=by
 refine qDe fun ρ c=> ?_;simp [qrj];refine jj 3 s.length (fun k i w'=>w'=w∧i 0= .string (qc s)∧∀j (b:j<s.length),j<k→part s[j]=true) (by simp) ⟨rfl,by simp [c],by simp⟩ ?_;rintro k i w' x g ⟨rfl,c,a⟩;by_cases l:k<s.length
 ·have fin:part s[k]=false→qP s=k:=fun u=>wY s k (by omega) (fun j b h=>a j b h) (fun _=>u);simp [qij,g,c,l];refine (qgj s[k] _).mono ?_;rintro _ _ ⟨rfl,rfl⟩;cases p:ve s[k] with
  |true=>
   simp [qil,g,qp (n:=(k:Int)+1) (by omega),c];intro j b o;by_cases e:j=k
   ·subst e;simp [part,p]
   ·exact a j b (by omega)
  |false=>
   simp [g,c,l];refine (qgl s[k] _).mono ?_;rintro _ _ ⟨rfl,rfl⟩;cases t:qO s[k] with
   |true=>
    simp [qil,g,qp (n:=(k:Int)+1) (by omega),c];intro j b o;by_cases e:j=k
    ·subst e;simp [part,t]
    ·exact a j b (by omega)
   |false=>simp [qik,g,fin (by simp [part,p,t])]
 ·have m:k=s.length:=by omega
  subst m;simp [qij,g,c,qik,undef];rw [qP,wY s s.length (Nat.le_refl _) (fun j b h=>a j b h) (fun h=>by omega)]
theorem qlt (s:Bs) (u:s.length<4611686018427387904) (w:World):Calls Tryz.prog 244 #[.string (qc s)] w fun e w'=>e= .returned (.int .i64 (jO s))∧w'=w:=by
 refine qB8 fun ρ g=> ?_;simp [qpP];refine jj 3 s.length (fun k c w'=>w'=w∧c 0= .string (qc s)∧∀j (b:j<s.length),j<k→qO s[j]=true) (by simp) ⟨rfl,by simp [g],by simp⟩ ?_;rintro k c w' v i ⟨rfl,g,a⟩;by_cases m:k<s.length
 ·have fin:qO s[k]=false→jO s=k:=fun p=>wY s k (by omega) (fun j b h=>a j b h) (fun _=>p);simp [qhN,i,g,m];refine (qgl s[k] _).mono ?_;rintro _ _ ⟨rfl,rfl⟩;cases o:qO s[k] with
  |true=>
   simp [qpO,i,qp (n:=(k:Int)+1) (by omega),g];intro j b t;by_cases e:j=k
   ·subst e;exact o
   ·exact a j b (by omega)
  |false=>simp [qhO,i,fin o]
 ·have l:k=s.length:=by omega
  subst l;simp [qhN,i,g,qhO,undef];rw [jO,wY s s.length (Nat.le_refl _) (fun j b h=>a j b h) (fun h=>by omega)]
theorem qxK (s:Bs) (x:s.length<4611686018427387904) (w:World):Calls Tryz.prog 175 #[.string (qc s)] w fun e w'=>e= .returned (.int .i64 (jb s))∧w'=w:=by
 refine qC9 fun ρ l=> ?_;simp [qrc];refine jj 3 s.length (fun k i w'=>w'=w∧i 0= .string (qc s)∧∀j (g:j<s.length),j<k→s[j]≠10) (by simp) ⟨rfl,by simp [l],by simp⟩ ?_;rintro k i w' y m ⟨rfl,l,b⟩;by_cases p:k<s.length
 ·have fin:s[k]=10→jb s=k:=fun u=>wY s k (by omega) (fun j g h=>by simpa using b j g h) (fun _=>by simpa using u);have t:=xX s[k] 10 (by decide);simp [qig,m,l,p];by_cases c:s[k]=10
  ·have a:(s[k].toNat:Int)=10:=t.2 c;simp [a,qih,m,fin c]
  ·have a:¬(s[k].toNat:Int)=10:=fun h=>c (t.1 h);simp [a,qrb,m,qp (n:=(k:Int)+1) (by omega),l];intro j g v;by_cases e:j=k
   ·subst e;exact c
   ·exact b j g (by omega)
 ·have o:k=s.length:=by omega
  subst o;simp [qig,m,l,qih];rw [jb,wY s s.length (Nat.le_refl _) (fun j g h=>by simpa using b j g h) (fun h=>by omega)]
theorem qgk {w:World} {v:Value} {l:List Bs} (s:Bs) (g:qS w v l):Calls Tryz.prog 235 #[v, .string (qc s)] w fun e w'=>e= .returned (.bool (l.contains s))∧w'=w:=by
 have x:=g.bd;refine qCm fun ρ h m=> ?_;simp [qqa];refine jj 5 l.length (fun k b w'=>w'=w∧b 0=v∧b 1= .string (qc s)∧∀j (i:j<l.length),j<k→l[j]≠s) (by simp) ⟨rfl,by simp [h],by simp [m],by simp⟩ ?_;rintro k b w' z p ⟨rfl,h,m,a⟩;by_cases c:k<l.length
 ·simp [qhX,qp8,p,h,m,g.is,g.len,c,g.cell k c,qe,qJ];by_cases o:l[k]=s
  ·simp [o];exact o▸List.getElem_mem c
  ·simp [o,qp9,p,qp (n:=(k:Int)+1) (by omega),h,m];intro j i y;by_cases e:j=k
   ·subst e;exact o
   ·exact a j i (by omega)
 ·have t:k=l.length:=by omega
  subst t;simp [qhX,p,h,g.is,g.len,qp7];intro u;obtain ⟨j,i,rfl⟩:=List.getElem_of_mem u;exact a j i i rfl
def qaf (w w':World) (v:Value) (l:List Bs):Prop:=Own w.heap.size 9 1 w' v (l.map qe)∧qb w w'
theorem qaf.sl {w w':World} {v:Value} {l:List Bs} (h:qaf w w' v l) (a:l.length<4611686018427387904):qS w' v l:=h.1.sl a
theorem qcY:xG Tryz.prog 51=some (9,1):=by kernel_rfl
theorem quH:vO.length=46:=rfl
theorem qv0:qW.length=21:=rfl
theorem qEL:Lib.fields [97,110,100,32,97,114,114,97,121,32,98,101,103,105,110,32,98,111,111,108,32,98,114,101,97,107,32,99,108,117,115,116,101,114,32,100,111,32,100,111,119,110,32,101,108,115,101,32,101,108,115,101,105,102,32,101,110,100,32,101,120,99,101,112,116,32,102,97,108,115,101,32,102,111,114,32,104,97,115,32,105,102,32,105,110,32,105,110,116,32,105,115,32,105,116,101,114,32,109,111,100,32,110,105,108,32,110,111,116,32,110,117,108,108,32,111,110,101,111,102,32,111,114,32,111,116,104,101,114,115,32,112,114,111,99,32,112,117,116,32,114,101,99,111,114,100,32,114,101,112,32,114,101,116,117,114,110,32,114,101,116,117,114,110,115,32,115,105,103,110,97,108,32,115,105,103,110,97,108,115,32,116,97,103,32,116,97,103,99,97,115,101,32,116,104,101,110,32,116,114,117,101,32,117,112,32,118,97,114,32,119,104,101,110,32,119,104,101,114,101,32,119,104,105,108,101,32,121,105,101,108,100,32,121,105,101,108,100,115]=vO:=by kernel_rfl
theorem qEM:Lib.fields [36,32,40,32,41,32,42,32,43,32,44,32,45,32,46,32,47,32,58,32,58,61,32,59,32,60,32,60,61,32,61,32,63,32,91,32,93,32,95,32,123,32,125]=qW:=by kernel_rfl
theorem qmm {w:World} (i:G w) (s:Bs) (l:List Bs) (h:l.length≤maxLen) (g:s.length<4294967281) (k:s.all (fun b=>decide (b.toNat<128))=true) (c:Lib.fields s=l):
  Calls Tryz.prog 332 #[.string (qc s)] w fun e w'=>∃v,e= .returned v∧qaf w w' v l:=by
 refine (Tryz.fields (qc s) w g (fun j b m=> ?_) i.sp).mono ?_
 ·have:=List.all_eq_true.1 k b (List.mem_of_getElem? m);simpa using this
 ·rintro _ _ ⟨rfl,rfl⟩;have a:Lib.fields (qc s).data.toList=l:=c;rw [a];refine ⟨_,rfl, ?_,kj _ _⟩;exact Own.lit (cs:=l.map qe) (qct w _ 9) (by simp) (Nat.le_refl _) h
theorem qvi {w:World} (a:G w):Calls Tryz.prog 286 #[] w fun e w'=>∃v,e= .returned v∧qaf w w' v vO:=by
 refine qBE fun ρ=> ?_;simp [qpk];refine (qmm a _ vO (by decide) (by decide) (by decide) qEL).mono ?_;rintro _ b ⟨v,rfl,h⟩;simp [h]
theorem qxG {w:World}:Calls Tryz.prog 236 #[] w fun e w'=>∃v,e= .returned v∧qaf w w' v vO:=by
 refine qCk fun ρ=> ?_;simp [qp6];refine jN qcY (by decide) (by decide) (by simp [Value.cells]) fun B W b c a _=> ?_;simp [Value.cells] at a⊢;exact ⟨Own.lit (cs:=vO.map qe) a rfl b (by decide),c⟩
theorem qlq {w:World}:Calls Tryz.prog 246 #[] w fun e w'=>∃v,e= .returned v∧qaf w w' v qW:=by
 refine qB5 fun ρ=> ?_;simp [qpM];refine jN qcY (by decide) (by decide) (by simp [Value.cells]) fun B W b c a _=> ?_;simp [Value.cells] at a⊢;exact ⟨Own.lit (cs:=qW.map qe) a rfl b (by decide),c⟩
theorem qvV:(qW.mergeSort fun x y=>decide (x≤y))=qW:=List.mergeSort_of_pairwise (by decide)
theorem qvj {w:World} {base:Nat} {v:Value} (I:Own base 9 1 w v (qW.map qe)) (z:base≤w.heap.size):
  Calls Tryz.prog 195 #[v] w fun e w'=>e= .returned (.tuple #[])∧Own base 9 1 w' v (qW.map qe)∧Below base w w':=by
 rcases I with ⟨rfl,x⟩|⟨g,off,n,cap,cur,rfl,E,o,A,s,B,p,C⟩
 ·cases x
 ·have y:n=qW.length:=by simp at A;omega
  have t:=Own.sl (enc:=qe) (xs:=qW) (.inr ⟨g,off,n,cap,cur,rfl,E,o,A,s,B,p,C⟩:Own base 9 1 w _ _) (by decide);have u:g<w.heap.size:=(Array.getElem?_eq_some_iff.1 o).1;have H:Sort.Holds encStr w g off qW.toArray:=by
   intro j J;have l:j<qW.length:=by simpa using J
   have:=t.cell j l;simp only [qD,vM] at this;refine ⟨?_,by simp [World.frozen?,o]⟩;rw [this];simp [l];rfl
  have F:=Tryz.sort_some g off cap qW w H u (by decide);rw [←y,qvV] at F;refine F.mono ?_;rintro _ _ ⟨rfl,m,os,rfl⟩;have b:(Sort.grow (Sort.putRow encStr (Sort.ahead w m) g off qW.toArray) os).heap[g]? =some (.cells (Sort.putCells encStr off qW.toArray cur) 9 (0,0)):=by
   rw [Sort.heap_grow_old _ _ (by simpa [Sort.putRow,Sort.mapBlock] using u)];simp [Sort.putRow,Sort.mapBlock,Sort.ahead,Array.getElem?_modify,o,Sort.onCells]
  refine ⟨rfl, .inr ⟨g,off,n,cap,_,rfl,E,b,A,s,B,by simpa [Sort.putCells] using p, ?_⟩, ?_⟩
  ·rw [←C];refine List.ext_getElem? fun i=> ?_;simp only [List.getElem?_take,List.getElem?_drop];split
   ·rename_i L;have h:i<qW.length:=by omega
    have c:off+i<cur.size:=by omega
    have a:=t.cell i h;simp only [qD,vM,World.cell?,o] at a;simp [c] at a;simp only [Array.getElem?_toList];simp [Sort.putCells,c,h];rw [a];rfl
   ·rfl
  ·refine ⟨rfl,rfl,rfl,by simp [Sort.grow,Sort.putRow,Sort.mapBlock,Sort.ahead],fun k K=> ?_⟩;rw [Sort.heap_grow_old _ _ (by simp [Sort.putRow,Sort.mapBlock,Sort.ahead];omega)];have:g≠k:=by omega
   simp [Sort.putRow,Sort.mapBlock,Sort.ahead,Array.getElem?_modify,this]
theorem qvk {w:World} (h:G w):Calls Tryz.prog 310 #[] w fun e w'=>∃v,e= .returned v∧qaf w w' v qW:=by
 refine qBm fun ρ=> ?_;simp [qoV];refine (qmm h _ qW (by decide) (by decide) (by decide) qEM).mono ?_;rintro _ j ⟨v,rfl,g,a⟩;simp;refine (qvj g a.size).mono ?_;rintro _ i ⟨rfl,b,c⟩;simp;exact ⟨b,qEY a c⟩
end Go.L01
