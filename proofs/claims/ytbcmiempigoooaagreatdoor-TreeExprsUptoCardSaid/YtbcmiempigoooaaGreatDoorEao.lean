/- Lemmas for a claim about layer 2 (tree). No conditions but those they state. -/
import Derived.Test.YtbcmiempigoooaaGreatDoorEan
import Derived.Lib.Walk
import Derived.WalkKit
import Derived.Laws.Externs
import Derived.Laws.Pointers
set_option linter.all false
namespace Go.L01
open Go Go.Eng Go.Proofs Go.RowKit
set_option maxRecDepth 100000
set_option maxHeartbeats 2000000
theorem qwX:qh Tryz.prog 177=true:=by kernel_rfl
theorem qhX:jT Tryz.prog 112 1=true:=by kernel_rfl
theorem qeV:wI Tryz.prog 112=some (5,1):=by kernel_rfl
def qk3:∃j,Tryz.prog.info? 114=some j/\j.size=2:=by
 obtain ⟨j,a,b⟩:=ua.1 Tryz.extra169.sizeBuilder;exact ⟨j,a,b⟩
def qd2:∃i,Tryz.prog.info? 5=some i/\i.zero=some (.int .u8 0)/\i.size=1/\i.bytes=1:=by
 have h:=Tryz.extra169.infoByte;obtain ⟨i,b,a⟩:=ua.1 h;simp only [uQ] at a;exact ⟨i,b,a.1,a.2.1,a.2.2⟩
abbrev Bd (B b:Nat) (bs:Bs) (w:World):Prop:=Lib.IsBuilder 114 5 B b (bs.map jn) w
def qJ1 (l:Bs):Lib.byteCells l=l.map jn:=by
 simp [Lib.byteCells,jn]
def qh1 (s:ByteArray):Lib.strCells s=s.data.toList.map jn:=by
 simp [Lib.strCells,jn]
def ql2 (b:Nat) (w:World) (c:w.cell? ⟨b,0,none⟩=some (.pointer (some ⟨b,0,none⟩))):
  Calls Tryz.prog 177 #[.pointer (some ⟨b,0,none⟩)] w fun e w'=>e=.returned (.tuple #[])/\w'=w:=by
 obtain ⟨j,a,_⟩:=qk3
 go_enter Tryz.func177,Tryz.ntmps177
 go_wp2
 rw [Lib.run_neq_ptr_same w _ Tryz.underlying111 a]
 go_wp2
 go_end0
 exact ⟨rfl,rfl⟩
def qxx (b:Nat) (w:World) (i:w.cell? ⟨b,0,none⟩=some (.pointer none)) (a:w.shape? b=some (114,2)) (h:w.frozen? ⟨b,0,none⟩=false):
  Calls Tryz.prog 177 #[.pointer (some ⟨b,0,none⟩)] w fun e w'=>e=.returned (.tuple #[])/\w'=w.setCell ⟨b,0,none⟩ (.pointer (some ⟨b,0,none⟩)):=by
 obtain ⟨j,g,c⟩:=qk3
 go_enter Tryz.func177,Tryz.ntmps177
 go_wp2
 rw [Lib.run_to_unsafe w ⟨b,0,none⟩ Tryz.underlying111 Tryz.underlying254 g (by rw [c];decide) a (Nat.zero_lt_succ 1)];simp only [Result.andThen];rw [Oper.upon_value]
 go_wp2
 rw [run_callFunc_extern Tryz.func247 (by kernel_rfl) (by kernel_rfl) (by kernel_rfl) (e:=Extern.AbiNoEscape.same) (by kernel_rfl),Lib.run_noEscape];simp only [Result.andThen];rw [Oper.upon_value]
 go_wp2
 rw [Lib.run_from_unsafe w ⟨b,0,none⟩ Tryz.underlying254 Tryz.underlying111 g a Tryz.extra169.liesBuilder];simp only [Result.andThen];rw [Oper.upon_value]
 go_wp2
 go_end0
 exact ⟨rfl,rfl⟩
def qxy {w:World} {B b:Nat} {a:List Value} (h:Lib.IsBuilder 114 5 B b a w):
  Calls Tryz.prog 177 #[.pointer (some ⟨b,0,none⟩)] w fun e w'=>e=.returned (.tuple #[])/\Lib.BuilderAt 114 5 B b (.pointer (some ⟨b,0,none⟩)) a w'/\Below B w w':=by
 rcases h with h|h
 ·refine (qxx b w h.cell0 h.shape h.frozen0).mono ?_;rintro _ _ ⟨rfl,rfl⟩;exact ⟨rfl,h.used _,(Below.refl B w).setCell (p:=⟨b,0,none⟩) h.1 _⟩
 ·refine (ql2 b w h.cell0).mono ?_;rintro _ _ ⟨rfl,rfl⟩;exact ⟨rfl,h,Below.refl B _⟩
def qoM {w:World} {B b:Nat} {p v g:Value} {c:List Value} (i:B<=b) (h:Blk w b #[p,v] 114) (a:w.ownsRow B 5 1 g c.length c):∀W,Only b w W->Blk W b #[p,g] 114->Lib.BuilderAt 114 5 B b p c W:=by
 intro W j k;have e:=Lib.ownBlock_ne a h.heap (by decide);exact ⟨i,g,k.heap,a.kept (qfv j) (.inr e),e⟩
def qKz {w:World} {B b:Nat} {l:Bs} (s:Bs) (h:Bd B b l w) (H:l.length+s.length<=100000000) (V:B<=w.heap.size):
  Calls Tryz.prog 89 #[.pointer (some ⟨b,0,none⟩),.string (qb s)] w fun e w'=>e=.returned (.tuple #[.int .i64 s.length,.nilIface])/\Bd B b (l++s) w'/\Below B w w':=by
 refine qqM fun ρ K I=>?_;simp [qjA,K,qwX];refine (qxy h).mono ?_;rintro _ w1 ⟨rfl,⟨J,v,u,c,A⟩,x⟩;have F:Blk w1 b #[.pointer (some ⟨b,0,none⟩),v] 114:=⟨u⟩;simp [K,I,F.cell];obtain ⟨i,U,W,R,E⟩:=qd2;have Q:=x.size;have C:=F.lt;have p:(qb s).size=s.length:=rfl;obtain ⟨m,W3,O,j,o,_⟩:=Lib.run_append_own_string (P:=Tryz.prog) w1 B 112 9 112 5 i Tryz.underlying112 Tryz.underlying9 U W R E v l.length (l.map jn) (by simpa using c) (qb s) (by rw [p];simp only [maxLen];omega) (by rw [p];omega) (by omega);have a:W3.ownsRow B 5 1 m ((l++s).map jn).length ((l++s).map jn):=by simpa [qh1] using j
 have y:Blk W3 b #[.pointer (some ⟨b,0,none⟩),v] 114:=⟨(o.block b C (fun e=>A e.symm)).trans u⟩;refine jQ (v:=m) (w':=W3) (by simp [execOp,qN,resolve,invoke,builtin,O]) ?_;have n:m.cells=#[m]/\m.oneCell=true:=by
  rcases a.2 with ⟨rfl,_⟩|⟨g,cap,cur,rfl,_⟩<;>exact ⟨rfl,rfl⟩
 simp;refine qW (B:=b) (i:=1) (by simp) y (by simp) (by simp;exact n.1) (by simp;exact n.2) qhX fun W4 t z=>?_;simp [I] at z⊢;refine ⟨.inr (qoM J y a W4 t z), ?_⟩;have L:Below B w W3:=x.grown o (by omega) fun k S=>(c.lt k S).1;exact Below.trans L (yh t J)
def b_string {w:World} {B b:Nat} {a:Bs} (h:Bd B b a w) (c:B<=w.heap.size):
  Calls Tryz.prog 90 #[.pointer (some ⟨b,0,none⟩)] w fun e w'=>e=.returned (.string (qb a))/\Below B w w':=by
 have i:Lib.IsBuilder 114 5 B b (Lib.byteCells a) w:=by rw [qJ1];exact h
 exact (Tryz.b_string B b a w i c).mono fun e w' g=>⟨g.1,g.2⟩
structure G (w:World):Prop where
 sp:∀c:Nat,c<256->w.cell? ⟨3,c,none⟩=some (.int .u8 (if Lib.isSp (UInt8.ofNat c) then 1 else 0))
 pow : Lib.TabIs Tryz.prog w "internal/strconv.uint64pow10" .u64 Lib.pow10Tab
 es:∃te pe,w.cell? ⟨5,0,none⟩=some (.iface te pe)
 er:∃te pe,w.cell? ⟨6,0,none⟩=some (.iface te pe)
def G.ext {w w':World} (h:G w) (hE:qc w w'):G w':=by
 refine ⟨fun c hc=>hE.cell (h.sp c hc), ?_,let ⟨te,pe,h1⟩:=h.es;⟨te,pe,hE.cell h1⟩,let ⟨te,pe,h1⟩:=h.er;⟨te,pe,hE.cell h1⟩⟩;have hp:=h.pow;unfold Lib.TabIs World.var? at hp⊢
 cases hg : Tryz.prog.globalNamed "internal/strconv.uint64pow10" with
 |none=>rw [hg] at hp;cases hp
 |some g=>
  rw [hg] at hp;simp only [Option.bind_some] at hp⊢;cases hh:w.heap[g]? with
  |none=>rw [hh] at hp;cases hp
  |some o=>rw [hE.block g (uq.1 hh).1];exact hp
def qi (b:Bs):Value:=.string (qb b)
abbrev jb (w:World) (v:Value) (l:List Bs):Prop:=Sl qi w v l
@[simp] theorem qDC (b:Bs) (i:Nat):(qb b)[i]? =b[i]? :=by
 show (qb b).data[i]? =_;simp [qb]
def qzo {b:Bs} {i:Nat} (h:i<b.length):((qb b)[i]?).map (fun c:UInt8=>Value.int .u8 c.toNat)=some (jn b[i]):=by
 rw [qDC,ug h];rfl
def QO {p:UInt8->Bool}:∀(s:Bs) (k:Nat),k<=s.length->(∀j (e:j<s.length),j<k->p s[j]=true)->(∀b:k<s.length,p s[k]=false)->(s.takeWhile p).length=k
 |[],k,b,_,_=>by simp at b;subst b;rfl
 |a::s,0,_,_,c=>by
  have:p a=false:=c (by simp);simp [List.takeWhile_cons,this]
 |a::s,k+1,b,g,c=>by
  have l:p a=true:=g 0 (by simp) (by omega);have i:=QO s k (by simpa using b) (fun j e h=>g (j+1) (by simpa using e) (by omega)) (fun b=>c (by simpa using b));simp [List.takeWhile_cons,l,i]
@[simp] theorem qOE:qh Tryz.prog 162=true:=by kernel_rfl
@[simp] theorem qOn:qh Tryz.prog 232=true:=by kernel_rfl
@[simp] theorem qOA:qh Tryz.prog 167=true:=by kernel_rfl
@[simp] theorem qOl:qh Tryz.prog 234=true:=by kernel_rfl
@[simp] theorem qNX:qh Tryz.prog 332=true:=by kernel_rfl
@[simp] theorem qOu:qh Tryz.prog 195=true:=by kernel_rfl
@[simp] theorem qN9:qh Tryz.prog 286=true:=by kernel_rfl
@[simp] theorem qOj:qh Tryz.prog 236=true:=by kernel_rfl
@[simp] theorem qN1:qh Tryz.prog 310=true:=by kernel_rfl
@[simp] theorem qOg:qh Tryz.prog 246=true:=by kernel_rfl
@[simp] theorem qOm:qh Tryz.prog 233=true:=by kernel_rfl
@[simp] theorem qOk:qh Tryz.prog 235=true:=by kernel_rfl
@[simp] theorem qOB:qh Tryz.prog 166=true:=by kernel_rfl
@[simp] theorem qOy:qh Tryz.prog 169=true:=by kernel_rfl
def wC (c:UInt8) (n:Nat) (a:n<256):((c.toNat:Int)=(n:Int))↔c=UInt8.ofNat n:=by
 rw [Int.ofNat_inj,<-JN];have:(UInt8.ofNat n).toNat=n:=by simp;omega
 rw [this]
def lt2 (c:UInt8) (a b:Nat):(decide ((a:Int)<=(c.toNat:Int))&&decide ((c.toNat:Int)<=(b:Int)))=(decide (a<=c.toNat)&&decide (c.toNat<=b)):=by
 rw [uJ];simp only [j0,kr];omega
def qhQ (c:UInt8) (w:World):Calls Tryz.prog 162 #[jn c] w fun e w'=>e=.returned (.bool (jI c))/\w'=w:=by
 refine qHy fun ρ a=>?_;simp [quN,a,jn,jI];exact lt2 c 97 122
def qhS (c:UInt8) (w:World):Calls Tryz.prog 232 #[jn c] w fun e w'=>e=.returned (.bool (qD c))/\w'=w:=by
 refine qGA fun ρ a=>?_;simp [qtt,a,jn,qD];exact lt2 c 48 57
def qiK (c:UInt8) (w:World):Calls Tryz.prog 167 #[jn c] w fun e w'=>e=.returned (.bool (jI c))/\w'=w:=by
 refine qHp fun ρ a=>?_;simp [quI,a,jn,jI];exact lt2 c 97 122
def qiM (c:UInt8) (w:World):Calls Tryz.prog 234 #[jn c] w fun e w'=>e=.returned (.bool (qD c))/\w'=w:=by
 refine qGw fun ρ a=>?_;simp [qto,a,jn,qD];exact lt2 c 48 57
def qm8 (c:UInt8) (w:World):Calls Tryz.prog 165 #[jn c] w fun e w'=>e=.returned (.bool (part c))/\w'=w:=by
 refine qHt fun ρ b=>?_;simp [quK,b];refine (qhQ c w).mono ?_;rintro _ _ ⟨rfl,rfl⟩;cases a:jI c with
 |true=>simp [part,a]
 |false=>
  simp [b];refine (qhS c _).mono ?_;rintro _ _ ⟨rfl,rfl⟩;simp [part,a]
def qy6 (c:UInt8) (w:World):Calls Tryz.prog 346 #[jn c] w fun e w'=>e=.returned (.bool (ke c))/\w'=w:=by
 refine qFk fun ρ a=>?_;simp [qr0,a,jn,ke];rw [uJ];simp only [uk,kr,ur];exact or_congr (or_congr (wC c 32 (by decide)) (wC c 9 (by decide))) (wC c 10 (by decide))
def qc3 {b:Bs} {i:Nat} (h:i<b.length):Option.map (fun c:UInt8=>Value.int .u8 (c.toNat:Int)) (qb b)[i]? =some (jn b[i]):=qzo h
def qoz (s:Bs) (v:s.length<4611686018427387904) (w:World):Calls Tryz.prog 168 #[.string (qb s)] w fun e w'=>e=.returned (.int .i64 (qL s))/\w'=w:=by
 refine qHn fun ρ c=>?_;simp [quH];refine vD 3 s.length (fun k i w'=>w'=w/\i 0=.string (qb s)/\∀j (b:j<s.length),j<k->part s[j]=true) (by simp) ⟨rfl,by simp [c],by simp⟩ ?_;rintro k i w' x g ⟨rfl,c,a⟩;by_cases l:k<s.length
 ·have fin:part s[k]=false->qL s=k:=fun u=>QO s k (by omega) (fun j b h=>a j b h) (fun _=>u);simp [qkG,g,c,l];refine (qiK s[k] _).mono ?_;rintro _ _ ⟨rfl,rfl⟩;cases p:jI s[k] with
  |true=>
   simp [qkI,g,qH (n:=(k:Int)+1) (by omega),c];intro j b m;by_cases e:j=k
   ·subst e;simp [part,p]
   ·exact a j b (by omega)
  |false=>
   simp [g,c,l];refine (qiM s[k] _).mono ?_;rintro _ _ ⟨rfl,rfl⟩;cases t:qD s[k] with
   |true=>
    simp [qkI,g,qH (n:=(k:Int)+1) (by omega),c];intro j b m;by_cases e:j=k
    ·subst e;simp [part,t]
    ·exact a j b (by omega)
   |false=>simp [qkH,g,fin (by simp [part,p,t])]
 ·have o:k=s.length:=by omega
  subst o;simp [qkG,g,c,qkH,undef];rw [qL,QO s s.length (j1 _) (fun j b h=>a j b h) (fun h=>by omega)]
def qoB (s:Bs) (u:s.length<4611686018427387904) (w:World):Calls Tryz.prog 244 #[.string (qb s)] w fun e w'=>e=.returned (.int .i64 (jz s))/\w'=w:=by
 refine qGe fun ρ g=>?_;simp [qsY];refine vD 3 s.length (fun k c w'=>w'=w/\c 0=.string (qb s)/\∀j (b:j<s.length),j<k->qD s[j]=true) (by simp) ⟨rfl,by simp [g],by simp⟩ ?_;rintro k c w' v i ⟨rfl,g,a⟩;by_cases l:k<s.length
 ·have fin:qD s[k]=false->jz s=k:=fun t=>QO s k (by omega) (fun j b h=>a j b h) (fun _=>t);simp [qj9,i,g,l];refine (qiM s[k] _).mono ?_;rintro _ _ ⟨rfl,rfl⟩;cases o:qD s[k] with
  |true=>
   simp [qsX,i,qH (n:=(k:Int)+1) (by omega),g];intro j b p;by_cases e:j=k
   ·subst e;exact o
   ·exact a j b (by omega)
  |false=>simp [qka,i,fin o]
 ·have m:k=s.length:=by omega
  subst m;simp [qj9,i,g,qka,undef];rw [jz,QO s s.length (j1 _) (fun j b h=>a j b h) (fun h=>by omega)]
def qBn (s:Bs) (x:s.length<4611686018427387904) (w:World):Calls Tryz.prog 175 #[.string (qb s)] w fun e w'=>e=.returned (.int .i64 (jr s))/\w'=w:=by
 refine qHd fun ρ l=>?_;simp [qur];refine vD 3 s.length (fun k i w'=>w'=w/\i 0=.string (qb s)/\∀j (g:j<s.length),j<k->s[j]≠10) (by simp) ⟨rfl,by simp [l],by simp⟩ ?_;rintro k i w' y m ⟨rfl,l,a⟩;by_cases o:k<s.length
 ·have fin:s[k]=10->jr s=k:=fun v=>QO s k (by omega) (fun j g h=>by simpa using a j g h) (fun _=>by simpa using v);have t:=wC s[k] 10 (by decide);simp [qkA,m,l,o];by_cases c:s[k]=10
  ·have b:(s[k].toNat:Int)=10:=t.2 c;simp [b,qkB,m,fin c]
  ·have b:¬(s[k].toNat:Int)=10:=fun h=>c (t.1 h);simp [b,quq,m,qH (n:=(k:Int)+1) (by omega),l];intro j g u;by_cases e:j=k
   ·subst e;exact c
   ·exact a j g (by omega)
 ·have p:k=s.length:=by omega
  subst p;simp [qkA,m,l,qkB];rw [jr,QO s s.length (j1 _) (fun j g h=>by simpa using a j g h) (fun h=>by omega)]
def qiL {w:World} {v:Value} {l:List Bs} (s:Bs) (g:jb w v l):Calls Tryz.prog 235 #[v,.string (qb s)] w fun e w'=>e=.returned (.bool (l.contains s))/\w'=w:=by
 have x:=g.bd;refine qGu fun ρ i o=>?_;simp [qtn];refine vD 5 l.length (fun k b w'=>w'=w/\b 0=v/\b 1=.string (qb s)/\∀j (h:j<l.length),j<k->l[j]≠s) (by simp) ⟨rfl,by simp [i],by simp [o],by simp⟩ ?_;rintro k b w' z t ⟨rfl,i,o,a⟩;by_cases c:k<l.length
 ·simp [qkk,qtl,t,i,o,g.is,g.len,c,g.cell k c,qi,jC];by_cases m:l[k]=s
  ·simp [m];exact m▸wz c
  ·simp [m,qtm,t,qH (n:=(k:Int)+1) (by omega),i,o];intro j h u;by_cases e:j=k
   ·subst e;exact m
   ·exact a j h (by omega)
 ·have p:k=l.length:=by omega
  subst p;simp [qkk,t,i,g.is,g.len,qtk];intro y;obtain ⟨j,h,rfl⟩:=JW y;exact a j h h rfl
def qbM (w w':World) (v:Value) (l:List Bs):Prop:=Own w.heap.size 9 1 w' v (l.map qi)/\qc w w'
def qbM.sl {w w':World} {v:Value} {l:List Bs} (h:qbM w w' v l) (a:l.length<4611686018427387904):jb w' v l:=h.1.sl a
theorem qeW:wI Tryz.prog 51=some (9,1):=by kernel_rfl
theorem qye:xA.length=46:=rfl
theorem qzG:jf.length=21:=rfl
theorem qIG:Lib.fields [97,110,100,32,97,114,114,97,121,32,98,101,103,105,110,32,98,111,111,108,32,98,114,101,97,107,32,99,108,117,115,116,101,114,32,100,111,32,100,111,119,110,32,101,108,115,101,32,101,108,115,101,105,102,32,101,110,100,32,101,120,99,101,112,116,32,102,97,108,115,101,32,102,111,114,32,104,97,115,32,105,102,32,105,110,32,105,110,116,32,105,115,32,105,116,101,114,32,109,111,100,32,110,105,108,32,110,111,116,32,110,117,108,108,32,111,110,101,111,102,32,111,114,32,111,116,104,101,114,115,32,112,114,111,99,32,112,117,116,32,114,101,99,111,114,100,32,114,101,112,32,114,101,116,117,114,110,32,114,101,116,117,114,110,115,32,115,105,103,110,97,108,32,115,105,103,110,97,108,115,32,116,97,103,32,116,97,103,99,97,115,101,32,116,104,101,110,32,116,114,117,101,32,117,112,32,118,97,114,32,119,104,101,110,32,119,104,101,114,101,32,119,104,105,108,101,32,121,105,101,108,100,32,121,105,101,108,100,115]=xA:=by kernel_rfl
theorem qIH:Lib.fields [36,32,40,32,41,32,42,32,43,32,44,32,45,32,46,32,47,32,58,32,58,61,32,59,32,60,32,60,61,32,61,32,63,32,91,32,93,32,95,32,123,32,125]=jf:=by kernel_rfl
def qpD {w:World} (g:G w) (s:Bs) (l:List Bs) (h:l.length<=maxLen) (m:s.length<4294967281) (k:s.all (fun b=>decide (b.toNat<128))=true) (c:Lib.fields s=l):
  Calls Tryz.prog 332 #[.string (qb s)] w fun e w'=>∃v,e=.returned v/\qbM w w' v l:=by
 refine (Tryz.fields (qb s) w m (fun j b i=>?_) g.sp).mono ?_
 ·have:=um.1 k b (JD i);simpa using this
 ·rintro _ _ ⟨rfl,rfl⟩;have a:Lib.fields (qb s).data.toList=l:=c;rw [a];refine ⟨_,rfl, ?_,QD _ _⟩;exact Own.lit (cs:=l.map qi) (qeg w _ 9) (by simp) (j1 _) h
def qyW {w:World} (a:G w):Calls Tryz.prog 286 #[] w fun e w'=>∃v,e=.returned v/\qbM w w' v xA:=by
 refine qFL fun ρ=>?_;simp [qst];refine (qpD a _ xA (by decide) (by decide) (by decide) qIG).mono ?_;rintro _ w1 ⟨v,rfl,h⟩;simp [h]
def qBj {w:World}:Calls Tryz.prog 236 #[] w fun e w'=>∃v,e=.returned v/\qbM w w' v xA:=by
 refine qGs fun ρ=>?_;simp [qtj];refine jV qeW (by decide) (by decide) (by simp [Value.cells]) fun B W b c a _=>?_;simp [Value.cells] at a⊢;exact ⟨Own.lit (cs:=xA.map qi) a rfl b (by decide),c⟩
def qoy {w:World}:Calls Tryz.prog 246 #[] w fun e w'=>∃v,e=.returned v/\qbM w w' v jf:=by
 refine qGb fun ρ=>?_;simp [qsV];refine jV qeW (by decide) (by decide) (by simp [Value.cells]) fun B W b c a _=>?_;simp [Value.cells] at a⊢;exact ⟨Own.lit (cs:=jf.map qi) a rfl b (by decide),c⟩
def qzB:(jf.mergeSort fun x y=>decide (x<=y))=jf:=List.mergeSort_of_pairwise (by decide)
def qyX {w:World} {base:Nat} {v:Value} (J:Own base 9 1 w v (jf.map qi)) (z:base<=w.heap.size):
  Calls Tryz.prog 195 #[v] w fun e w'=>e=.returned (.tuple #[])/\Own base 9 1 w' v (jf.map qi)/\Below base w w':=by
 rcases J with ⟨rfl,x⟩|⟨g,off,n,cap,cur,rfl,B,o,y,u,F,h,C⟩
 ·cases x
 ·have A:n=jf.length:=by simp at y;omega
  have s:=Own.sl (enc:=qi) (xs:=jf) (.inr ⟨g,off,n,cap,cur,rfl,B,o,y,u,F,h,C⟩:Own base 9 1 w _ _) (by decide);have t:g<w.heap.size:=(uq.1 o).1;have H:Sort.Holds encStr w g off jf.toArray:=by
   intro j I;have c:j<jf.length:=by simpa using I
   have:=s.cell j c;simp only [qQ,kg] at this;refine ⟨?_,by simp [World.frozen?,o]⟩;rw [this];simp [c];rfl
  have E:=Tryz.sort_some g off cap jf w H t (by decide);rw [<-A,qzB] at E;refine E.mono ?_;rintro _ _ ⟨rfl,m,os,rfl⟩;have b:(Sort.grow (Sort.putRow encStr (Sort.ahead w m) g off jf.toArray) os).heap[g]? =some (.cells (Sort.putCells encStr off jf.toArray cur) 9 (0,0)):=by
   rw [Sort.heap_grow_old _ _ (by simpa [Sort.putRow,Sort.mapBlock] using t)];simp [Sort.putRow,Sort.mapBlock,Sort.ahead,J7,o,Sort.onCells]
  refine ⟨rfl,.inr ⟨g,off,n,cap,_,rfl,B,b,y,u,F,by simpa [Sort.putCells] using h, ?_⟩, ?_⟩
  ·rw [<-C];refine Vd fun i=>?_;simp only [JU,Jm];split
   ·rename_i L;have l:i<jf.length:=by omega
    have p:off+i<cur.size:=by omega
    have a:=s.cell i l;simp only [qQ,kg,World.cell?,o] at a;simp [p] at a;simp only [Array.getElem?_toList];simp [Sort.putCells,p,l];rw [a];rfl
   ·rfl
  ·refine ⟨rfl,rfl,rfl,by simp [Sort.grow,Sort.putRow,Sort.mapBlock,Sort.ahead],fun k K=>?_⟩;rw [Sort.heap_grow_old _ _ (by simp [Sort.putRow,Sort.mapBlock,Sort.ahead];omega)];have:g≠k:=by omega
   simp [Sort.putRow,Sort.mapBlock,Sort.ahead,J7,this]
def qyY {w:World} (c:G w):Calls Tryz.prog 310 #[] w fun e w'=>∃v,e=.returned v/\qbM w w' v jf:=by
 refine qFr fun ρ=>?_;simp [qr9];refine (qpD c _ jf (by decide) (by decide) (by decide) qIH).mono ?_;rintro _ w1 ⟨v,rfl,g,a⟩;simp;refine (qyX g a.size).mono ?_;rintro _ i ⟨rfl,b,h⟩;simp;exact ⟨b,qIV a h⟩
end Go.L01
