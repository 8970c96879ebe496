/- Lemmas for a claim about layer 2 (tree). No conditions but those they state. -/
import Derived.Test.YtbcmiempigoooaaGreatDoorVan
import Derived.Lib.Walk
import Derived.WalkKit
import Derived.Laws.Externs
import Derived.Laws.Pointers
set_option linter.all false
namespace Go.L01
open Go Go.Eng Go.Proofs Go.RowKit
set_option maxRecDepth 100000
set_option maxHeartbeats 2000000
theorem qv5:qk Tryz.prog 177=true:=by kernel_rfl
theorem qhj:jh Tryz.prog 112 1=true:=by kernel_rfl
theorem qy6:xB Tryz.prog 112=some (5,1):=by kernel_rfl
def qke:∃j,Tryz.prog.info? 114=some j/\j.size=2:=by
 obtain ⟨j,a,b⟩:=uc.1 Tryz.extra169.sizeBuilder;exact ⟨j,a,b⟩
def qdW:∃i,Tryz.prog.info? 5=some i/\i.zero=some (.int .u8 0)/\i.size=1/\i.bytes=1:=by
 have h:=Tryz.extra169.infoByte;obtain ⟨i,b,a⟩:=uc.1 h;simp only [uD] at a;exact ⟨i,b,a.1,a.2.1,a.2.2⟩
abbrev Bd (B b:Nat) (bs:Bs) (w:AA):Prop:=Lib.IsBuilder 114 5 B b (bs.map jE) w
def qI0 (l:Bs):Lib.byteCells l=l.map jE:=by
 simp [Lib.byteCells,jE]
def qhm (s:ByteArray):Lib.strCells s=s.data.toList.map jE:=by
 simp [Lib.strCells,jE]
def qk3 (b:Nat) (w:AA) (c:w.cell? ⟨b,0,none⟩=some (.pointer (some ⟨b,0,none⟩))):
  Calls Tryz.prog 177 #[.pointer (some ⟨b,0,none⟩)] w fun e w'=>e=.returned (.tuple #[])/\w'=w:=by
 obtain ⟨j,a,_⟩:=qke
 go_enter Tryz.func177,Tryz.ntmps177
 go_wp2
 rw [Lib.run_neq_ptr_same w _ Tryz.underlying111 a]
 go_wp2
 go_end0
 exact ⟨rfl,rfl⟩
def qwt (b:Nat) (w:AA) (i:w.cell? ⟨b,0,none⟩=some (.pointer none)) (a:w.shape? b=some (114,2)) (h:w.frozen? ⟨b,0,none⟩=false):
  Calls Tryz.prog 177 #[.pointer (some ⟨b,0,none⟩)] w fun e w'=>e=.returned (.tuple #[])/\w'=w.setCell ⟨b,0,none⟩ (.pointer (some ⟨b,0,none⟩)):=by
 obtain ⟨j,g,c⟩:=qke
 go_enter Tryz.func177,Tryz.ntmps177
 go_wp2
 rw [Lib.run_to_unsafe w ⟨b,0,none⟩ Tryz.underlying111 Tryz.underlying254 g (by rw [c];decide) a (Nat.zero_lt_succ 1)];simp only [Result.andThen];rw [Oper.upon_value]
 go_wp2
 rw [run_callFunc_extern Tryz.func247 (by kernel_rfl) (by kernel_rfl) (by kernel_rfl) (e:=Extern.AbiNoEscape.same) (by kernel_rfl),Lib.run_noEscape];simp only [Result.andThen];rw [Oper.upon_value]
 go_wp2
 rw [Lib.run_from_unsafe w ⟨b,0,none⟩ Tryz.underlying254 Tryz.underlying111 g a Tryz.extra169.liesBuilder];simp only [Result.andThen];rw [Oper.upon_value]
 go_wp2
 go_end0
 exact ⟨rfl,rfl⟩
def qwu {w:AA} {B b:Nat} {a:List AB} (h:Lib.IsBuilder 114 5 B b a w):
  Calls Tryz.prog 177 #[.pointer (some ⟨b,0,none⟩)] w fun e w'=>e=.returned (.tuple #[])/\Lib.BuilderAt 114 5 B b (.pointer (some ⟨b,0,none⟩)) a w'/\Below B w w':=by
 rcases h with h|h
 ·refine (qwt b w h.cell0 h.shape h.frozen0).mono ?_;rintro _ _ ⟨rfl,rfl⟩;exact ⟨rfl,h.used _,(Below.refl B w).setCell (p:=⟨b,0,none⟩) h.1 _⟩
 ·refine (qk3 b w h.cell0).mono ?_;rintro _ _ ⟨rfl,rfl⟩;exact ⟨rfl,h,Below.refl B _⟩
def qnJ {w:AA} {B b:Nat} {p v g:AB} {c:List AB} (i:B<=b) (h:Blk w b #[p,v] 114) (a:w.ownsRow B 5 1 g c.length c):∀W,Only b w W->Blk W b #[p,g] 114->Lib.BuilderAt 114 5 B b p c W:=by
 intro W j k;have e:=Lib.ownBlock_ne a h.heap (by decide);exact ⟨i,g,k.heap,a.kept (qe5 j) (.inr e),e⟩
def qJU {w:AA} {B b:Nat} {j:Bs} (s:Bs) (h:Bd B b j w) (I:j.length+s.length<=100000000) (O:B<=w.heap.size):
  Calls Tryz.prog 89 #[.pointer (some ⟨b,0,none⟩),.string (qb s)] w fun e w'=>e=.returned (.tuple #[.int .i64 s.length,.nilIface])/\Bd B b (j++s) w'/\Below B w w':=by
 refine qpT fun ρ E J=>?_;simp [qiG,E,qv5];refine (qwu h).mono ?_;rintro _ w1 ⟨rfl,⟨H,v,p,c,A⟩,u⟩;have F:Blk w1 b #[.pointer (some ⟨b,0,none⟩),v] 114:=⟨p⟩;simp [E,J,F.cell];obtain ⟨i,U,V,R,C⟩:=qdW;have Q:=u.size;have z:=F.lt;have q:(qb s).size=s.length:=rfl;obtain ⟨t,W3,K,l,m,_⟩:=Lib.run_append_own_string (P:=Tryz.prog) w1 B 112 9 112 5 i Tryz.underlying112 Tryz.underlying9 U V R C v j.length (j.map jE) (by simpa using c) (qb s) (by rw [q];simp only [maxLen];omega) (by rw [q];omega) (by omega);have a:W3.ownsRow B 5 1 t ((j++s).map jE).length ((j++s).map jE):=by simpa [qhm] using l
 have o:Blk W3 b #[.pointer (some ⟨b,0,none⟩),v] 114:=⟨(m.block b z (fun e=>A e.symm)).trans p⟩;refine jN (v:=t) (w':=W3) (by simp [execOp,qR,resolve,invoke,builtin,K]) ?_;have y:t.cells=#[t]/\t.oneCell=true:=by
  rcases a.2 with ⟨rfl,_⟩|⟨g,cap,cur,rfl,_⟩<;>exact ⟨rfl,rfl⟩
 simp;refine qD (B:=b) (i:=1) (by simp) o (by simp) (by simp;exact y.1) (by simp;exact y.2) qhj fun W4 x n=>?_;simp [J] at n⊢;refine ⟨.inr (qnJ H o a W4 x n), ?_⟩;have L:Below B w W3:=u.grown m (by omega) fun k S=>(c.lt k S).1;exact Below.trans L (kq x H)
def b_string {w:AA} {B b:Nat} {a:Bs} (h:Bd B b a w) (c:B<=w.heap.size):
  Calls Tryz.prog 90 #[.pointer (some ⟨b,0,none⟩)] w fun e w'=>e=.returned (.string (qb a))/\Below B w w':=by
 have i:Lib.IsBuilder 114 5 B b (Lib.byteCells a) w:=by rw [qI0];exact h
 exact (Tryz.b_string B b a w i c).mono fun e w' g=>⟨g.1,g.2⟩
structure G (w:AA):Prop where
 sp:∀c:Nat,c<256->w.cell? ⟨3,c,none⟩=some (.int .u8 (if Lib.isSp (UInt8.ofNat c) then 1 else 0))
 pow : Lib.TabIs Tryz.prog w "internal/strconv.uint64pow10" .u64 Lib.pow10Tab
 es:∃te pe,w.cell? ⟨5,0,none⟩=some (.iface te pe)
 er:∃te pe,w.cell? ⟨6,0,none⟩=some (.iface te pe)
def G.ext {w w':AA} (h:G w) (hE:qc w w'):G w':=by
 refine ⟨fun c hc=>hE.cell (h.sp c hc), ?_,let ⟨te,pe,h1⟩:=h.es;⟨te,pe,hE.cell h1⟩,let ⟨te,pe,h1⟩:=h.er;⟨te,pe,hE.cell h1⟩⟩;have hp:=h.pow;unfold Lib.TabIs World.var? at hp⊢
 cases hg : Tryz.prog.globalNamed "internal/strconv.uint64pow10" with
 |none=>rw [hg] at hp;cases hp
 |some g=>
  rw [hg] at hp;simp only [Option.bind_some] at hp⊢;cases hh:w.heap[g]? with
  |none=>rw [hh] at hp;cases hp
  |some o=>rw [hE.block g (ul.1 hh).1];exact hp
def qi (b:Bs):AB:=.string (qb b)
abbrev qW (w:AA) (v:AB) (l:List Bs):Prop:=Sl qi w v l
@[simp] theorem qCI (b:Bs) (i:Nat):(qb b)[i]? =b[i]? :=by
 show (qb b).data[i]? =_;simp [qb]
def qyN {b:Bs} {i:Nat} (h:i<b.length):((qb b)[i]?).map (fun c:UInt8=>Value.int .u8 c.toNat)=some (jE b[i]):=by
 rw [qCI,uj h];rfl
def wA {p:UInt8->Bool}:∀(s:Bs) (k:Nat),k<=s.length->(∀j (e:j<s.length),j<k->p s[j]=true)->(∀b:k<s.length,p s[k]=false)->(s.takeWhile p).length=k
 |[],k,b,_,_=>by simp at b;subst b;rfl
 |a::s,0,_,_,c=>by
  have:p a=false:=c (by simp);simp [List.takeWhile_cons,this]
 |a::s,k+1,b,g,c=>by
  have i:p a=true:=g 0 (by simp) (by omega);have h:=wA s k (by simpa using b) (fun j e l=>g (j+1) (by simpa using e) (by omega)) (fun b=>c (by simpa using b));simp [List.takeWhile_cons,i,h]
@[simp] theorem qNK:qk Tryz.prog 162=true:=by kernel_rfl
@[simp] theorem qNm:qk Tryz.prog 232=true:=by kernel_rfl
@[simp] theorem qNG:qk Tryz.prog 167=true:=by kernel_rfl
@[simp] theorem qNk:qk Tryz.prog 234=true:=by kernel_rfl
@[simp] theorem qML:qk Tryz.prog 332=true:=by kernel_rfl
@[simp] theorem qNA:qk Tryz.prog 195=true:=by kernel_rfl
@[simp] theorem qM4:qk Tryz.prog 286=true:=by kernel_rfl
@[simp] theorem qNi:qk Tryz.prog 236=true:=by kernel_rfl
@[simp] theorem qMW:qk Tryz.prog 310=true:=by kernel_rfl
@[simp] theorem qNf:qk Tryz.prog 246=true:=by kernel_rfl
@[simp] theorem qNl:qk Tryz.prog 233=true:=by kernel_rfl
@[simp] theorem qNj:qk Tryz.prog 235=true:=by kernel_rfl
@[simp] theorem qNH:qk Tryz.prog 166=true:=by kernel_rfl
@[simp] theorem qNE:qk Tryz.prog 169=true:=by kernel_rfl
def yU (c:UInt8) (n:Nat) (a:n<256):((c.toNat:Int)=(n:Int))↔c=UInt8.ofNat n:=by
 rw [Int.ofNat_inj,<-UInt8.toNat_inj];have:(UInt8.ofNat n).toNat=n:=by simp;omega
 rw [this]
def lt2 (c:UInt8) (a b:Nat):(decide ((a:Int)<=(c.toNat:Int))&&decide ((c.toNat:Int)<=(b:Int)))=(decide (a<=c.toNat)&&decide (c.toNat<=b)):=by
 rw [uR];simp only [km,ue];omega
def qhb (c:UInt8) (w:AA):Calls Tryz.prog 162 #[jE c] w fun e w'=>e=.returned (.bool (vH c))/\w'=w:=by
 refine qGz fun ρ a=>?_;simp [qtB,a,jE,vH];exact lt2 c 97 122
def qhd (c:UInt8) (w:AA):Calls Tryz.prog 232 #[jE c] w fun e w'=>e=.returned (.bool (qV c))/\w'=w:=by
 refine qFv fun ρ a=>?_;simp [qsw,a,jE,qV];exact lt2 c 48 57
def qnC (c:UInt8) (w:AA):Calls Tryz.prog 167 #[jE c] w fun e w'=>e=.returned (.bool (vH c))/\w'=w:=by
 refine qGq fun ρ a=>?_;simp [qtw,a,jE,vH];exact lt2 c 97 122
def qhY (c:UInt8) (w:AA):Calls Tryz.prog 234 #[jE c] w fun e w'=>e=.returned (.bool (qV c))/\w'=w:=by
 refine qFr fun ρ a=>?_;simp [qsr,a,jE,qV];exact lt2 c 48 57
def qmf (c:UInt8) (w:AA):Calls Tryz.prog 165 #[jE c] w fun e w'=>e=.returned (.bool (part c))/\w'=w:=by
 refine qGu fun ρ a=>?_;simp [qty,a];refine (qhb c w).mono ?_;rintro _ _ ⟨rfl,rfl⟩;cases b:vH c with
 |true=>simp [part,b]
 |false=>
  simp [a];refine (qhd c _).mono ?_;rintro _ _ ⟨rfl,rfl⟩;simp [part,b]
def qym (c:UInt8) (w:AA):Calls Tryz.prog 346 #[jE c] w fun e w'=>e=.returned (.bool (ww c))/\w'=w:=by
 refine qD8 fun ρ a=>?_;simp [qqW,a,jE,ww];rw [uR];simp only [uS,ue,uL];exact or_congr (or_congr (yU c 32 (by decide)) (yU c 9 (by decide))) (yU c 10 (by decide))
def qc6 {b:Bs} {i:Nat} (h:i<b.length):Option.map (fun c:UInt8=>Value.int .u8 (c.toNat:Int)) (qb b)[i]? =some (jE b[i]):=qyN h
def qAn (s:Bs) (u:s.length<4611686018427387904) (w:AA):Calls Tryz.prog 168 #[.string (qb s)] w fun e w'=>e=.returned (.int .i64 (qX s))/\w'=w:=by
 refine qGo fun ρ c=>?_;simp [qtv];refine zH 3 s.length (fun k l w'=>w'=w/\l 0=.string (qb s)/\∀j (b:j<s.length),j<k->part s[j]=true) (by simp) ⟨rfl,by simp [c],by simp⟩ ?_;rintro k l w' v g ⟨rfl,c,a⟩;by_cases i:k<s.length
 ·have fin:part s[k]=false->qX s=k:=fun t=>wA s k (by omega) (fun j b h=>a j b h) (fun _=>t);simp [qjK,g,c,i];refine (qnC s[k] _).mono ?_;rintro _ _ ⟨rfl,rfl⟩;cases p:vH s[k] with
  |true=>
   simp [qjM,g,q7 (n:=(k:Int)+1) (by omega),c];intro j b o;by_cases e:j=k
   ·subst e;simp [part,p]
   ·exact a j b (by omega)
  |false=>
   simp [g,c,i];refine (qhY s[k] _).mono ?_;rintro _ _ ⟨rfl,rfl⟩;cases q:qV s[k] with
   |true=>
    simp [qjM,g,q7 (n:=(k:Int)+1) (by omega),c];intro j b o;by_cases e:j=k
    ·subst e;simp [part,q]
    ·exact a j b (by omega)
   |false=>simp [qjL,g,fin (by simp [part,p,q])]
 ·have m:k=s.length:=by omega
  subst m;simp [qjK,g,c,qjL,undef];rw [qX,wA s s.length (kh _) (fun j b h=>a j b h) (fun h=>by omega)]
def qnD (s:Bs) (t:s.length<4611686018427387904) (w:AA):Calls Tryz.prog 244 #[.string (qb s)] w fun e w'=>e=.returned (.int .i64 (jO s))/\w'=w:=by
 refine qFl fun ρ c=>?_;simp [qsk];refine zH 3 s.length (fun k g w'=>w'=w/\g 0=.string (qb s)/\∀j (b:j<s.length),j<k->qV s[j]=true) (by simp) ⟨rfl,by simp [c],by simp⟩ ?_;rintro k g w' u i ⟨rfl,c,a⟩;by_cases l:k<s.length
 ·have fin:qV s[k]=false->jO s=k:=fun p=>wA s k (by omega) (fun j b h=>a j b h) (fun _=>p);simp [qjs,i,c,l];refine (qhY s[k] _).mono ?_;rintro _ _ ⟨rfl,rfl⟩;cases o:qV s[k] with
  |true=>
   simp [qsj,i,q7 (n:=(k:Int)+1) (by omega),c];intro j b q;by_cases e:j=k
   ·subst e;exact o
   ·exact a j b (by omega)
  |false=>simp [qjt,i,fin o]
 ·have m:k=s.length:=by omega
  subst m;simp [qjs,i,c,qjt,undef];rw [jO,wA s s.length (kh _) (fun j b h=>a j b h) (fun h=>by omega)]
def qAs (s:Bs) (v:s.length<4611686018427387904) (w:AA):Calls Tryz.prog 175 #[.string (qb s)] w fun e w'=>e=.returned (.int .i64 (jo s))/\w'=w:=by
 refine qGk fun ρ i=>?_;simp [qtt];refine zH 3 s.length (fun k l w'=>w'=w/\l 0=.string (qb s)/\∀j (g:j<s.length),j<k->s[j]≠10) (by simp) ⟨rfl,by simp [i],by simp⟩ ?_;rintro k l w' x m ⟨rfl,i,b⟩;by_cases o:k<s.length
 ·have fin:s[k]=10->jo s=k:=fun t=>wA s k (by omega) (fun j g h=>by simpa using b j g h) (fun _=>by simpa using t);have q:=yU s[k] 10 (by decide);simp [qjI,m,i,o];by_cases c:s[k]=10
  ·have a:(s[k].toNat:Int)=10:=q.2 c;simp [a,qjJ,m,fin c]
  ·have a:¬(s[k].toNat:Int)=10:=fun h=>c (q.1 h);simp [a,qts,m,q7 (n:=(k:Int)+1) (by omega),i];intro j g u;by_cases e:j=k
   ·subst e;exact c
   ·exact b j g (by omega)
 ·have p:k=s.length:=by omega
  subst p;simp [qjI,m,i,qjJ];rw [jo,wA s s.length (kh _) (fun j g h=>by simpa using b j g h) (fun h=>by omega)]
def qhX {w:AA} {v:AB} {l:List Bs} (s:Bs) (g:qW w v l):Calls Tryz.prog 235 #[v,.string (qb s)] w fun e w'=>e=.returned (.bool (l.contains s))/\w'=w:=by
 have t:=g.bd;refine qFp fun ρ h o=>?_;simp [qsq];refine zH 5 l.length (fun k c w'=>w'=w/\c 0=v/\c 1=.string (qb s)/\∀j (i:j<l.length),j<k->l[j]≠s) (by simp) ⟨rfl,by simp [h],by simp [o],by simp⟩ ?_;rintro k c w' y q ⟨rfl,h,o,a⟩;by_cases b:k<l.length
 ·simp [qju,qso,q,h,o,g.is,g.len,b,g.cell k b,qi,vv];by_cases m:l[k]=s
  ·simp [m];exact m▸uo b
  ·simp [m,qsp,q,q7 (n:=(k:Int)+1) (by omega),h,o];intro j i u;by_cases e:j=k
   ·subst e;exact m
   ·exact a j i (by omega)
 ·have p:k=l.length:=by omega
  subst p;simp [qju,q,h,g.is,g.len,qsn];intro x;obtain ⟨j,i,rfl⟩:=J5 x;exact a j i i rfl
def qbL (w w':AA) (v:AB) (l:List Bs):Prop:=Own w.heap.size 9 1 w' v (l.map qi)/\qc w w'
def qbL.sl {w w':AA} {v:AB} {l:List Bs} (h:qbL w w' v l) (a:l.length<4611686018427387904):qW w' v l:=h.1.sl a
theorem qeB:xB Tryz.prog 51=some (9,1):=by kernel_rfl
theorem qxl:xb.length=46:=rfl
theorem qy5:ji.length=21:=rfl
theorem qHS:Lib.fields [97,110,100,32,97,114,114,97,121,32,98,101,103,105,110,32,98,111,111,108,32,98,114,101,97,107,32,99,108,117,115,116,101,114,32,100,111,32,100,111,119,110,32,101,108,115,101,32,101,108,115,101,105,102,32,101,110,100,32,101,120,99,101,112,116,32,102,97,108,115,101,32,102,111,114,32,104,97,115,32,105,102,32,105,110,32,105,110,116,32,105,115,32,105,116,101,114,32,109,111,100,32,110,105,108,32,110,111,116,32,110,117,108,108,32,111,110,101,111,102,32,111,114,32,111,116,104,101,114,115,32,112,114,111,99,32,112,117,116,32,114,101,99,111,114,100,32,114,101,112,32,114,101,116,117,114,110,32,114,101,116,117,114,110,115,32,115,105,103,110,97,108,32,115,105,103,110,97,108,115,32,116,97,103,32,116,97,103,99,97,115,101,32,116,104,101,110,32,116,114,117,101,32,117,112,32,118,97,114,32,119,104,101,110,32,119,104,101,114,101,32,119,104,105,108,101,32,121,105,101,108,100,32,121,105,101,108,100,115]=xb:=by kernel_rfl
theorem qHT:Lib.fields [36,32,40,32,41,32,42,32,43,32,44,32,45,32,46,32,47,32,58,32,58,61,32,59,32,60,32,60,61,32,61,32,63,32,91,32,93,32,95,32,123,32,125]=ji:=by kernel_rfl
def qo7 {w:AA} (k:G w) (s:Bs) (l:List Bs) (m:l.length<=maxLen) (i:s.length<4294967281) (c:s.all (fun b=>decide (b.toNat<128))=true) (h:Lib.fields s=l):
  Calls Tryz.prog 332 #[.string (qb s)] w fun e w'=>∃v,e=.returned v/\qbL w w' v l:=by
 refine (Tryz.fields (qb s) w i (fun j b g=>?_) k.sp).mono ?_
 ·have:=ut.1 c b (Jl g);simpa using this
 ·rintro _ _ ⟨rfl,rfl⟩;have a:Lib.fields (qb s).data.toList=l:=h;rw [a];refine ⟨_,rfl, ?_,yK _ _⟩;exact Own.lit (cs:=l.map qi) (qcE w _ 9) (by simp) (kh _) m
def qyc {w:AA} (a:G w):Calls Tryz.prog 286 #[] w fun e w'=>∃v,e=.returned v/\qbL w w' v xb:=by
 refine qEK fun ρ=>?_;simp [qrJ];refine (qo7 a _ xb (by decide) (by decide) (by decide) qHS).mono ?_;rintro _ w1 ⟨v,rfl,h⟩;simp [h]
def qAm {w:AA}:Calls Tryz.prog 236 #[] w fun e w'=>∃v,e=.returned v/\qbL w w' v xb:=by
 refine qFn fun ρ=>?_;simp [qsm];refine jC qeB (by decide) (by decide) (by simp [Value.cells]) fun B W b c a _=>?_;simp [Value.cells] at a⊢;exact ⟨Own.lit (cs:=xb.map qi) a rfl b (by decide),c⟩
def qnB {w:AA}:Calls Tryz.prog 246 #[] w fun e w'=>∃v,e=.returned v/\qbL w w' v ji:=by
 refine qFi fun ρ=>?_;simp [qsh];refine jC qeB (by decide) (by decide) (by simp [Value.cells]) fun B W b c a _=>?_;simp [Value.cells] at a⊢;exact ⟨Own.lit (cs:=ji.map qi) a rfl b (by decide),c⟩
def qyY:(ji.mergeSort fun x y=>decide (x<=y))=ji:=List.mergeSort_of_pairwise (by decide)
def qyd {w:AA} {base:Nat} {v:AB} (H:Own base 9 1 w v (ji.map qi)) (z:base<=w.heap.size):
  Calls Tryz.prog 195 #[v] w fun e w'=>e=.returned (.tuple #[])/\Own base 9 1 w' v (ji.map qi)/\Below base w w':=by
 rcases H with ⟨rfl,u⟩|⟨g,off,n,cap,cur,rfl,B,c,y,o,E,l,A⟩
 ·cases u
 ·have x:n=ji.length:=by simp at y;omega
  have s:=Own.sl (enc:=qi) (xs:=ji) (.inr ⟨g,off,n,cap,cur,rfl,B,c,y,o,E,l,A⟩:Own base 9 1 w _ _) (by decide);have t:g<w.heap.size:=(ul.1 c).1;have F:Sort.Holds encStr w g off ji.toArray:=by
   intro j I;have p:j<ji.length:=by simpa using I
   have:=s.cell j p;simp only [qN,zD] at this;refine ⟨?_,by simp [World.frozen?,c]⟩;rw [this];simp [p];rfl
  have C:=Tryz.sort_some g off cap ji w F t (by decide);rw [<-x,qyY] at C;refine C.mono ?_;rintro _ _ ⟨rfl,m,os,rfl⟩;have b:(Sort.grow (Sort.putRow encStr (Sort.ahead w m) g off ji.toArray) os).heap[g]? =some (.cells (Sort.putCells encStr off ji.toArray cur) 9 (0,0)):=by
   rw [Sort.heap_grow_old _ _ (by simpa [Sort.putRow,Sort.mapBlock] using t)];simp [Sort.putRow,Sort.mapBlock,Sort.ahead,JD,c,Sort.onCells]
  refine ⟨rfl,.inr ⟨g,off,n,cap,_,rfl,B,b,y,o,E,by simpa [Sort.putCells] using l, ?_⟩, ?_⟩
  ·rw [<-A];refine J3 fun i=>?_;simp only [Jv,u0];split
   ·rename_i K;have h:i<ji.length:=by omega
    have q:off+i<cur.size:=by omega
    have a:=s.cell i h;simp only [qN,zD,World.cell?,c] at a;simp [q] at a;simp only [Array.getElem?_toList];simp [Sort.putCells,q,h];rw [a];rfl
   ·rfl
  ·refine ⟨rfl,rfl,rfl,by simp [Sort.grow,Sort.putRow,Sort.mapBlock,Sort.ahead],fun k J=>?_⟩;rw [Sort.heap_grow_old _ _ (by simp [Sort.putRow,Sort.mapBlock,Sort.ahead];omega)];have:g≠k:=by omega
   simp [Sort.putRow,Sort.mapBlock,Sort.ahead,JD,this]
def qye {w:AA} (h:G w):Calls Tryz.prog 310 #[] w fun e w'=>∃v,e=.returned v/\qbL w w' v ji:=by
 refine qEw fun ρ=>?_;simp [qrt];refine (qo7 h _ ji (by decide) (by decide) (by decide) qHT).mono ?_;rintro _ w1 ⟨v,rfl,c,a⟩;simp;refine (qyd c a.size).mono ?_;rintro _ i ⟨rfl,b,g⟩;simp;exact ⟨b,qH5 a g⟩
end Go.L01
