/- Lemmas for a claim about layer 2 (tree). No conditions but those they state. -/
import Derived.Test.YtbcmiempigoooaaGreatDoorBan
import Derived.Lib.Walk
import Derived.WalkKit
import Derived.Laws.Externs
import Derived.Laws.Pointers
set_option linter.all false
namespace Go.L01
open Go Go.Eng Go.Proofs Go.RowKit
set_option maxRecDepth 100000
set_option maxHeartbeats 2000000
theorem qql:qf Tryz.prog 177=true:=by kernel_rfl
theorem qe8:jo Tryz.prog 112 1=true:=by kernel_rfl
theorem qsT:xX Tryz.prog 112=some (5,1):=by kernel_rfl
theorem qhn:∃j,Tryz.prog.info? 114=some j∧j.size=2:=by
 obtain ⟨j,b,a⟩:=Option.map_eq_some_iff.1 Tryz.extra169.sizeBuilder;exact ⟨j,b,a⟩
theorem qb3:∃i,Tryz.prog.info? 5=some i∧i.zero=some (.int .u8 0)∧i.size=1∧i.bytes=1:=by
 have h:=Tryz.extra169.infoByte;obtain ⟨i,b,a⟩:=Option.map_eq_some_iff.1 h;simp only [Prod.mk.injEq] at a;exact ⟨i,b,a.1,a.2.1,a.2.2⟩
abbrev Bd (B b:Nat) (bs:Bs) (w:World):Prop:=Lib.IsBuilder 114 5 B b (bs.map jf) w
theorem qAW (l:Bs):Lib.byteCells l=l.map jf:=by
 simp [Lib.byteCells,jf]
theorem qfd (s:ByteArray):Lib.strCells s=s.data.toList.map jf:=by
 simp [Lib.strCells,jf]
theorem qiq (b:Nat) (w:World) (c:w.cell? ⟨b,0,none⟩=some (.pointer (some ⟨b,0,none⟩))):
  Calls Tryz.prog 177 #[.pointer (some ⟨b,0,none⟩)] w fun e w'=>e= .returned (.tuple #[])∧w'=w:=by
 obtain ⟨j,a,_⟩:=qhn
 go_enter Tryz.func177,Tryz.ntmps177
 go_wp2
 rw [Lib.run_neq_ptr_same w _ Tryz.underlying111 a]
 go_wp2
 go_end0
 exact ⟨rfl,rfl⟩
theorem qqM (b:Nat) (w:World) (i:w.cell? ⟨b,0,none⟩=some (.pointer none)) (a:w.shape? b=some (114,2)) (h:w.frozen? ⟨b,0,none⟩=false):
  Calls Tryz.prog 177 #[.pointer (some ⟨b,0,none⟩)] w fun e w'=>e= .returned (.tuple #[])∧w'=w.setCell ⟨b,0,none⟩ (.pointer (some ⟨b,0,none⟩)):=by
 obtain ⟨j,g,c⟩:=qhn
 go_enter Tryz.func177,Tryz.ntmps177
 go_wp2
 rw [Lib.run_to_unsafe w ⟨b,0,none⟩ Tryz.underlying111 Tryz.underlying254 g (by rw [c];decide) a (Nat.zero_lt_succ 1)];simp only [Result.andThen];rw [Oper.upon_value]
 go_wp2
 rw [run_callFunc_extern Tryz.func247 (by kernel_rfl) (by kernel_rfl) (by kernel_rfl) (e:=Extern.AbiNoEscape.same) (by kernel_rfl),Lib.run_noEscape];simp only [Result.andThen];rw [Oper.upon_value]
 go_wp2
 rw [Lib.run_from_unsafe w ⟨b,0,none⟩ Tryz.underlying254 Tryz.underlying111 g a Tryz.extra169.liesBuilder];simp only [Result.andThen];rw [Oper.upon_value]
 go_wp2
 go_end0
 exact ⟨rfl,rfl⟩
theorem qqN {w:World} {B b:Nat} {a:List Value} (h:Lib.IsBuilder 114 5 B b a w):
  Calls Tryz.prog 177 #[.pointer (some ⟨b,0,none⟩)] w fun e w'=>e= .returned (.tuple #[])∧Lib.BuilderAt 114 5 B b (.pointer (some ⟨b,0,none⟩)) a w'∧Below B w w':=by
 rcases h with h|h
 ·refine (qqM b w h.cell0 h.shape h.frozen0).mono ?_;rintro _ _ ⟨rfl,rfl⟩;exact ⟨rfl,h.used _,(Below.refl B w).setCell (p:=⟨b,0,none⟩) h.1 _⟩
 ·refine (qiq b w h.cell0).mono ?_;rintro _ _ ⟨rfl,rfl⟩;exact ⟨rfl,h,Below.refl B _⟩
theorem qkG {w:World} {B b:Nat} {p v g:Value} {c:List Value} (k:B≤b) (j:Blk w b #[p,v] 114) (a:w.ownsRow B 5 1 g c.length c):∀W,Only b w W→Blk W b #[p,g] 114→Lib.BuilderAt 114 5 B b p c W:=by
 intro W h i;have e:=Lib.ownBlock_ne a j.heap (by decide);exact ⟨k,g,i.heap,a.kept (qdk h) (.inr e),e⟩
theorem qBq {w:World} {B b:Nat} {l:Bs} (s:Bs) (h:Bd B b l w) (J:l.length+s.length≤100000000) (U:B≤w.heap.size):
  Calls Tryz.prog 89 #[.pointer (some ⟨b,0,none⟩), .string (qb s)] w fun e w'=>e= .returned (.tuple #[.int .i64 s.length, .nilIface])∧Bd B b (l++s) w'∧Below B w w':=by
 refine qmw fun ρ F K=> ?_;simp [qgD,F,qql];refine (qqN h).mono ?_;rintro _ w1 ⟨rfl,⟨H,v,x,c,E⟩,y⟩;have I:Blk w1 b #[.pointer (some ⟨b,0,none⟩),v] 114:=⟨x⟩;simp [F,K,I.cell];obtain ⟨i,W,R,Q,A⟩:=qb3;have V:=y.size;have C:=I.lt;have m:(qb s).size=s.length:=rfl;obtain ⟨u,W3,L,j,z,_⟩:=Lib.run_append_own_string (P:=Tryz.prog) w1 B 112 9 112 5 i Tryz.underlying112 Tryz.underlying9 W R Q A v l.length (l.map jf) (by simpa using c) (qb s) (by rw [m];simp only [maxLen];omega) (by rw [m];omega) (by omega);have a:W3.ownsRow B 5 1 u ((l++s).map jf).length ((l++s).map jf):=by simpa [qfd] using j
 have t:Blk W3 b #[.pointer (some ⟨b,0,none⟩),v] 114:=⟨(z.block b C (fun e=>E e.symm)).trans x⟩;refine jk (v:=u) (w':=W3) (by simp [execOp,qA,resolve,invoke,builtin,L]) ?_;have o:u.cells= #[u]∧u.oneCell=true:=by
  rcases a.2 with ⟨rfl,_⟩|⟨g,cap,cur,rfl,_⟩<;>exact ⟨rfl,rfl⟩
 simp;refine qS (B:=b) (i:=1) (by simp) t (by simp) (by simp;exact o.1) (by simp;exact o.2) qe8 fun W4 n q=> ?_;simp [K] at q⊢;refine ⟨.inr (qkG H t a W4 n q), ?_⟩;have O:Below B w W3:=y.grown z (by omega) fun k S=>(c.lt k S).1;exact Below.trans O (kY n H)
theorem b_string {w:World} {B b:Nat} {a:Bs} (h:Bd B b a w) (c:B≤w.heap.size):
  Calls Tryz.prog 90 #[.pointer (some ⟨b,0,none⟩)] w fun e w'=>e= .returned (.string (qb a))∧Below B w w':=by
 have i:Lib.IsBuilder 114 5 B b (Lib.byteCells a) w:=by rw [qAW];exact h
 exact (Tryz.b_string B b a w i c).mono fun e w' g=>⟨g.1,g.2⟩
structure G (w:World):Prop where
 sp:∀c:Nat,c<256→w.cell? ⟨3,c,none⟩=some (.int .u8 (if Lib.isSp (UInt8.ofNat c) then 1 else 0))
 pow : Lib.TabIs Tryz.prog w "internal/strconv.uint64pow10" .u64 Lib.pow10Tab
 es:∃te pe,w.cell? ⟨5,0,none⟩=some (.iface te pe)
 er:∃te pe,w.cell? ⟨6,0,none⟩=some (.iface te pe)
theorem G.ext {w w':World} (h:G w) (hE:qc w w'):G w':=by
 refine ⟨fun c hc=>hE.cell (h.sp c hc), ?_,let ⟨te,pe,h1⟩:=h.es;⟨te,pe,hE.cell h1⟩,let ⟨te,pe,h1⟩:=h.er;⟨te,pe,hE.cell h1⟩⟩;have hp:=h.pow;unfold Lib.TabIs World.var? at hp⊢
 cases hg : Tryz.prog.globalNamed "internal/strconv.uint64pow10" with
 |none=>rw [hg] at hp;cases hp
 |some g=>
  rw [hg] at hp;simp only [Option.bind_some] at hp⊢;cases hh:w.heap[g]? with
  |none=>rw [hh] at hp;cases hp
  |some o=>rw [hE.block g (Array.getElem?_eq_some_iff.1 hh).1];exact hp
def qi (b:Bs):Value:= .string (qb b)
abbrev qP (w:World) (v:Value) (l:List Bs):Prop:=Sl qi w v l
@[simp] theorem qvO (b:Bs) (i:Nat):(qb b)[i]? =b[i]? :=by
 show (qb b).data[i]? =_;simp [qb]
theorem qsA {b:Bs} {i:Nat} (h:i<b.length):((qb b)[i]?).map (fun c:UInt8=>Value.int .u8 c.toNat)=some (jf b[i]):=by
 rw [qvO,List.getElem?_eq_getElem h];rfl
theorem qeO {p:UInt8→Bool}:∀(s:Bs) (k:Nat),k≤s.length→(∀j (e:j<s.length),j<k→p s[j]=true)→(∀b:k<s.length,p s[k]=false)→(s.takeWhile p).length=k
 |[],k,b,_,_=>by simp at b;subst b;rfl
 |a::s,0,_,_,c=>by
  have:p a=false:=c (by simp);simp [List.takeWhile_cons,this]
 |a::s,k+1,b,g,c=>by
  have i:p a=true:=g 0 (by simp) (by omega);have h:=qeO s k (by simpa using b) (fun j e l=>g (j+1) (by simpa using e) (by omega)) (fun b=>c (by simpa using b));simp [List.takeWhile_cons,i,h]
@[simp] theorem qEu:qf Tryz.prog 162=true:=by kernel_rfl
@[simp] theorem qEi:qf Tryz.prog 232=true:=by kernel_rfl
@[simp] theorem qDY:qf Tryz.prog 332=true:=by kernel_rfl
@[simp] theorem qEp:qf Tryz.prog 195=true:=by kernel_rfl
@[simp] theorem qEa:qf Tryz.prog 286=true:=by kernel_rfl
@[simp] theorem qD2:qf Tryz.prog 310=true:=by kernel_rfl
@[simp] theorem qEh:qf Tryz.prog 233=true:=by kernel_rfl
@[simp] theorem qEr:qf Tryz.prog 166=true:=by kernel_rfl
theorem qcx (c:UInt8) (n:Nat) (a:n<256):((c.toNat:Int)=(n:Int))↔c=UInt8.ofNat n:=by
 rw [Int.ofNat_inj,←UInt8.toNat_inj];have:(UInt8.ofNat n).toNat=n:=by simp;omega
 rw [this]
theorem lt2 (c:UInt8) (a b:Nat):(decide ((a:Int)≤(c.toNat:Int))&&decide ((c.toNat:Int)≤(b:Int)))=(decide (a≤c.toNat)&&decide (c.toNat≤b)):=by
 rw [Bool.eq_iff_iff];simp only [Bool.and_eq_true,decide_eq_true_eq];omega
theorem qe1 (c:UInt8) (w:World):Calls Tryz.prog 162 #[jf c] w fun e w'=>e= .returned (.bool (jb c))∧w'=w:=by
 refine qyH fun ρ a=> ?_;simp [qoA,a,jf,jb];exact lt2 c 97 122
theorem qe3 (c:UInt8) (w:World):Calls Tryz.prog 232 #[jf c] w fun e w'=>e= .returned (.bool (qw c))∧w'=w:=by
 refine qx4 fun ρ a=> ?_;simp [qnQ,a,jf,qw];exact lt2 c 48 57
theorem qjl (c:UInt8) (w:World):Calls Tryz.prog 165 #[jf c] w fun e w'=>e= .returned (.bool (part c))∧w'=w:=by
 refine qyC fun ρ b=> ?_;simp [qox,b];refine (qe1 c w).mono ?_;rintro _ _ ⟨rfl,rfl⟩;cases a:jb c with
 |true=>simp [part,a]
 |false=>
  simp [b];refine (qe3 c _).mono ?_;rintro _ _ ⟨rfl,rfl⟩;simp [part,a]
theorem qsh (c:UInt8) (w:World):Calls Tryz.prog 346 #[jf c] w fun e w'=>e= .returned (.bool (xe c))∧w'=w:=by
 refine qxk fun ρ a=> ?_;simp [qm7,a,jf,xe];rw [Bool.eq_iff_iff];simp only [Bool.or_eq_true,decide_eq_true_eq,beq_iff_eq];exact or_congr (or_congr (qcx c 32 (by decide)) (qcx c 9 (by decide))) (qcx c 10 (by decide))
theorem qcL {b:Bs} {i:Nat} (h:i<b.length):Option.map (fun c:UInt8=>Value.int .u8 (c.toNat:Int)) (qb b)[i]? =some (jf b[i]):=qsA h
def qcn (w w':World) (v:Value) (l:List Bs):Prop:=Own w.heap.size 9 1 w' v (l.map qi)∧qc w w'
theorem qcn.sl {w w':World} {v:Value} {l:List Bs} (h:qcn w w' v l) (a:l.length<4611686018427387904):qP w' v l:=h.1.sl a
theorem qsX:xX Tryz.prog 51=some (9,1):=by kernel_rfl
theorem qrs:zR.length=46:=rfl
theorem qsS:qU.length=21:=rfl
theorem qzx:Lib.fields [97,110,100,32,97,114,114,97,121,32,98,101,103,105,110,32,98,111,111,108,32,98,114,101,97,107,32,99,108,117,115,116,101,114,32,100,111,32,100,111,119,110,32,101,108,115,101,32,101,108,115,101,105,102,32,101,110,100,32,101,120,99,101,112,116,32,102,97,108,115,101,32,102,111,114,32,104,97,115,32,105,102,32,105,110,32,105,110,116,32,105,115,32,105,116,101,114,32,109,111,100,32,110,105,108,32,110,111,116,32,110,117,108,108,32,111,110,101,111,102,32,111,114,32,111,116,104,101,114,115,32,112,114,111,99,32,112,117,116,32,114,101,99,111,114,100,32,114,101,112,32,114,101,116,117,114,110,32,114,101,116,117,114,110,115,32,115,105,103,110,97,108,32,115,105,103,110,97,108,115,32,116,97,103,32,116,97,103,99,97,115,101,32,116,104,101,110,32,116,114,117,101,32,117,112,32,118,97,114,32,119,104,101,110,32,119,104,101,114,101,32,119,104,105,108,101,32,121,105,101,108,100,32,121,105,101,108,100,115]=zR:=by kernel_rfl
theorem qzy:Lib.fields [36,32,40,32,41,32,42,32,43,32,44,32,45,32,46,32,47,32,58,32,58,61,32,59,32,60,32,60,61,32,61,32,63,32,91,32,93,32,95,32,123,32,125]=qU:=by kernel_rfl
theorem qlu {w:World} (m:G w) (s:Bs) (l:List Bs) (i:l.length≤maxLen) (g:s.length<4294967281) (c:s.all (fun b=>decide (b.toNat<128))=true) (h:Lib.fields s=l):
  Calls Tryz.prog 332 #[.string (qb s)] w fun e w'=>∃v,e= .returned v∧qcn w w' v l:=by
 refine (Tryz.fields (qb s) w g (fun j b k=> ?_) m.sp).mono ?_
 ·have:=List.all_eq_true.1 c b (List.mem_of_getElem? k);simpa using this
 ·rintro _ _ ⟨rfl,rfl⟩;have a:Lib.fields (qb s).data.toList=l:=h;rw [a];refine ⟨_,rfl, ?_,wU _ _⟩;exact Own.lit (cs:=l.map qi) (qcg w _ 9) (by simp) (Nat.le_refl _) i
theorem qr7 {w:World} (a:G w):Calls Tryz.prog 286 #[] w fun e w'=>∃v,e= .returned v∧qcn w w' v zR:=by
 refine qxD fun ρ=> ?_;simp [qnr];refine (qlu a _ zR (by decide) (by decide) (by decide) qzx).mono ?_;rintro _ w1 ⟨v,rfl,h⟩;simp [h]
theorem qsN:(qU.mergeSort fun x y=>decide (x≤y))=qU:=List.mergeSort_of_pairwise (by decide)
theorem qr8 {w:World} {base:Nat} {v:Value} (J:Own base 9 1 w v (qU.map qi)) (y:base≤w.heap.size):
  Calls Tryz.prog 195 #[v] w fun e w'=>e= .returned (.tuple #[])∧Own base 9 1 w' v (qU.map qi)∧Below base w w':=by
 rcases J with ⟨rfl,x⟩|⟨g,off,n,cap,cur,rfl,E,h,z,c,F,s,B⟩
 ·cases x
 ·have A:n=qU.length:=by simp at z;omega
  have u:=Own.sl (enc:=qi) (xs:=qU) (.inr ⟨g,off,n,cap,cur,rfl,E,h,z,c,F,s,B⟩:Own base 9 1 w _ _) (by decide);have t:g<w.heap.size:=(Array.getElem?_eq_some_iff.1 h).1;have I:Sort.Holds encStr w g off qU.toArray:=by
   intro j H;have q:j<qU.length:=by simpa using H
   have:=u.cell j q;simp only [qM,xp] at this;refine ⟨?_,by simp [World.frozen?,h]⟩;rw [this];simp [q];rfl
  have C:=Tryz.sort_some g off cap qU w I t (by decide);rw [←A,qsN] at C;refine C.mono ?_;rintro _ _ ⟨rfl,m,os,rfl⟩;have b:(Sort.grow (Sort.putRow encStr (Sort.ahead w m) g off qU.toArray) os).heap[g]? =some (.cells (Sort.putCells encStr off qU.toArray cur) 9 (0,0)):=by
   rw [Sort.heap_grow_old _ _ (by simpa [Sort.putRow,Sort.mapBlock] using t)];simp [Sort.putRow,Sort.mapBlock,Sort.ahead,Array.getElem?_modify,h,Sort.onCells]
  refine ⟨rfl, .inr ⟨g,off,n,cap,_,rfl,E,b,z,c,F,by simpa [Sort.putCells] using s, ?_⟩, ?_⟩
  ·rw [←B];refine List.ext_getElem? fun i=> ?_;simp only [List.getElem?_take,List.getElem?_drop];split
   ·rename_i L;have o:i<qU.length:=by omega
    have l:off+i<cur.size:=by omega
    have a:=u.cell i o;simp only [qM,xp,World.cell?,h] at a;simp [l] at a;simp only [Array.getElem?_toList];simp [Sort.putCells,l,o];rw [a];rfl
   ·rfl
  ·refine ⟨rfl,rfl,rfl,by simp [Sort.grow,Sort.putRow,Sort.mapBlock,Sort.ahead],fun k K=> ?_⟩;rw [Sort.heap_grow_old _ _ (by simp [Sort.putRow,Sort.mapBlock,Sort.ahead];omega)];have:g≠k:=by omega
   simp [Sort.putRow,Sort.mapBlock,Sort.ahead,Array.getElem?_modify,this]
theorem qr9 {w:World} (h:G w):Calls Tryz.prog 310 #[] w fun e w'=>∃v,e= .returned v∧qcn w w' v qU:=by
 refine qxp fun ρ=> ?_;simp [qnb];refine (qlu h _ qU (by decide) (by decide) (by decide) qzy).mono ?_;rintro _ w1 ⟨v,rfl,g,a⟩;simp;refine (qr8 g a.size).mono ?_;rintro _ i ⟨rfl,b,c⟩;simp;exact ⟨b,qzI a c⟩
end Go.L01
