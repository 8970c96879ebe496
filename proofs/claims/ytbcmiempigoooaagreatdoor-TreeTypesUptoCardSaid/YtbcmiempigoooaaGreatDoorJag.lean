/- Texts of mine for the claims about layer 2 (tree), joined: EngG. -/
import Derived.Test.YtbcmiempigoooaaGreatDoorJaf
set_option linter.all false
set_option linter.unusedSimpArgs false
set_option linter.unusedVariables false
namespace Go.Eng
open Go.RowKit
@[simp] theorem slAddr_add (v:Value) (j n:Nat):(slAddr v j).add n=slAddr v (j+n):=by
  unfold slAddr Addr.add
  split<;>split<;>simp_all [Nat.add_assoc]
@[simp] theorem add_lit (b o n:Nat):(⟨b,o,none⟩:Addr).add n=⟨b,o+n,none⟩:=by
  unfold Addr.add;split<;>simp_all
structure Sl {α:Type} (enc:α→Value) (w:World) (v:Value) (xs:List α):Prop where
  is:isSl v=true
  len:slLen v=xs.length
  bd:xs.length<4611686018427387904
  cell:∀(i:Nat) (h:i<xs.length),w.cell? (slAddr v i)=some (enc xs[i])
theorem Sl.ext {α:Type} {enc:α→Value} {w w':World} {v:Value} {xs:List α} (h:Sl enc w v xs) (hE:Ext w w'):Sl enc w' v xs:=
  ⟨h.is,h.len,h.bd,fun i hi=>hE.cell (h.cell i hi)⟩
theorem Sl.nil {α:Type} (enc:α→Value) (w:World):Sl enc w (.slice none 0 0) ([]:List α):=⟨rfl,rfl,by simp,fun i h=>by simp at h⟩
def encB (b:UInt8):Value:= .int .u8 b.toNat
def encI (n:Int):Value:= .int .i64 n
theorem ext_alloc (w:World) (o:Obj):Ext w (w.alloc o):=(Below.refl _ _).alloc (Nat.le_refl _) o
theorem Ext.trans' {a b c:World} (h:Ext a b) (k:Ext b c):Ext a c:=Below.trans h (k.mono h.size)
theorem ext_of_below {a b c:World} (h:Ext a b) (k:Below a.heap.size b c):Ext a c:=Below.trans h k
@[simp] theorem cell_alloc_lt (w:World) (o:Obj) (b i:Nat) (h:b<w.heap.size):(w.alloc o).cell? ⟨b,i,none⟩=w.cell? ⟨b,i,none⟩:=World.cell?_alloc_lt w o _ h
@[simp] theorem cell_alloc_eq (w:World) (c:Array Value) (t:TypeId) (b i:Nat) (h:b=w.heap.size):(w.alloc (.cells c t)).cell? ⟨b,i,none⟩=c[i]? :=by subst h;exact World.cell?_alloc_new w c t i
structure Blk (W:World) (B:Nat) (cs:Array Value) (t:TypeId):Prop where
  heap:W.heap[B]? =some (.cells cs t (0,0))
theorem Blk.lt {W:World} {B:Nat} {cs:Array Value} {t:TypeId} (h:Blk W B cs t):B<W.heap.size:=(Array.getElem?_eq_some_iff.1 h.heap).1
theorem Blk.cell {W:World} {B:Nat} {cs:Array Value} {t:TypeId} (h:Blk W B cs t) (i:Nat):W.cell? ⟨B,i,none⟩=cs[i]? :=by simp [World.cell?,h.heap]
theorem Blk.free {W:World} {B:Nat} {cs:Array Value} {t:TypeId} (h:Blk W B cs t) (i:Nat):W.frozen? ⟨B,i,none⟩=false:=by simp [World.frozen?,h.heap]
theorem Blk.ext {W W':World} {B:Nat} {cs:Array Value} {t:TypeId} (h:Blk W B cs t) (hE:Ext W W'):Blk W' B cs t:=⟨(hE.block B h.lt).trans h.heap⟩
structure Only (B:Nat) (W W':World):Prop where
  os:W'.os=W.os
  tape:W'.tape=W.tape
  output:W'.output=W.output
  size:W'.heap.size=W.heap.size
  block:∀k,k≠B→W'.heap[k]? =W.heap[k]?
theorem Only.ext {B:Nat} {w W W':World} (h:Only B W W') (hE:Ext w W) (hB:w.heap.size≤B):Ext w W':=
  ⟨h.os.trans hE.os,h.tape.trans hE.tape,h.output.trans hE.output,by rw [h.size];exact hE.size,fun k hk=>(h.block k (by omega)).trans (hE.block k hk)⟩
theorem Only.blk {B B':Nat} {W W':World} {cs:Array Value} {t:TypeId} (h:Only B W W') (hb:Blk W B' cs t) (hne:B'≠B):Blk W' B' cs t:=⟨(h.block B' hne).trans hb.heap⟩
theorem Only.refl (B:Nat) (W:World):Only B W W:=⟨rfl,rfl,rfl,rfl,fun _ _=>rfl⟩
theorem Only.trans {B:Nat} {a b c:World} (h:Only B a b) (k:Only B b c):Only B a c:=
  ⟨k.os.trans h.os,k.tape.trans h.tape,k.output.trans h.output,k.size.trans h.size,fun i hi=>(k.block i hi).trans (h.block i hi)⟩
theorem only_setCell (W:World) (B i:Nat) (v:Value):Only B W (W.setCell ⟨B,i,none⟩ v):=
  ⟨rfl,rfl,rfl,by simp,fun k hk=>Below.heap_setCell _ _ _ _ hk⟩
theorem blk_setCell {W:World} {B:Nat} {cs:Array Value} {t:TypeId} (h:Blk W B cs t) (i:Nat) (v:Value):Blk (W.setCell ⟨B,i,none⟩ v) B (cs.setIfInBounds i v) t:=by
  have h0:=h.heap
  exact ⟨by simp [World.setCell,Array.getElem?_modify,h0]⟩
theorem blk_alloc (w:World) (cs:Array Value) (t:TypeId):Blk (w.alloc (.cells cs t)) w.heap.size cs t:=⟨heap_alloc_new w _⟩
section
variable {P:Program} {Q:Ks} {d:Option Nat} {ty:TypeId} {K:Env→World→Prop} {ρ:Env} {w:World}
theorem eff_box {t:TypeId} {x:Operand} (h:∀(B:Nat) (W:World),w.heap.size≤B→Ext w W→Blk W B (evE ρ x).cells t→W.heap.size=B+1→K (updO ρ d (.pointer (some ⟨B,0,none⟩))) W):effW P Q d (.box t x) ty K ρ w:=
  h w.heap.size _ (Nat.le_refl _) (ext_alloc w _) (blk_alloc w _ _) (by simp)
theorem eff_alloc {t:TypeId} {z:Array Value} (hz:zeroCellsOf P t=some z) (h:∀(B:Nat) (W:World),w.heap.size≤B→Ext w W→Blk W B z t→W.heap.size=B+1→K (updO ρ d (.pointer (some ⟨B,0,none⟩))) W):effW P Q d (.alloc t) ty K ρ w:=by
  show onO (zeroCellsOf P t) _
  rw [hz]
  exact h w.heap.size _ (Nat.le_refl _) (ext_alloc w _) (blk_alloc w _ _) (by simp)
theorem eff_store1 {t:TypeId} {p x:Operand} {B i:Nat} {cs:Array Value} {T:TypeId} (hp:evE ρ p= .pointer (some ⟨B,i,none⟩)) (hb:Blk w B cs T) (hi:i<cs.size) (hx:(evE ρ x).cells= #[evE ρ x]) (h1:(evE ρ x).oneCell=true)
    (hs:sizeIs P t 1=true) (h:∀W,Only B w W→Blk W B (cs.set i (evE ρ x)) T→K (updO ρ d undef) W):effW P Q d (.store t p x) ty K ρ w:=by
  show sizeIs P t (evE ρ x).cells.size=true∧ptrK (evE ρ p) _
  rw [hp,hx]
  refine ⟨hs, ?_⟩
  show storesW _ [evE ρ x] 0 _ w
  refine ⟨⟨cs[i], ?_⟩, ?_,h1, ?_⟩
  · rw [add_lit,Nat.add_zero,hb.cell];simp [hi]
  · rw [add_lit,Nat.add_zero,hb.free]
  · rw [add_lit,Nat.add_zero]
    refine h _ (only_setCell w B i _) ?_
    have:=blk_setCell hb i (evE ρ x)
    rw [Array.setIfInBounds,dif_pos hi] at this
    exact this
theorem storesW_blk {B : Nat} {T : TypeId} {K : World → Prop} : ∀ (vs : List Value) (i : Nat) (w : World) (cs : Array Value), Blk w B cs T → i + vs.length ≤ cs.size → (∀ v ∈ vs, v.oneCell = true) →
    (∀W,Only B w W→Blk W B (cs.toList.take i++vs++cs.toList.drop (i+vs.length)).toArray T→K W)→storesW ⟨B,0,none⟩ vs i K w
  |[],i,w,cs,hb,_,_,h=>h w (Only.refl _ _) (by simpa using hb)
  | v :: vs, i, w, cs, hb, hl, h1, h => by
    simp only [List.length_cons] at hl
    have hi:i<cs.size:=by omega
    refine ⟨⟨cs[i], ?_⟩, ?_,h1 v (by simp), ?_⟩
    · rw [add_lit,Nat.zero_add,hb.cell];simp [hi]
    · rw [add_lit,Nat.zero_add,hb.free]
    · rw [add_lit,Nat.zero_add]
      refine storesW_blk vs (i+1) _ (cs.setIfInBounds i v) (blk_setCell hb i v) (by simp;omega) (fun u hu=>h1 u (by simp [hu])) fun W hO hB=> ?_
      refine h W ((only_setCell w B i v).trans hO) ?_
      have e:(cs.setIfInBounds i v).toList.take (i+1)++vs++(cs.setIfInBounds i v).toList.drop (i+1+vs.length)=cs.toList.take i++v::vs++cs.toList.drop (i+(vs.length+1)):=by
        simp only [Array.toList_setIfInBounds]
        rw [List.take_succ_eq_append_getElem (by simpa using hi),List.take_set_of_le (Nat.le_refl i),List.drop_set_of_lt (by omega)]
        simp [show i+1+vs.length=i+(vs.length+1) by omega]
      simp only [List.length_cons]
      rw [←e];exact hB
theorem eff_lit {t:TypeId} {n:Nat} {ps:Array (Nat×Operand)} {es:TypeId×Nat} (hi:sliceInfo P t=some es) (h0:n*es.2≤1000) (h1:ps.toList.map (·.1)=List.range n) (h2:∀p∈ps.toList,(evE ρ p.2).cells.size=es.2)
    (h:∀(B:Nat) (W:World),w.heap.size≤B→Ext w W→Blk W B (ps.toList.flatMap fun p=>(evE ρ p.2).cells.toList).toArray es.1→W.heap.size=B+1→K (updO ρ d (.slice (some ⟨B,0,none⟩) n n)) W):effW P Q d (.buildSlice t n ps) ty K ρ w:=by
  show onO (sliceInfo P t) _
  rw [hi]
  exact ⟨h0,h1,h2,h w.heap.size _ (Nat.le_refl _) (ext_alloc w _) (blk_alloc w _ _) (by simp)⟩
end
@[simp] theorem rowAt_2 (w:World) (a:Addr):Eng.rowAt w a 0 2=(w.cell? (a.add 0)).bind fun x=>(w.cell? (a.add 1)).bind fun y=>some [x,y]:=by
  simp only [Eng.rowAt];cases w.cell? (a.add 0)<;>cases w.cell? (a.add 1)<;>simp
@[simp] theorem rowAt_3 (w:World) (a:Addr):Eng.rowAt w a 0 3=(w.cell? (a.add 0)).bind fun x=>(w.cell? (a.add 1)).bind fun y=>(w.cell? (a.add 2)).bind fun z=>some [x,y,z]:=by
  simp only [Eng.rowAt];cases w.cell? (a.add 0)<;>cases w.cell? (a.add 1)<;>cases w.cell? (a.add 2)<;>simp
theorem isSl_sub {v:Value} (h:isSl v=true) (sz l r m:Nat) (h1:l≤r) (h2:r≤m) (h3:m≤slCap v):isSl (slSub v sz l r m)=true:=by
  rcases isSl_cases h with ⟨b,o,n,c,rfl,hc⟩|rfl|⟨b,o,s,rfl⟩
  rotate_left 2
  · simp only [slCap] at h3
    have h0:m=0:=by omega
    have h0':l=0:=by omega
    have h0'':r=0:=by omega
    subst h0;subst h0';subst h0''
    rfl
  · simp only [slSub]
    split
    · rename_i e;subst e;simp only [isSl];simp;omega
    · simp only [Option.map_some,isSl,add_lit];simp;omega
  · simp only [slCap] at h3
    have h0:m=0:=by omega
    have h0':l=0:=by omega
    have h0'':r=0:=by omega
    subst h0;subst h0';subst h0''
    rfl
@[simp] theorem slLen_sub {v:Value} (sz l r m:Nat) (h:isSl v=true):slLen (slSub v sz l r m)=r - l:=by
  rcases isSl_cases h with ⟨b,o,n,c,rfl,hc⟩|rfl|⟨b,o,s,rfl⟩<;>simp [slSub,slLen]
@[simp] theorem slCap_sub {v:Value} (sz l r m:Nat) (h:isSl v=true):slCap (slSub v sz l r m)=m - l:=by
  rcases isSl_cases h with ⟨b,o,n,c,rfl,hc⟩|rfl|⟨b,o,s,rfl⟩<;>simp [slSub,slCap]
theorem slAddr_sub {v:Value} (sz l r m j:Nat) (h:isSl v=true) (hm:l<m) (hv:slCap v≠0):slAddr (slSub v sz l r m) j=slAddr v (l*sz+j):=by
  rcases isSl_cases h with ⟨b,o,n,c,rfl,hc⟩|rfl|⟨b,o,s,rfl⟩
  rotate_left 2
  · simp [slCap] at hv
  · simp only [slSub]
    rw [if_neg (by omega)]
    simp [slAddr,Nat.add_assoc]
  · simp [slCap] at hv
theorem isSl_len_cap {v:Value} (h:isSl v=true):slLen v≤slCap v:=by
  rcases isSl_cases h with ⟨b,o,n,c,rfl,hc⟩|rfl|⟨b,o,s,rfl⟩<;>simp [slLen,slCap];exact hc
theorem Sl.sub {α:Type} {enc:α→Value} {w:World} {v:Value} {xs:List α} (h:Sl enc w v xs) {l r m:Nat} (h1:l≤r) (h2:r≤xs.length) (h3:r≤m) (h4:m≤slCap v):
    Sl enc w (slSub v 1 l r m) ((xs.take r).drop l):=by
  have hl:((xs.take r).drop l).length=r - l:=by simp;omega
  refine ⟨isSl_sub h.is 1 l r m h1 h3 h4,by rw [slLen_sub _ _ _ _ h.is,hl],by have:=h.bd;omega,fun i hi=> ?_⟩
  rw [hl] at hi
  rw [slAddr_sub 1 l r m i h.is (by omega) (by omega),Nat.mul_one,h.cell (l+i) (by omega)]
  simp
section
variable {cx:Cx} {K:Env→World→Prop} {Q:Ks} {ρ:Env} {w:World} {a:IR}
theorem loopC (s n:Nat) (I:Nat→Env→World→Prop) (h00:ρ s= .int .i64 0) (h0:I 0 ρ w)
    (h:∀(k:Nat) (ρ':Env) (w':World),k≤n→ρ' s= .int .i64 k→I k ρ' w'→a.wp cx (fun ρ'' w''=>k<n∧ρ'' s= .int .i64 ((k:Int)+1)∧I (k+1) ρ'' w'') Q ρ' w'):(IR.loop a).wp cx K Q ρ w:=by
  refine loopI (fun ρ' w'=>∃k:Nat,k≤n∧ρ' s= .int .i64 k∧I k ρ' w') (fun ρ' _=>n - (RowKit.intOf (ρ' s)).toNat) ⟨0,Nat.zero_le _,h00,h0⟩ ?_
  rintro ρ' w' ⟨k,hk,hs,hI⟩
  have:=h k ρ' w' hk hs hI
  have e:(fun ρ'' w''=>k<n∧ρ'' s= .int .i64 ((k:Int)+1)∧I (k+1) ρ'' w'')=fun ρ'' w''=>(k<n∧ρ'' s= .int .i64 ((k:Int)+1)∧I (k+1) ρ'' w''):=rfl
  refine IR.wp_mono this ?_ (fun _ _ _ h=>h) (fun _ _ h=>h) (fun _ _ _ h=>h) (fun h=>h) ⟨fun h=>h,fun h=>h⟩
  rintro ρ'' w'' ⟨hlt,hs'',hI''⟩
  exact ⟨⟨k+1,by omega,by rw [hs''];simp,hI''⟩,by rw [hs'',hs];simp;omega⟩
end
@[simp] theorem int_cast_eq (a b:Nat):((a:Int)=(b:Int))↔a=b:=Int.ofNat_inj
@[simp] theorem int_lt_zero (n:Nat):((n:Int)<0)↔False:=⟨fun h=>by omega,fun h=>h.elim⟩
@[simp] theorem int_succ_lt (p n:Nat):((p:Int)+1<(n:Int))↔p+1<n:=by omega
@[simp] theorem int_succ_le (p n:Nat):((p:Int)+1≤(n:Int))↔p+1≤n:=by omega
@[simp] theorem int_zero_le_succ (p:Nat):(0≤(p:Int)+1)↔True:=⟨fun _=>trivial,fun _=>by omega⟩
def mkS (bs:List UInt8):ByteArray:=⟨bs.toArray⟩
@[simp] theorem mkS_list (bs:List UInt8):(mkS bs).data.toList=bs:=rfl
theorem mkS_inj {a b:List UInt8}:mkS a=mkS b↔a=b:=⟨fun h=>by have:=congrArg (fun x=>x.data.toList) h;simpa using this,fun h=>by rw [h]⟩
@[simp] theorem mkS_size (bs:List UInt8):(mkS bs).size=bs.length:=rfl
theorem rowAt_of {w:World} {a:Addr}:∀{l:List Value} {i:Nat},(∀j (h:j<l.length),w.cell? (a.add (i+j))=some l[j])→rowAt w a i l.length=some l
  |[],_,_=>rfl
  | v :: l, i, h => by
    have h0:=h 0 (by simp)
    have ih:=rowAt_of (w:=w) (a:=a) (l:=l) (i:=i+1) fun j hj=>by
      have:=h (j+1) (by simpa using hj)
      simpa [Nat.add_assoc,Nat.add_comm 1 j] using this
    simp only [List.length_cons,rowAt]
    simp only [Nat.add_zero,List.getElem_cons_zero] at h0
    simp [h0,ih]
theorem Sl.congr {α:Type} {enc:α→Value} {w:World} {v:Value} {xs ys:List α} (h:Sl enc w v xs) (e:xs=ys):Sl enc w v ys:=e▸h
end Go.Eng
