/- Texts of mine for the claims about layer 2 (tree), joined: EngK. -/
import Derived.Test.YtbcmiempigoooaaGreatDoorJaj
set_option linter.all false
set_option linter.unusedSimpArgs false
set_option linter.unusedVariables false
namespace Go.Eng
open Go.RowKit
@[simp] theorem oc_slice (a:Option Addr) (n c:Nat):(Value.slice a n c).oneCell=true:=rfl
@[simp] theorem oc_string (s:ByteArray):(Value.string s).oneCell=true:=rfl
@[simp] theorem oc_int (k:IntKind) (n:Int):(Value.int k n).oneCell=true:=rfl
@[simp] theorem oc_bool (b:Bool):(Value.bool b).oneCell=true:=rfl
@[simp] theorem oc_pointer (a:Option Addr):(Value.pointer a).oneCell=true:=rfl
@[simp] theorem ownBlock_lit (B o n c:Nat):(Value.slice (some ⟨B,o,none⟩) n c).ownBlock=some B:=rfl
@[simp] theorem ownBlock_nil (n c:Nat):(Value.slice none n c).ownBlock=none:=rfl
structure SlD where
  v:Value
  e:Nat
  sz:Nat
  xs:List Value
def Apart (a b:Value):Prop:=a.ownBlock=none∨a.ownBlock≠b.ownBlock
theorem Apart.symm {a b:Value} (h:Apart a b):Apart b a:=by
  unfold Apart at*
  rcases h with h|h
  · cases hb:b.ownBlock with
    |none=>exact .inl rfl
    |some x=>right;rw [h];simp
  · exact .inr (Ne.symm h)
def OwnS (base:Nat) (W:World):List SlD→Prop
  |[]=>True
  |d::l=>Own base d.e d.sz W d.v d.xs∧(∀x∈l,Apart d.v x.v)∧OwnS base W l
theorem OwnS.imp {base:Nat} {W W':World}:∀{l:List SlD},OwnS base W l→(∀x∈l,Own base x.e x.sz W x.v x.xs→Own base x.e x.sz W' x.v x.xs)→OwnS base W' l
  |[],_,_=>trivial
  |d::l,⟨h1,h2,h3⟩,hf=>⟨hf d (by simp) h1,h2,OwnS.imp h3 fun x hx=>hf x (by simp [hx])⟩
theorem OwnS.ext {base:Nat} {W W':World} {l:List SlD} (h:OwnS base W l) (hE:Ext W W'):OwnS base W' l:=h.imp fun _ _ h=>h.ext hE
theorem OwnS.only {base B:Nat} {W W':World} {l:List SlD} (h:OwnS base W l) (hO:Only B W W') (hB:B<base):OwnS base W' l:=h.imp fun _ _ h=>h.only hO hB
theorem OwnS.head {base:Nat} {W:World} {a:SlD} {l:List SlD} (h:OwnS base W (a::l)):Own base a.e a.sz W a.v a.xs:=h.1
theorem Own.isl {base e sz:Nat} {w:World} {v:Value} {xs:List Value} (h:Own base e sz w v xs):isSl v=true:=by
  rcases h with ⟨rfl,_⟩|⟨g,off,n',cap,cur,rfl,hb,hg,hl,hc,_⟩
  · rfl
  · simp [isSl,hc]
theorem gb_trans {B:Nat} {a b c:World} (h:a.grownBy b (some B)) (k:Below a.heap.size b c):a.grownBy c (some B):=
  ⟨k.os.trans h.os,k.tape.trans h.tape,k.output.trans h.output,Nat.le_trans h.size k.size,fun i hi hne=>(k.block i hi).trans (h.block i hi hne)⟩
theorem gb_ext {B:Nat} {a b c:World} (h:a.grownBy b (some B)) (k:Ext b c):a.grownBy c (some B):=gb_trans h (k.mono h.size)
theorem gb_only {B:Nat} {a b c:World} (h:a.grownBy b (some B)) (k:Only B b c):a.grownBy c (some B):=
  ⟨k.os.trans h.os,k.tape.trans h.tape,k.output.trans h.output,by rw [k.size];exact h.size,fun i hi hne=>(k.block i (by simpa using hne)).trans (h.block i hi hne)⟩
theorem gb_refl (row:Option Nat) (a:World):a.grownBy a row:=⟨rfl,rfl,rfl,Nat.le_refl _,fun _ _ _=>rfl⟩
theorem Blk.below {W W':World} {B base:Nat} {cs:Array Value} {t:TypeId} (h:Blk W B cs t) (k:Below base W W') (hB:B<base):Blk W' B cs t:=⟨(k.block B hB).trans h.heap⟩
theorem only_below {B base:Nat} {W W':World} (h:Only B W W') (hB:base≤B):Below base W W':=
  ⟨h.os,h.tape,h.output,by rw [h.size];exact Nat.le_refl _,fun k hk=>h.block k (by omega)⟩
section
variable {P:Program} {Q:Ks} {d:Option Nat} {ty:TypeId} {K:Env→World→Prop} {ρ:Env} {w:World}
theorem eff_storeN {t:TypeId} {p x:Operand} {B:Nat} {cs:Array Value} {T:TypeId} (hp:evE ρ p= .pointer (some ⟨B,0,none⟩)) (hb:Blk w B cs T) (hsz:(evE ρ x).cells.size=cs.size) (h1:∀v∈(evE ρ x).cells.toList,v.oneCell=true)
    (hs:sizeIs P t cs.size=true) (h:∀W,Only B w W→Blk W B (evE ρ x).cells T→K (updO ρ d undef) W):effW P Q d (.store t p x) ty K ρ w:=by
  show sizeIs P t (evE ρ x).cells.size=true∧ptrK (evE ρ p) _
  rw [hp,hsz]
  refine ⟨hs, ?_⟩
  show storesW ⟨B,0,none⟩ _ 0 _ w
  refine storesW_blk _ 0 w cs hb (by rw [Array.length_toList,hsz];omega) h1 fun W' hO hB'=> ?_
  refine h W' hO ?_
  have:(cs.toList.take 0++(evE ρ x).cells.toList++cs.toList.drop (0+(evE ρ x).cells.toList.length)).toArray=(evE ρ x).cells:=by
    have hd:List.drop (0+(evE ρ x).cells.toList.length) cs.toList=[]:=List.drop_eq_nil_of_le (by rw [Array.length_toList,Array.length_toList,hsz];omega)
    rw [hd];simp
  rw [this] at hB'
  exact hB'
theorem row_blk {B:Nat} {cs:Array Value} {T:TypeId} (hb:Blk w B cs T):rowAt w ⟨B,0,none⟩ 0 cs.size=some cs.toList:=by
  have:=rowAt_of (w:=w) (a:=⟨B,0,none⟩) (l:=cs.toList) (i:=0) fun j hj=>by
    rw [add_lit,hb.cell]
    have hj':j<cs.size:=by simpa using hj
    simp [hj']
  simpa using this
theorem isSl_cells {v:Value} (h:isSl v=true):v.cells= #[v]:=by
  rcases isSl_cases h with ⟨b,o,n,c,rfl,_⟩|rfl|⟨b,o,s,rfl⟩<;>rfl
theorem isSl_one {v:Value} (h:isSl v=true):v.oneCell=true:=by
  rcases isSl_cases h with ⟨b,o,n,c,rfl,_⟩|rfl|⟨b,o,s,rfl⟩<;>rfl
theorem grown_below {base:Nat} {W:World} {v:Value} (hg:w.grownBy W v.ownBlock) (hb:∀k,v.ownBlock=some k→base≤k) (hbase:base≤w.heap.size):Below base w W:=
  ⟨hg.os,hg.tape,hg.output,hg.size,fun k hk=>hg.block k (by omega) fun e=>by have:=hb k e.symm;omega⟩
end
end Go.Eng
