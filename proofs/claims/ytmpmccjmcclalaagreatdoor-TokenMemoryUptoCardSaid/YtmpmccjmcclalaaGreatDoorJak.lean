/- Texts of mine for the claims about layer 1 (token), joined: EngK. -/
import Derived.Test.YtmpmccjmcclalaaGreatDoorJaj
set_option linter.all false
set_option linter.unusedSimpArgs false
set_option linter.unusedVariables false
/- Several slices of the call's own, apart from one another. -/
namespace Go.Eng
open Go.RowKit

@[simp] theorem oc_slice (a : Option Addr) (n c : Nat) : (Value.slice a n c).oneCell = true := rfl
@[simp] theorem oc_string (s : ByteArray) : (Value.string s).oneCell = true := rfl
@[simp] theorem oc_int (k : IntKind) (n : Int) : (Value.int k n).oneCell = true := rfl
@[simp] theorem oc_bool (b : Bool) : (Value.bool b).oneCell = true := rfl
@[simp] theorem oc_pointer (a : Option Addr) : (Value.pointer a).oneCell = true := rfl
@[simp] theorem ownBlock_lit (B o n c : Nat) : (Value.slice (some ⟨B, o, none⟩) n c).ownBlock = some B := rfl
@[simp] theorem ownBlock_nil (n c : Nat) : (Value.slice none n c).ownBlock = none := rfl

structure SlD where
  v : Value
  e : Nat
  sz : Nat
  xs : List Value

def Apart (a b : Value) : Prop := a.ownBlock = none ∨ a.ownBlock ≠ b.ownBlock
theorem Apart.symm {a b : Value} (h : Apart a b) : Apart b a := by
  unfold Apart at *
  rcases h with h | h
  · cases hb : b.ownBlock with
    | none => exact .inl rfl
    | some x => right; rw [h]; simp
  · exact .inr (Ne.symm h)

def OwnS (base : Nat) (W : World) : List SlD → Prop
  | [] => True
  | d :: l => Own base d.e d.sz W d.v d.xs ∧ (∀ x ∈ l, Apart d.v x.v) ∧ OwnS base W l

theorem OwnS.mem {base : Nat} {W : World} : ∀ {l : List SlD}, OwnS base W l → ∀ x ∈ l, Own base x.e x.sz W x.v x.xs
  | [], _, _, h => by simp at h
  | d :: l, ⟨h1, _, h3⟩, x, h => by
    rcases List.mem_cons.1 h with rfl | h
    · exact h1
    · exact OwnS.mem h3 x h
theorem OwnS.imp {base : Nat} {W W' : World} : ∀ {l : List SlD}, OwnS base W l → (∀ x ∈ l, Own base x.e x.sz W x.v x.xs → Own base x.e x.sz W' x.v x.xs) → OwnS base W' l
  | [], _, _ => trivial
  | d :: l, ⟨h1, h2, h3⟩, hf => ⟨hf d (by simp) h1, h2, OwnS.imp h3 fun x hx => hf x (by simp [hx])⟩
theorem OwnS.ext {base : Nat} {W W' : World} {l : List SlD} (h : OwnS base W l) (hE : Ext W W') : OwnS base W' l := h.imp fun _ _ h => h.ext hE
theorem OwnS.only {base B : Nat} {W W' : World} {l : List SlD} (h : OwnS base W l) (hO : Only B W W') (hB : B < base) : OwnS base W' l := h.imp fun _ _ h => h.only hO hB
theorem OwnS.swap {base : Nat} {W : World} {a b : SlD} {l : List SlD} (h : OwnS base W (a :: b :: l)) : OwnS base W (b :: a :: l) := by
  obtain ⟨h1, h2, h3, h4, h5⟩ := h
  refine ⟨h3, fun x hx => ?_, h1, fun x hx => h2 x (by simp [hx]), h5⟩
  rcases List.mem_cons.1 hx with rfl | hx
  · exact (h2 _ (by simp)).symm
  · exact h4 x hx
theorem OwnS.second {base : Nat} {W : World} {a b : SlD} {l : List SlD} (h : OwnS base W (a :: b :: l)) : OwnS base W (a :: l) := h.swap.2.2
theorem OwnS.tail {base : Nat} {W : World} {a : SlD} {l : List SlD} (h : OwnS base W (a :: l)) : OwnS base W l := h.2.2
theorem OwnS.head {base : Nat} {W : World} {a : SlD} {l : List SlD} (h : OwnS base W (a :: l)) : Own base a.e a.sz W a.v a.xs := h.1
theorem OwnS.consNil {base : Nat} {W : World} {l : List SlD} (h : OwnS base W l) (e sz : Nat) : OwnS base W (⟨.slice none 0 0, e, sz, []⟩ :: l) :=
  ⟨Own.nil _ _ _ _, fun _ _ => .inl rfl, h⟩
/-- A literal, new in W: apart from all that was there in w. -/
theorem OwnS.consLit {base e sz : Nat} {w W : World} {l : List SlD} (h : OwnS base w l) (hE : Ext w W) {B n : Nat} {cs : List Value} (hb : Blk W B cs.toArray e) (hB : w.heap.size ≤ B) (hbase : base ≤ w.heap.size) (hl : cs.length = n * sz) (hn : n ≤ maxLen) :
    OwnS base W (⟨.slice (some ⟨B, 0, none⟩) n n, e, sz, cs⟩ :: l) :=
  ⟨Own.lit hb hl (Nat.le_trans hbase hB) hn, fun x hx => .inr fun e => by
    have h1 := (h.mem x hx).blk B (by rw [← e]; rfl)
    omega, h.ext hE⟩

theorem Own.isl {base e sz : Nat} {w : World} {v : Value} {xs : List Value} (h : Own base e sz w v xs) : isSl v = true := by
  rcases h with ⟨rfl, _⟩ | ⟨g, off, n', cap, cur, rfl, hb, hg, hl, hc, _⟩
  · rfl
  · simp [isSl, hc]
/-- A new block as the call's own: one element. -/
theorem OwnS.consBox {base e : Nat} {w W : World} {l : List SlD} (h : OwnS base w l) (hE : Ext w W) {B : Nat} {cs : List Value} (hb : Blk W B cs.toArray e) (hB : w.heap.size ≤ B) (hbase : base ≤ w.heap.size) :
    OwnS base W (⟨.slice (some ⟨B, 0, none⟩) 1 1, e, cs.length, cs⟩ :: l) := h.consLit hE hb hB hbase (by simp) (by decide)
theorem Own.cellAt {base e sz : Nat} {w : World} {B n c : Nat} {xs : List Value} (h : Own base e sz w (.slice (some ⟨B, 0, none⟩) n c) xs) (j : Nat) (hj : j < xs.length) : w.cell? ⟨B, j, none⟩ = some xs[j] := by
  rcases h with ⟨h, _⟩ | ⟨g, off, n', cap, cur, he, hb, hg, hl, hc, _, hs, ht⟩
  · cases h
  · cases he
    have h2 : ((cur.toList.drop 0).take (n * sz))[j]? = xs[j]? := by rw [ht]
    rw [List.getElem?_take, if_pos (by omega), List.drop_zero] at h2
    simp only [World.cell?, hg]
    simpa [hj] using h2
theorem gb_trans {B : Nat} {a b c : World} (h : a.grownBy b (some B)) (k : Below a.heap.size b c) : a.grownBy c (some B) :=
  ⟨k.os.trans h.os, k.tape.trans h.tape, k.output.trans h.output, Nat.le_trans h.size k.size, fun i hi hne => (k.block i hi).trans (h.block i hi hne)⟩
theorem gb_ext {B : Nat} {a b c : World} (h : a.grownBy b (some B)) (k : Ext b c) : a.grownBy c (some B) := gb_trans h (k.mono h.size)
theorem gb_only {B : Nat} {a b c : World} (h : a.grownBy b (some B)) (k : Only B b c) : a.grownBy c (some B) :=
  ⟨k.os.trans h.os, k.tape.trans h.tape, k.output.trans h.output, by rw [k.size]; exact h.size, fun i hi hne => (k.block i (by simpa using hne)).trans (h.block i hi hne)⟩
theorem gb_refl (row : Option Nat) (a : World) : a.grownBy a row := ⟨rfl, rfl, rfl, Nat.le_refl _, fun _ _ _ => rfl⟩
theorem gb_toExt {B : Nat} {w a b : World} (h : a.grownBy b (some B)) (hE : Ext w a) (hB : w.heap.size ≤ B) : Ext w b :=
  hE.grown h hE.size fun k hk => by simp at hk; omega
theorem Blk.below {W W' : World} {B base : Nat} {cs : Array Value} {t : TypeId} (h : Blk W B cs t) (k : Below base W W') (hB : B < base) : Blk W' B cs t := ⟨(k.block B hB).trans h.heap⟩
theorem Blk.gb {W W' : World} {B B' : Nat} {cs : Array Value} {t : TypeId} (h : Blk W B cs t) (k : W.grownBy W' (some B')) (hB : B ≠ B') : Blk W' B cs t := ⟨(k.block B h.lt (by simpa using hB)).trans h.heap⟩
theorem only_below {B base : Nat} {W W' : World} (h : Only B W W') (hB : base ≤ B) : Below base W W' :=
  ⟨h.os, h.tape, h.output, by rw [h.size]; exact Nat.le_refl _, fun k hk => h.block k (by omega)⟩

section
variable {P : Program} {Q : Ks} {d : Option Nat} {ty : TypeId} {K : Env → World → Prop} {ρ : Env} {w : World}
/-- A store of all of a block that is known. -/
theorem eff_storeN {t : TypeId} {p x : Operand} {B : Nat} {cs : Array Value} {T : TypeId} (hp : evE ρ p = .pointer (some ⟨B, 0, none⟩)) (hb : Blk w B cs T) (hsz : (evE ρ x).cells.size = cs.size) (h1 : ∀ v ∈ (evE ρ x).cells.toList, v.oneCell = true)
    (hs : sizeIs P t cs.size = true) (h : ∀ W, Only B w W → Blk W B (evE ρ x).cells T → K (updO ρ d undef) W) : effW P Q d (.store t p x) ty K ρ w := by
  show sizeIs P t (evE ρ x).cells.size = true ∧ ptrK (evE ρ p) _
  rw [hp, hsz]
  refine ⟨hs, ?_⟩
  show storesW ⟨B, 0, none⟩ _ 0 _ w
  refine storesW_blk _ 0 w cs hb (by rw [Array.length_toList, hsz]; omega) h1 fun W' hO hB' => ?_
  refine h W' hO ?_
  have : (cs.toList.take 0 ++ (evE ρ x).cells.toList ++ cs.toList.drop (0 + (evE ρ x).cells.toList.length)).toArray = (evE ρ x).cells := by
    have hd : List.drop (0 + (evE ρ x).cells.toList.length) cs.toList = [] := List.drop_eq_nil_of_le (by rw [Array.length_toList, Array.length_toList, hsz]; omega)
    rw [hd]; simp
  rw [this] at hB'
  exact hB'

theorem row_blk {B : Nat} {cs : Array Value} {T : TypeId} (hb : Blk w B cs T) : rowAt w ⟨B, 0, none⟩ 0 cs.size = some cs.toList := by
  have := rowAt_of (w := w) (a := ⟨B, 0, none⟩) (l := cs.toList) (i := 0) fun j hj => by
    rw [add_lit, hb.cell]
    have hj' : j < cs.size := by simpa using hj
    simp [hj']
  simpa using this
/-- A result that lies in a variable of several cells, and another. -/
theorem retK_cN {t u n B : Nat} {cs : Array Value} {T : TypeId} {R : Ending → World → Prop} (hp : ρ t = .pointer (some ⟨B, 0, none⟩)) (hb : Blk w B cs T) (hn : cs.size = n) (h : R (.returned (.tuple #[.agg cs, ρ u])) w) : retK [.cellN t n, .tmp u] R ρ w := by
  subst hn
  simp only [retK, resVals, RV.val, hp, pv1_loadN, row_blk hb, Option.map_some, Option.bind_some]
  exact h
theorem isSl_cells {v : Value} (h : isSl v = true) : v.cells = #[v] := by
  rcases isSl_cases h with ⟨b, o, n, c, rfl, _⟩ | rfl | ⟨b, o, s, rfl⟩ <;> rfl
theorem isSl_one {v : Value} (h : isSl v = true) : v.oneCell = true := by
  rcases isSl_cases h with ⟨b, o, n, c, rfl, _⟩ | rfl | ⟨b, o, s, rfl⟩ <;> rfl
theorem grown_below {base : Nat} {W : World} {v : Value} (hg : w.grownBy W v.ownBlock) (hb : ∀ k, v.ownBlock = some k → base ≤ k) (hbase : base ≤ w.heap.size) : Below base w W :=
  ⟨hg.os, hg.tape, hg.output, hg.size, fun k hk => hg.block k (by omega) fun e => by have := hb k e.symm; omega⟩

/-- append to the first of the call's own slices. -/
theorem eff_appendS {t e sz bytes : Nat} (hi : rowInfo P t = some (e, sz, bytes)) {base : Nat} (hbase : base ≤ w.heap.size) {s x : Operand} {sv xv : Value} (hs : evE ρ s = sv) (hx : evE ρ x = xv) {xs news : List Value} {l : List SlD}
    (hown : OwnS base w (⟨sv, e, sz, xs⟩ :: l)) (hnew : Cells w xv sz news) (h1 : ∀ u ∈ news, u.oneCell' = true)
    (hlen : xs.length + news.length < 4611686018427387904) (hbytes : (xs.length + news.length) * bytes ≤ 140737488355328 * sz)
    (h : ∀ v' W, Below base w W → OwnS base W (⟨v', e, sz, xs ++ news⟩ :: l) → K (updO ρ d v') W) : effW P Q d (.call { callee := .builtin .append, args := #[s, x], argTypes := #[t, t] }) ty K ρ w := by
  subst hs; subst hx
  obtain ⟨h1', h2, h3⟩ := hown
  obtain ⟨v', W, hr, ho, hg, hfr⟩ := run_append (P := P) (ty := ty) hi h1' hnew h1 hlen hbytes hbase
  refine effE_ok (v := v') (w' := W) ?_ (h v' W (grown_below hg (fun k hk => (h1'.blk k hk).1) hbase) ⟨ho, fun y hy => ?_, h3.imp fun y hy hyo => hyo.kept hg ?_⟩)
  · simp only [execOp, effOp, resolve, invoke, builtin, Sem.run_bind, Sem.run_pure, Result.andThen_ok, List.map_toArray, List.map_cons, List.map_nil, hr]
  · rcases hfr with hfr | hfr
    · have := h2 y hy
      unfold Apart at *
      rw [hfr]; exact this
    · refine .inr fun e => ?_
      have := (h3.mem y hy).blk w.heap.size (by rw [← e, hfr])
      omega
  · exact (h2 y hy).symm

/-- A store into the first of the call's own slices. -/
theorem eff_storeS {t : TypeId} {p x : Operand} {base e sz : Nat} {sv : Value} {xs : List Value} {i : Nat} {l : List SlD} (hbase : base ≤ w.heap.size) (hown : OwnS base w (⟨sv, e, sz, xs⟩ :: l)) (hi : i < xs.length) (hp : evE ρ p = .pointer (some (slAddr sv i)))
    (hx : (evE ρ x).cells = #[evE ρ x]) (h1 : (evE ρ x).oneCell = true) (hs : sizeIs P t 1 = true) (h : ∀ W, Below base w W → OwnS base W (⟨sv, e, sz, xs.set i (evE ρ x)⟩ :: l) → K (updO ρ d undef) W) : effW P Q d (.store t p x) ty K ρ w := by
  obtain ⟨h1', h2, h3⟩ := hown
  have hblk := h1'.blk
  rcases h1' with ⟨rfl, rfl⟩ | ⟨g, off, n, cap, cur, rfl, hb, hg, hn, hnc, hm, hcs, ht⟩
  · simp at hi
  · dsimp only at hg hn hcs ht
    have hmul : n * sz ≤ cap * sz := Nat.mul_le_mul_right _ hnc
    have hb0 : Blk w g cur e := ⟨hg⟩
    simp only [slAddr, add_lit] at hp
    refine eff_store1 (B := g) (i := off + i) hp hb0 (by omega) hx h1 hs fun W hO hB => ?_
    refine h W (only_below hO hb) ⟨.inr ⟨g, off, n, cap, _, rfl, hb, hB.heap, by simpa using hn, hnc, hm, by simpa using hcs, ?_⟩, h2, h3.imp fun y hy hyo => hyo.kept (only_grownBy hO) ?_⟩
    · dsimp only; rw [Array.toList_set, ← ht, ← List.set_drop, List.take_set]
    · have := (h2 y hy).symm
      simpa [Apart, Value.ownBlock] using this
end
end Go.Eng
