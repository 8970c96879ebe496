/- Texts of mine for the claims about layer 1 (token), joined: EngR, L01S, L01P. -/
import Derived.Test.YtmpmccjmcclalaaGreatDoorJaq
import Derived.Scope
import Derived.Laws.RangeAny
import Derived.Laws.StructEq
import Derived.Lib.OthersKept
set_option linter.all false
set_option linter.unusedSimpArgs false
set_option linter.unusedVariables false
/- Bodies with labels; going over a string; structs compared; places in an array. -/
namespace Go.Eng
open Go.RowKit

/-! ### A body that bears labels and no jumps to them -/
def scopeBody : Code → Code | .scope c => c | c => c
theorem calls_irS {P : Program} {f : FuncId} {fn : Func} {V raws : List Nat} {ir ir0 : IR} {rs : List RV} {c : Code} (hf : P.funcs[f]? = some fn) (hb : fn.body = some (.scope c)) (hc : comp P fn.ntmps V raws c = some ir0)
    (hn : ir0.norm = ir) (hV : readB fn V = true) (hrs : rvsOf P V fn.results.toList = some rs) {args : Array Value} (hsz : args.size ≤ fn.ntmps) {w : World} {R : Ending → World → Prop}
    (h : ir.wp ⟨P, fn.ntmps, V, []⟩ (retK rs R) ⟨fun _ _ _ => False, retK rs R, fun _ c w => R (.panicked c) w, ∀ w, R .outgrown w, False, True⟩ (startEnv V args) w) : Calls P f args w R := by
  refine calls_of_wp hf hb ?_
  subst hn
  rw [IR.norm_wp] at h
  refine wp_scope_straight (wp_mono (comp_sem ⟨P, fn.ntmps, V, []⟩ raws c ir0 hc _ _ _ _ w (fun h : False => h.elim) (agree_start hV hsz) (fun _ => rfl) h) ?_)
  have hret : ∀ (a : Act) (w : World), (dOk ⟨P, fn.ntmps, V, []⟩ a ∧ ∃ ρ, Agree fn.ntmps V ρ a ∧ retK rs R ρ w) → a.defers = [] ∧ ∃ v, (results fn a.tmps).run P w = .ok v w ∧ R (.returned v) w := by
    rintro a w ⟨hD, ρ, ha, hk⟩
    simp only [retK] at hk
    split at hk
    · rename_i vs hvs
      exact ⟨hD rfl, _, results_run ha hrs hvs, hk⟩
    · cases hk
  intro e a w he
  cases e with
  | normal => exact hret a w he
  | ret => exact hret a w he
  | exit i => obtain ⟨_, _, _, hf⟩ := he; exact hf
  | goto i => exact he
  | panic c => exact ⟨he.1 rfl, let ⟨_, _, h⟩ := he.2; h⟩
  | outgrown => exact (show ∀ w, R .outgrown w from he) w
theorem raw_label {cx : Cx} {l : Nat} {K : Env → World → Prop} {Q : Ks} {ρ : Env} {w : World} (h : K ρ w) : (IR.raw (.label l)).wp cx K Q ρ w :=
  fun _ ha hD _ => wp_label ⟨hD, ρ, ha, h⟩

section
variable {P : Program} {Q : Ks} {d : Option Nat} {ty : TypeId} {K : Env → World → Prop} {ρ : Env} {w : World}
/-! ### Going over a string -/
theorem eff_rangeS {t : TypeId} {x : Operand} {s : ByteArray} (ht : P.underlying t = some .string) (hx : evE ρ x = .string s)
    (h : ∀ B W, w.heap.size ≤ B → Ext w W → W.heap[B]? = some (.stringIter s 0) → K (updO ρ d (.pointer (some ⟨B, 0, none⟩))) W) : effW P Q d (.range t x) ty K ρ w := by
  refine effE_ok (v := .pointer (some ⟨w.heap.size, 0, none⟩)) (w' := w.iter s 0) ?_ (h _ _ (Nat.le_refl _) (ext_alloc w _) (heap_alloc_new w _))
  simp only [execOp, effOp, hx, Sem.run_bind, run_range_string w t s ht, Result.andThen_ok, Sem.run_pure]
theorem only_iterAt (w : World) (k : Nat) (s : ByteArray) (pos : Nat) : Only k w (w.iterAt k s pos) :=
  ⟨rfl, rfl, rfl, by simp [World.iterAt], fun i hi => by simp [World.iterAt, Array.getElem?_setIfInBounds, Ne.symm hi]⟩
theorem eff_nextS {x : Operand} {B pos : Nat} {s : ByteArray} (hx : evE ρ x = .pointer (some ⟨B, 0, none⟩)) (hk : w.heap[B]? = some (.stringIter s pos))
    (h1 : pos < s.size → ∀ W, Only B w W → W.heap[B]? = some (.stringIter s (pos + (Utf8.decode s pos).2)) → K (updO ρ d (.tuple #[.bool true, .int .i64 pos, .int .i32 (Utf8.decode s pos).1])) W)
    (h2 : ¬ pos < s.size → K (updO ρ d (.tuple #[.bool false])) w) : effW P Q d (.next x true) ty K ρ w := by
  by_cases hp : pos < s.size
  · refine effE_ok (v := .tuple #[.bool true, .int .i64 pos, .int .i32 (Utf8.decode s pos).1]) (w' := w.iterAt B s (pos + (Utf8.decode s pos).2)) ?_ (h1 hp _ (only_iterAt _ _ _ _) (Lib.iterAt_heap _ _ _ _ _ hk))
    simp only [execOp, effOp, hx, Sem.run_bind, Lib.run_next_any_at w B s pos _ hk hp, Result.andThen_ok, Sem.run_pure]
  · refine effE_ok (v := .tuple #[.bool false]) (w' := w) ?_ (h2 hp)
    simp only [execOp, effOp, hx, Sem.run_bind, Lib.run_next_end_at w B s pos _ hk hp, Result.andThen_ok, Sem.run_pure]

/-! ### Structs compared -/
theorem eff_eqlT {t t2 : TypeId} {x y : Operand} {xs ys : Array Value} {b : Bool} (hx : evE ρ x = .agg xs) (hy : evE ρ y = .agg ys) (hg : P.eqGuardType P.depth t = false) (hr : (Op.equalIn 10000 t (.agg xs) (.agg ys)).run P w = .ok b w)
    (h : K (updO ρ d (.bool b)) w) : effW P Q d (.binOp .eql t x y t2) ty K ρ w := by
  refine effE_ok (v := .bool b) (w' := w) ?_ h
  simp [execOp, effOp, hx, hy, run_eqGuard_agg w .eql t x y xs ys hg, run_eql_struct, hr]
theorem eff_neqT {t t2 : TypeId} {x y : Operand} {xs ys : Array Value} {b : Bool} (hx : evE ρ x = .agg xs) (hy : evE ρ y = .agg ys) (hg : P.eqGuardType P.depth t = false) (hr : (Op.equalIn 10000 t (.agg xs) (.agg ys)).run P w = .ok b w)
    (h : K (updO ρ d (.bool (!b))) w) : effW P Q d (.binOp .neq t x y t2) ty K ρ w := by
  refine effE_ok (v := .bool (!b)) (w' := w) ?_ h
  simp [execOp, effOp, hx, hy, run_eqGuard_agg w .neq t x y xs ys hg, run_neq_struct, hr]
/-! ### A place in an array that lies in a variable -/
theorem eff_ixaA {t e : TypeId} {x i : Operand} {n k B o : Nat} {ik : IntKind} {inf : TypeInfo} (ht : P.underlying t = some (.array n e)) (hi : P.info? e = some inf) (h1 : inf.size = 1) (hx : evE ρ x = .pointer (some ⟨B, o, none⟩)) (hk : evE ρ i = .int ik (k : Int)) (hkn : k < n)
    (h : K (updO ρ d (.pointer (some ⟨B, o + k, none⟩))) w) : effW P Q d (.indexAddr t x i) ty K ρ w := by
  refine effE_ok (v := .pointer (some ⟨B, o + k, none⟩)) (w' := w) ?_ h
  simp [execOp, effOp, Instr.indexAt, asIntOf, run_underlying ht, hx, hk, hkn, sizeOf, typeInfo, hi, h1, Instr.sureAddr]
end
/-! ### Deferred closures that recover, with regions whose order is open -/
def recBR (raws : List Nat) : Code → Bool
  | .seq a _ => recBR raws a
  | .region id ops d => recHead ops && !d && !raws.contains id
  | _ => false
/-- The same with regions whose order is open. -/
theorem comp_semSR (cx : Cx) (raws : List Nat) (c0 : Frame) (cs : List Frame) : ∀ (c : Code) (ir : IR), recBR raws c = true → comp cx.P cx.n cx.V raws (swapRec (recV c0.mode) c) = some ir → ∀ (K : Env → World → Prop) (Q : Ks) (ρ : Env) (a : Act) (w : World),
    (Q.df → cx.D ≠ []) → Agree cx.n cx.V ρ a → dOk cx a → ir.wp cx K Q ρ w → c.wpSIn Fence.wide 0 cx.P (fun e a' cs' w' => cs' = { c0 with mode := recU c0.mode } :: cs ∧ lift cx K Q e a' w') a (c0 :: cs) w := by
  intro c
  induction c with
  | seq x y ihx ihy =>
    intro ir hrb h K Q ρ a w hdf ha hD hw
    simp only [swapRec, comp] at h
    split at h
    · rename_i ix iy hx hy
      cases h
      refine wpSIn_seq ?_
      have h1 := ihx ix hrb hx (fun ρ' w' => iy.wp cx K Q ρ' w') Q ρ a w hdf ha hD hw
      intro b k hb hro hF hroom
      obtain ⟨e, a', cs', w', hl, ⟨hcs, hq⟩, harr⟩ := h1 b k hb hro hF hroom
      refine ⟨e, a', cs', w', hl, ?_, harr⟩
      cases e with
      | normal =>
        obtain ⟨hD', ρ', ha', hk⟩ := hq
        subst hcs
        have h2 := comp_sem cx raws y iy hy K Q ρ' a' w' hdf ha' hD' hk
        refine wpSIn_of_wpIn rfl ((wpIn_wide (n := 0)).2 (wp_mono h2 fun e a w he => ⟨rfl, he⟩))
      | exit i => exact ⟨hcs, hq⟩
      | goto i => exact ⟨hcs, hq⟩
      | ret => exact ⟨hcs, hq⟩
      | panic c => exact ⟨hcs, hq⟩
      | outgrown => exact ⟨hcs, hq⟩
    · cases h
  | region id ops draw =>
    intro ir hrb h K Q ρ a w hdf ha hD hw
    simp only [recBR, Bool.and_eq_true, Bool.not_eq_true'] at hrb
    obtain ⟨⟨hrh, hdr⟩, hni⟩ := hrb
    subst hdr
    simp only [swapRec, comp, hni, Bool.false_eq_true, if_false] at h
    split at h
    · rename_i hreg
      have hr := regionB_spec hreg
      split at h
      · cases h
      · rename_i l hl
        cases h
        refine wpSIn_rec c0 cs hrh ?_
        have h1 := st_sem (P := cx.P) cx rfl rfl rfl hr (ro := none) (.inl rfl) Q (lift cx K Q) (fun ρ c a w h1 h2 h3 => ⟨h1, ρ, h2, h3⟩) lift_og hdf _ _ l hl K ρ a w ha hD hw
        rw [List.range_eq_range']
        refine wpOps_mono ?_ _ _ _ h1
        intro e a' w' he
        cases e <;> exact he
    · cases h
  | skip => intro ir hrb; cases hrb
  | cond c x y _ _ => intro ir hrb; cases hrb
  | block id x _ => intro ir hrb; cases hrb
  | loop x _ => intro ir hrb; cases hrb
  | exit id => intro ir hrb; cases hrb
  | ret => intro ir hrb; cases hrb
  | rangeFunc f ps asg body _ _ => intro ir hrb; cases hrb
  | scope b _ => intro ir hrb; cases hrb
  | label l => intro ir hrb; cases hrb
  | goto l => intro ir hrb; cases hrb
  | refuse s => intro ir hrb; cases hrb

/-- The same with regions whose order is open. -/
theorem callsD_recR {P : Program} {f : FuncId} {fn : Func} {V raws : List Nat} {ir ir0 : IR} {rs : List RV} {c : Code} {u : FrameMode} (hf : P.funcs[f]? = some fn) (hb : fn.body = some c) (hrec : recBR raws c = true) (hc : comp P fn.ntmps V raws (swapRec (recV u) c) = some ir0)
    (hn : ir0.norm = ir) (hV : readB fn V = true) (hrs : rvsOf P V fn.results.toList = some rs) {args : Array Value} (hsz : args.size ≤ fn.ntmps) {w : World} {R : Ending → FrameMode → World → Prop}
    (h : ir.wp ⟨P, fn.ntmps, V, []⟩ (recK rs (recU u) R) (recKs rs (recU u) R) (startEnv V args) w) : CallsDIn Fence.wide 0 P f args u w R := by
  refine callsDIn_of_wpSIn hf hb trivial fun c0 cs hu => ?_
  subst hn
  rw [IR.norm_wp] at h
  subst hu
  have h1 := comp_semSR ⟨P, fn.ntmps, V, []⟩ raws c0 cs c ir0 hrec hc _ _ _ _ w (fun h : False => h.elim) (agree_start hV hsz) (fun _ => rfl) h
  intro b k hb2 hro hF hroom
  obtain ⟨e, a', cs', w', hl, ⟨hcs, hq⟩, harr⟩ := h1 b k hb2 hro hF hroom
  refine ⟨e, a', cs', w', hl, ?_, harr⟩
  have hret : ∀ (a : Act) (w : World), (dOk ⟨P, fn.ntmps, V, []⟩ a ∧ ∃ ρ, Agree fn.ntmps V ρ a ∧ recK rs (recU c0.mode) R ρ w) → a.defers = [] ∧ ∃ u', cs' = { c0 with mode := u' } :: cs ∧ ∃ v, (results fn a.tmps).run P w = .ok v w ∧ R (.returned v) u' w := by
    rintro a w ⟨hD, ρ, ha, hk⟩
    simp only [recK, retK] at hk
    split at hk
    · rename_i vs hvs
      exact ⟨hD rfl, _, hcs, _, results_run ha hrs hvs, hk⟩
    · cases hk
  cases e with
  | normal => exact hret a' w' hq
  | ret => exact hret a' w' hq
  | exit i => obtain ⟨_, _, _, hf⟩ := hq; exact hf.elim
  | goto i => exact False.elim hq
  | panic ch => exact ⟨hq.1 rfl, _, hcs, let ⟨_, _, h⟩ := hq.2; h⟩
  | outgrown => exact ⟨_, (show ∀ w, R .outgrown (recU c0.mode) w from hq) w'⟩

end Go.Eng
/- Layer 1, plainly: tokens, and what the functions answer. -/
namespace Go.L01
open Go.Eng

abbrev Bs := List UInt8
structure Tok where
  kind : Nat
  text : Bs
  line : Int
  deriving DecidableEq

def letter (c : UInt8) : Bool := decide (97 ≤ c.toNat) && decide (c.toNat ≤ 122)
def digit (c : UInt8) : Bool := decide (48 ≤ c.toNat) && decide (c.toNat ≤ 57)
def part (c : UInt8) : Bool := letter c || digit c
def blank (c : UInt8) : Bool := decide (c = 32) || decide (c = 9) || decide (c = 10)

/-- The reserved words, ascending. -/
def wordsL : List Bs :=
  [[97, 110, 100], [97, 114, 114, 97, 121], [98, 101, 103, 105, 110], [98, 111, 111, 108], [98, 114, 101, 97, 107], [99, 108, 117, 115, 116, 101, 114], [100, 111], [100, 111, 119, 110], [101, 108, 115, 101], [101, 108, 115, 101, 105, 102], [101, 110, 100], [101, 120, 99, 101, 112, 116], [102, 97, 108, 115, 101], [102, 111, 114], [104, 97, 115], [105, 102], [105, 110], [105, 110, 116], [105, 115], [105, 116, 101, 114], [109, 111, 100], [110, 105, 108], [110, 111, 116], [110, 117, 108, 108], [111, 110, 101, 111, 102], [111, 114], [111, 116, 104, 101, 114, 115], [112, 114, 111, 99], [112, 117, 116], [114, 101, 99, 111, 114, 100], [114, 101, 112], [114, 101, 116, 117, 114, 110], [114, 101, 116, 117, 114, 110, 115], [115, 105, 103, 110, 97, 108], [115, 105, 103, 110, 97, 108, 115], [116, 97, 103], [116, 97, 103, 99, 97, 115, 101], [116, 104, 101, 110], [116, 114, 117, 101], [117, 112], [118, 97, 114], [119, 104, 101, 110], [119, 104, 101, 114, 101], [119, 104, 105, 108, 101], [121, 105, 101, 108, 100], [121, 105, 101, 108, 100, 115]]
/-- The signs, ascending. -/
def signsL : List Bs :=
  [[36], [40], [41], [42], [43], [44], [45], [46], [47], [58], [58, 61], [59], [60], [60, 61], [61], [63], [91], [93], [95], [123], [125]]

def runL (s : Bs) : Nat := (s.takeWhile part).length
def digitsL (s : Bs) : Nat := (s.takeWhile digit).length
def isWord (s : Bs) : Bool := wordsL.contains s
def isName (s : Bs) : Bool := decide (0 < s.length) && decide (s.length ≤ 12) && letter (s.getD 0 0) && decide (runL s = s.length) && !isWord s
/-- 1000000000. -/
def most : Bs := [49, 48, 48, 48, 48, 48, 48, 48, 48, 48]
def isNumber (s : Bs) : Bool :=
  !(decide (s.length = 0) || decide (10 < s.length) || decide (digitsL s ≠ s.length) || (decide (1 < s.length) && decide (s.getD 0 0 = 48))) && (decide (s.length < 10) || decide (s = most))
def isSign (s : Bs) : Bool := signsL.contains s
def right (k : Nat) (s : Bs) : Bool :=
  if k = 1 then isName s else if k = 2 then isWord s else if k = 3 then isNumber s else if k = 4 then isSign s else false

/-- The kind of the token with which a text begins, how many bytes it has, its error. -/
def first (s : Bs) : Nat × Nat × Int :=
  if letter (s.getD 0 0) then (if isWord (s.take (runL s)) then (2, runL s, 0) else if 12 < runL s then (0, 0, 12) else (1, runL s, 0))
  else if digit (s.getD 0 0) then (if isNumber (s.take (digitsL s)) then (3, digitsL s, 0) else (0, 0, 11))
  else if 1 < s.length ∧ isSign (s.take 2) = true then (4, 2, 0) else if isSign (s.take 1) then (4, 1, 0) else (0, 0, 10)
def comLen (s : Bs) : Nat := (s.takeWhile fun c => decide (c ≠ 10)).length

/-- What is read of a text: an error and its line, or tokens and comments. -/
inductive Res where
  | bad (e line : Int)
  | ok (ts : List Tok) (cs : List Bs)
  deriving DecidableEq
def Res.add (out : List Tok) (com : List Bs) : Res → Res
  | .bad e l => .bad e l
  | .ok ts cs => .ok (out ++ ts) (com ++ cs)

def scanF : Nat → Bs → Int → Res
  | 0, _, _ => .ok [] []
  | _ + 1, [], _ => .ok [] []
  | f + 1, c :: r, l =>
    if c = 10 then scanF f r (l + 1)
    else if c = 32 ∨ c = 9 then scanF f r l
    else if c = 37 then (scanF f ((c :: r).drop (comLen (c :: r))) l).add [] [(c :: r).take (comLen (c :: r))]
    else if (first (c :: r)).2.2 ≠ 0 then .bad (first (c :: r)).2.2 l
    else (scanF f ((c :: r).drop (first (c :: r)).2.1) l).add [⟨(first (c :: r)).1, (c :: r).take (first (c :: r)).2.1, l⟩] []
def scanAt (s : Bs) (l : Int) : Res := scanF s.length s l
def scan (s : Bs) : Res := if 20000 < s.length then .bad 2 0 else scanAt s 1
def Res.toks : Res → List Tok | .ok ts _ => ts | _ => []
def Res.coms : Res → List Bs | .ok _ cs => cs | _ => []
def Res.err : Res → Int | .bad e _ => e | _ => 0
def Res.at : Res → Int | .bad _ l => l | _ => 0

/-! ### What first answers -/
theorem runL_pos {s : Bs} (h : letter (s.getD 0 0) = true) : 0 < runL s := by
  cases s with
  | nil => simp [letter] at h
  | cons c r =>
    have hp : part c = true := by simp [part]; exact .inl (by simpa using h)
    simp [runL, List.takeWhile_cons, hp]
theorem digitsL_pos {s : Bs} (h : digit (s.getD 0 0) = true) : 0 < digitsL s := by
  cases s with
  | nil => simp [digit] at h
  | cons c r =>
    have hp : digit c = true := by simpa using h
    simp [digitsL, List.takeWhile_cons, hp]
theorem takeWhile_le {α : Type} (p : α → Bool) (s : List α) : (s.takeWhile p).length ≤ s.length := (List.takeWhile_sublist p).length_le
theorem first_len {s : Bs} (h : (first s).2.2 = 0) (h0 : s ≠ []) : 0 < (first s).2.1 ∧ (first s).2.1 ≤ s.length := by
  have hl : 0 < s.length := List.length_pos_iff.2 h0
  unfold first at h ⊢
  split
  · rename_i hc
    rw [if_pos hc] at h
    have h1 := runL_pos hc
    have h2 : runL s ≤ s.length := takeWhile_le _ _
    split
    · exact ⟨h1, h2⟩
    · rename_i hw
      rw [if_neg hw] at h
      split
      · rename_i h12; rw [if_pos h12] at h; cases h
      · exact ⟨h1, h2⟩
  · rename_i hc
    rw [if_neg hc] at h
    split
    · rename_i hd
      rw [if_pos hd] at h
      have h1 := digitsL_pos hd
      have h2 : digitsL s ≤ s.length := takeWhile_le _ _
      split
      · exact ⟨h1, h2⟩
      · rename_i hn; rw [if_neg hn] at h; cases h
    · rename_i hd
      rw [if_neg hd] at h
      split
      · rename_i h2; exact ⟨by simp, by simp; omega⟩
      · rename_i h2
        rw [if_neg h2] at h
        split
        · exact ⟨by simp, by simp; omega⟩
        · rename_i h1; rw [if_neg h1] at h; cases h
theorem comLen_pos (r : Bs) : 0 < comLen (37 :: r) := by simp [comLen, List.takeWhile_cons]
theorem comLen_le (s : Bs) : comLen s ≤ s.length := takeWhile_le _ _

/-! ### The reading, step by step -/
theorem scanF_fuel : ∀ (f g : Nat) (s : Bs) (l : Int), s.length ≤ f → s.length ≤ g → scanF f s l = scanF g s l
  | 0, g, s, l, hf, _ => by
    have : s = [] := List.length_eq_zero_iff.1 (by omega)
    subst this
    cases g <;> rfl
  | f + 1, 0, s, l, _, hg => by
    have : s = [] := List.length_eq_zero_iff.1 (by omega)
    subst this; rfl
  | f + 1, g + 1, [], l, _, _ => rfl
  | f + 1, g + 1, c :: r, l, hf, hg => by
    simp only [List.length_cons] at hf hg
    unfold scanF
    split
    · exact scanF_fuel f g r _ (by omega) (by omega)
    · split
      · exact scanF_fuel f g r _ (by omega) (by omega)
      · split
        · rename_i hc
          subst hc
          have h1 := comLen_pos r
          rw [scanF_fuel f g _ _ (by simp only [List.length_drop, List.length_cons]; omega) (by simp only [List.length_drop, List.length_cons]; omega)]
        · split
          · rfl
          · rename_i he
            have h1 := first_len (s := c :: r) (by simpa using he) (by simp)
            rw [scanF_fuel f g _ _ (by simp only [List.length_drop, List.length_cons]; omega) (by simp only [List.length_drop, List.length_cons]; omega)]
theorem scanAt_nil (l : Int) : scanAt [] l = .ok [] [] := rfl
theorem scanAt_cons (c : UInt8) (r : Bs) (l : Int) : scanAt (c :: r) l =
    if c = 10 then scanAt r (l + 1)
    else if c = 32 ∨ c = 9 then scanAt r l
    else if c = 37 then (scanAt ((c :: r).drop (comLen (c :: r))) l).add [] [(c :: r).take (comLen (c :: r))]
    else if (first (c :: r)).2.2 ≠ 0 then .bad (first (c :: r)).2.2 l
    else (scanAt ((c :: r).drop (first (c :: r)).2.1) l).add [⟨(first (c :: r)).1, (c :: r).take (first (c :: r)).2.1, l⟩] [] := by
  show scanF (r.length + 1) (c :: r) l = _
  rw [scanF]
  split
  · rfl
  · split
    · rfl
    · split
      · rename_i hc
        subst hc
        have h1 := comLen_pos r
        rw [scanAt, scanF_fuel r.length _ _ _ (by simp only [List.length_drop, List.length_cons]; omega) (Nat.le_refl _)]
      · split
        · rfl
        · rename_i he
          have h1 := first_len (s := c :: r) (by simpa using he) (by simp)
          rw [scanAt, scanF_fuel r.length _ _ _ (by simp only [List.length_drop, List.length_cons]; omega) (Nat.le_refl _)]
theorem Res.add_add (a b : List Tok) (c d : List Bs) (r : Res) : (r.add b d).add a c = r.add (a ++ b) (c ++ d) := by
  cases r <;> simp [Res.add]
@[simp] theorem Res.add_nil (r : Res) : r.add [] [] = r := by cases r <;> rfl

/-! ### Check, Apart, Print, Tight -/
/-- What is wrong with the token at i. -/
def badT (l : List Tok) (i : Nat) : Int :=
  if 20000 ≤ i then 2 else match l[i]? with
  | none => 0
  | some t => if !right t.kind t.text || decide (t.line < 1) || decide (20000 < t.line) || (decide (0 < i) && decide (t.line < (l.getD (i - 1) ⟨0, [], 0⟩).line)) then 1 else 0
def check (l : List Tok) : Int × Int :=
  match (List.range l.length).find? (fun i => decide (badT l i ≠ 0)) with
  | some i => (i, badT l i)
  | none => (0, 0)
def rights (a b : Tok) : Bool := right a.kind a.text && right b.kind b.text
/-- Has something to stand between two tokens that are right? -/
def apart (a b : Tok) : Bool := !decide (scan (a.text ++ b.text) = .ok [⟨a.kind, a.text, 1⟩, ⟨b.kind, b.text, 1⟩] [])
def sepL (i : Nat) (last line : Int) : Bs := (if 0 < i ∧ line = last then [32] else []) ++ List.replicate (line - last).toNat 10
def printFrom : Nat → Int → List Tok → Bs
  | _, _, [] => []
  | i, last, t :: ts => sepL i last t.line ++ t.text ++ printFrom (i + 1) (max last t.line) ts
def printL (l : List Tok) : Bs := printFrom 0 1 l ++ (if l = [] then [] else [10])
def tightL : List Tok → Bs
  | [] => []
  | [t] => t.text
  | a :: b :: ts => a.text ++ (if apart a b then [32] else []) ++ tightL (b :: ts)
end Go.L01
/- Layer 1, plainly: laws of reading and printing tokens. -/
namespace Go.L01
open Go.Eng

theorem part_not_blank {c : UInt8} (h : blank c = true) : part c = false := by
  simp only [blank, Bool.or_eq_true, decide_eq_true_eq] at h
  rcases h with (rfl | rfl) | rfl <;> decide
theorem digit_not_blank {c : UInt8} (h : blank c = true) : digit c = false := by
  simp only [blank, Bool.or_eq_true, decide_eq_true_eq] at h
  rcases h with (rfl | rfl) | rfl <;> decide
theorem digit_part {c : UInt8} (h : digit c = true) : part c = true := by simp [part, h]
theorem letter_part {c : UInt8} (h : letter c = true) : part c = true := by simp [part, h]

/-- How long a run is that ends where s does. -/
theorem run_tail {p : UInt8 → Bool} {s r r' : Bs} (h : ((s ++ r).takeWhile p).length = s.length) (hr : r' = [] ∨ ∃ c x, r' = c :: x ∧ (p c = false ∨ ∃ y, r = c :: y)) : ((s ++ r').takeWhile p).length = s.length := by
  have hall : ∀ x ∈ s, p x = true := by
    have h1 : (s ++ r).takeWhile p = s := by
      have h2 := List.takeWhile_prefix p (l := s ++ r)
      have h3 : s <+: s ++ r := List.prefix_append _ _
      exact List.prefix_of_prefix_length_le h2 h3 (by omega) |>.eq_of_length h
    intro x hx
    have h4 : x ∈ (s ++ r).takeWhile p := by rw [h1]; exact hx
    exact List.all_eq_true.1 (List.all_takeWhile (p := p) (l := s ++ r)) x h4
  rw [List.takeWhile_append_of_pos hall, List.length_append]
  rw [List.takeWhile_append_of_pos hall, List.length_append] at h
  have h0 : (r.takeWhile p) = [] := List.length_eq_zero_iff.1 (by omega)
  rcases hr with rfl | ⟨c, x, rfl, hc | ⟨y, rfl⟩⟩
  · simp
  · simp [List.takeWhile_cons, hc]
  · have hcp : p c = false := by
      cases hp : p c with
      | false => rfl
      | true => rw [List.takeWhile_cons, hp] at h0; simp at h0
    simp [List.takeWhile_cons, hcp]

theorem signs2 : ∀ s ∈ signsL, (s.length = 1 ∨ s.length = 2) ∧ letter (s.getD 0 0) = false ∧ digit (s.getD 0 0) = false ∧ (s.length = 2 → blank (s.getD 1 0) = false) ∧ (∀ c ∈ s, c ≠ 10 ∧ c ≠ 37 ∧ c ≠ 32 ∧ c ≠ 9) := by decide
theorem words2 : ∀ s ∈ wordsL, letter (s.getD 0 0) = true ∧ runL s = s.length ∧ s ≠ [] := by decide

/-- What stands behind a token turns nothing of it, if it begins as what stood there, or with a blank, or is not there. -/
theorem first_tail {s r r' : Bs} {k : Nat} (hs : s ≠ []) (h : first (s ++ r) = (k, s.length, 0)) (hr : r' = [] ∨ ∃ c x, r' = c :: x ∧ (blank c = true ∨ ∃ y, r = c :: y)) : first (s ++ r') = (k, s.length, 0) := by
  obtain ⟨a, s', rfl⟩ : ∃ a s', s = a :: s' := by cases s with | nil => exact absurd rfl hs | cons a s' => exact ⟨a, s', rfl⟩
  have g : ∀ z : Bs, ((a :: s') ++ z).getD 0 0 = a := fun z => by simp
  unfold first at h ⊢
  rw [g] at h ⊢
  by_cases hl : letter a = true
  · rw [if_pos hl] at h ⊢
    have hrun : runL ((a :: s') ++ r) = (a :: s').length := by
      split at h
      · exact (Prod.mk.inj (Prod.mk.inj h).2).1
      · split at h
        · have := (Prod.mk.inj (Prod.mk.inj h).2).2; cases this
        · exact (Prod.mk.inj (Prod.mk.inj h).2).1
    have hrun' : runL ((a :: s') ++ r') = (a :: s').length := run_tail hrun (by
      rcases hr with h | ⟨c, x, h1, h2 | h2⟩
      · exact .inl h
      · exact .inr ⟨c, x, h1, .inl (part_not_blank h2)⟩
      · exact .inr ⟨c, x, h1, .inr h2⟩)
    rw [hrun] at h
    rw [hrun']
    rw [List.take_left] at h ⊢
    exact h
  · rw [if_neg hl] at h ⊢
    by_cases hd : digit a = true
    · rw [if_pos hd] at h ⊢
      have hrun : digitsL ((a :: s') ++ r) = (a :: s').length := by
        split at h
        · exact (Prod.mk.inj (Prod.mk.inj h).2).1
        · have := (Prod.mk.inj (Prod.mk.inj h).2).2; cases this
      have hrun' : digitsL ((a :: s') ++ r') = (a :: s').length := run_tail hrun (by
        rcases hr with h | ⟨c, x, h1, h2 | h2⟩
        · exact .inl h
        · exact .inr ⟨c, x, h1, .inl (digit_not_blank h2)⟩
        · exact .inr ⟨c, x, h1, .inr h2⟩)
      rw [hrun] at h
      rw [hrun']
      rw [List.take_left] at h ⊢
      exact h
    · rw [if_neg hd] at h ⊢
      by_cases h2 : 1 < ((a :: s') ++ r).length ∧ isSign (((a :: s') ++ r).take 2) = true
      · rw [if_pos h2] at h
        have hlen : (a :: s').length = 2 := (Prod.mk.inj (Prod.mk.inj h).2).1.symm
        have hk : k = 4 := (Prod.mk.inj h).1.symm
        obtain ⟨b, rfl⟩ : ∃ b, s' = [b] := by
          cases s' with
          | nil => simp at hlen
          | cons b t => cases t with
            | nil => exact ⟨b, rfl⟩
            | cons _ _ => simp at hlen
        have e : ∀ z : Bs, ([a, b] ++ z).take 2 = [a, b] := fun z => by simp
        rw [e] at h2 ⊢
        rw [if_pos ⟨by simp, h2.2⟩, hk]
        rfl
      · rw [if_neg h2] at h
        by_cases h1 : isSign (((a :: s') ++ r).take 1) = true
        · rw [if_pos h1] at h
          have hlen : (a :: s').length = 1 := (Prod.mk.inj (Prod.mk.inj h).2).1.symm
          have hk : k = 4 := (Prod.mk.inj h).1.symm
          obtain rfl : s' = [] := List.length_eq_zero_iff.1 (by simpa using hlen)
          have e1 : ∀ z : Bs, ([a] ++ z).take 1 = [a] := fun z => by simp
          rw [e1] at h1 ⊢
          have hn : ¬ (1 < ([a] ++ r').length ∧ isSign (([a] ++ r').take 2) = true) := by
            rintro ⟨hlt, hsg⟩
            rcases hr with rfl | ⟨c, x, rfl, hb | ⟨y, rfl⟩⟩
            · simp at hlt
            · have e2 : ([a] ++ c :: x).take 2 = [a, c] := by simp
              rw [e2] at hsg
              have := (signs2 [a, c] (by simpa [isSign] using hsg)).2.2.2.1 rfl
              simp at this
              rw [hb] at this; cases this
            · have e2 : ∀ z, ([a] ++ c :: z).take 2 = [a, c] := fun z => by simp
              rw [e2] at hsg h2
              exact h2 ⟨by simp, hsg⟩
          rw [if_neg hn, if_pos h1, hk]
          rfl
        · rw [if_neg h1] at h
          have := (Prod.mk.inj (Prod.mk.inj h).2).2; cases this

theorem first_alone {k : Nat} {s : Bs} (h : right k s = true) : s ≠ [] ∧ first s = (k, s.length, 0) := by
  unfold right at h
  split at h
  · rename_i hk; subst hk
    simp only [isName, Bool.and_eq_true, decide_eq_true_eq, Bool.not_eq_true'] at h
    obtain ⟨⟨⟨⟨h1, h2⟩, h3⟩, h4⟩, h5⟩ := h
    refine ⟨by rintro rfl; simp at h1, ?_⟩
    unfold first
    rw [if_pos h3, h4, List.take_length, h5, if_neg (by simp), if_neg (by omega)]
  · split at h
    · rename_i hk; subst hk
      obtain ⟨h1, h2, h3⟩ := words2 s (by simpa [isWord] using h)
      refine ⟨h3, ?_⟩
      unfold first
      rw [if_pos h1, h2, List.take_length, if_pos h]
    · split at h
      · rename_i hk; subst hk
        have hn := h
        simp only [isNumber, Bool.and_eq_true, Bool.not_eq_true', Bool.or_eq_false_iff, decide_eq_false_iff_not, Decidable.not_not] at h
        obtain ⟨⟨⟨⟨h1, h2⟩, h3⟩, h4⟩, h5⟩ := h
        have h0 : s ≠ [] := by rintro rfl; simp at h1
        obtain ⟨a, s', rfl⟩ : ∃ a s', s = a :: s' := by cases s with | nil => exact absurd rfl h0 | cons a s' => exact ⟨a, s', rfl⟩
        have hd : digit a = true := by
          cases hd : digit a with
          | true => rfl
          | false => simp [digitsL, List.takeWhile_cons, hd] at h3
        have hl : letter a = false := by
          simp only [digit, Bool.and_eq_true, decide_eq_true_eq] at hd
          simp only [letter, Bool.and_eq_false_iff, decide_eq_false_iff_not]
          omega
        refine ⟨h0, ?_⟩
        unfold first
        have g : (a :: s').getD 0 0 = a := rfl
        rw [g, if_neg (by rw [hl]; simp), if_pos hd, h3, List.take_length, if_pos hn]
      · split at h
        · rename_i hk; subst hk
          obtain ⟨hlen, hl, hd, _, _⟩ := signs2 s (by simpa [isSign] using h)
          refine ⟨by rintro rfl; simp at hlen, ?_⟩
          unfold first
          rw [if_neg (by rw [hl]; simp), if_neg (by rw [hd]; simp)]
          rcases hlen with h1 | h2
          · rw [if_neg (by omega), ← h1, List.take_length, if_pos h]
          · rw [← h2, List.take_length, if_pos ⟨by omega, h⟩]
        · cases h
/-- A token that is right, and what may stand behind it. -/
theorem first_right {k : Nat} {s r : Bs} (h : right k s = true) (hr : r = [] ∨ ∃ c x, r = c :: x ∧ blank c = true) : first (s ++ r) = (k, s.length, 0) := by
  obtain ⟨h0, h1⟩ := first_alone h
  refine first_tail (r := []) h0 (by simpa using h1) ?_
  rcases hr with h | ⟨c, x, h2, h3⟩
  · exact .inl h
  · exact .inr ⟨c, x, h2, .inl h3⟩

theorem takeWhile_all {p : UInt8 → Bool} (s : Bs) : (s.take (s.takeWhile p).length) = s.takeWhile p := by
  have h := List.takeWhile_prefix p (l := s)
  exact (List.prefix_iff_eq_take.1 h).symm
theorem takeWhile_self {p : UInt8 → Bool} (s : Bs) : ((s.takeWhile p).takeWhile p) = s.takeWhile p := by
  induction s with
  | nil => rfl
  | cons a s ih =>
    by_cases h : p a = true
    · simp [List.takeWhile_cons, h, ih]
    · simp [List.takeWhile_cons, h]

/-- What is read first is right. -/
theorem first_is {s : Bs} (h0 : s ≠ []) (h : (first s).2.2 = 0) : right (first s).1 (s.take (first s).2.1) = true ∧ ((first s).1 = 1 ∨ (first s).1 = 2 ∨ (first s).1 = 3 ∨ (first s).1 = 4) := by
  obtain ⟨a, t, rfl⟩ : ∃ a t, s = a :: t := by cases s with | nil => exact absurd rfl h0 | cons a t => exact ⟨a, t, rfl⟩
  have g : (a :: t).getD 0 0 = a := rfl
  unfold first at h ⊢
  rw [g] at h ⊢
  by_cases hl : letter a = true
  · rw [if_pos hl] at h ⊢
    have hpos : 0 < runL (a :: t) := runL_pos (by rw [g]; exact hl)
    have htk : (a :: t).take (runL (a :: t)) = (a :: t).takeWhile part := takeWhile_all _
    by_cases hw : isWord ((a :: t).take (runL (a :: t))) = true
    · rw [if_pos hw]
      exact ⟨by simpa [right] using hw, by simp⟩
    · rw [if_neg hw] at h ⊢
      by_cases h12 : 12 < runL (a :: t)
      · rw [if_pos h12] at h; cases h
      · rw [if_neg h12]
        refine ⟨?_, by simp⟩
        simp only [right, if_true, isName, Bool.and_eq_true, decide_eq_true_eq, Bool.not_eq_true']
        have hle : runL (a :: t) ≤ (a :: t).length := takeWhile_le _ _
        have hlen : ((a :: t).take (runL (a :: t))).length = runL (a :: t) := by rw [List.length_take]; omega
        refine ⟨⟨⟨⟨by omega, by omega⟩, ?_⟩, ?_⟩, by simpa using hw⟩
        · obtain ⟨m, hm⟩ : ∃ m, runL (a :: t) = m + 1 := ⟨runL (a :: t) - 1, by omega⟩
          rw [hm]; simpa using hl
        · rw [hlen, htk]
          show ((List.takeWhile part (a :: t)).takeWhile part).length = _
          rw [takeWhile_self]; rfl
  · rw [if_neg hl] at h ⊢
    by_cases hd : digit a = true
    · rw [if_pos hd] at h ⊢
      by_cases hn : isNumber ((a :: t).take (digitsL (a :: t))) = true
      · rw [if_pos hn]
        exact ⟨by simpa [right] using hn, by simp⟩
      · rw [if_neg hn] at h; cases h
    · rw [if_neg hd] at h ⊢
      by_cases h2 : 1 < (a :: t).length ∧ isSign ((a :: t).take 2) = true
      · rw [if_pos h2]
        exact ⟨by simpa [right] using h2.2, by simp⟩
      · rw [if_neg h2] at h ⊢
        by_cases h1 : isSign ((a :: t).take 1) = true
        · rw [if_pos h1]
          exact ⟨by simpa [right] using h1, by simp⟩
        · rw [if_neg h1] at h; cases h

/-- The bytes of a token that is right. -/
theorem right_bytes {k : Nat} {s : Bs} (h : right k s = true) : ∀ c ∈ s, c ≠ 10 ∧ c ≠ 37 ∧ c ≠ 32 ∧ c ≠ 9 := by
  have pt : ∀ c : UInt8, part c = true → c ≠ 10 ∧ c ≠ 37 ∧ c ≠ 32 ∧ c ≠ 9 := by
    intro c hc
    refine ⟨?_, ?_, ?_, ?_⟩ <;> rintro rfl <;> revert hc <;> decide
  have allp : runL s = s.length → ∀ c ∈ s, part c = true := by
    intro he c hc
    have h2 := List.takeWhile_prefix part (l := s)
    have h3 := h2.eq_of_length he
    exact List.all_eq_true.1 (List.all_takeWhile (p := part) (l := s)) c (by rw [h3]; exact hc)
  unfold right at h
  split at h
  · simp only [isName, Bool.and_eq_true, decide_eq_true_eq] at h
    exact fun c hc => pt c (allp h.1.2 c hc)
  · split at h
    · obtain ⟨_, h2, _⟩ := words2 s (by simpa [isWord] using h)
      exact fun c hc => pt c (allp h2 c hc)
    · split at h
      · simp only [isNumber, Bool.and_eq_true, Bool.not_eq_true', Bool.or_eq_false_iff, decide_eq_false_iff_not, Decidable.not_not] at h
        obtain ⟨⟨⟨⟨h1, h2⟩, h3⟩, h4⟩, h5⟩ := h
        have h6 := (List.takeWhile_prefix digit (l := s)).eq_of_length h3
        exact fun c hc => pt c (digit_part (List.all_eq_true.1 (List.all_takeWhile (p := digit) (l := s)) c (by rw [h6]; exact hc)))
      · split at h
        · exact (signs2 s (by simpa [isSign] using h)).2.2.2.2
        · cases h

/-- A token that is read. -/
theorem scanAt_tok {k : Nat} {s r : Bs} {l : Int} (h0 : s ≠ []) (h : first (s ++ r) = (k, s.length, 0)) (hb : ∀ c ∈ s, c ≠ 10 ∧ c ≠ 37 ∧ c ≠ 32 ∧ c ≠ 9) : scanAt (s ++ r) l = (scanAt r l).add [⟨k, s, l⟩] [] := by
  obtain ⟨a, t, rfl⟩ : ∃ a t, s = a :: t := by cases s with | nil => exact absurd rfl h0 | cons a t => exact ⟨a, t, rfl⟩
  obtain ⟨b1, b2, b3, b4⟩ := hb a (by simp)
  rw [List.cons_append] at h ⊢
  rw [scanAt_cons, if_neg b1, if_neg (by rintro (h | h) <;> contradiction), if_neg b2, h]
  rw [if_neg (by simp)]
  have e : a :: (t ++ r) = (a :: t) ++ r := rfl
  simp only [e]
  rw [List.drop_left, List.take_left]

/-! ### Reading by cases -/
/-- What a text that is not empty begins with. -/
theorem scan_cases {P : Bs → Int → Prop} (h0 : ∀ l, P [] l) (h1 : ∀ r l, P r (l + 1) → P (10 :: r) l) (h2 : ∀ c r l, (c = 32 ∨ c = 9) → P r l → P (c :: r) l)
    (h3 : ∀ a r l, (∀ c ∈ a, c ≠ 10) → (r = [] ∨ ∃ x, r = 10 :: x) → P r l → P (37 :: a ++ r) l)
    (h4 : ∀ c r l, c ≠ 10 → c ≠ 32 → c ≠ 9 → c ≠ 37 → (first (c :: r)).2.2 ≠ 0 → P (c :: r) l)
    (h5 : ∀ k s r l, right k s = true → first (s ++ r) = (k, s.length, 0) → P r l → P (s ++ r) l) : ∀ s l, P s l := by
  have key : ∀ n, ∀ s : Bs, s.length ≤ n → ∀ l, P s l := by
    intro n
    induction n with
    | zero =>
      intro s hs l
      have : s = [] := List.length_eq_zero_iff.1 (by omega)
      subst this; exact h0 l
    | succ n ih =>
      intro s hs l
      cases s with
      | nil => exact h0 l
      | cons c r =>
        simp only [List.length_cons] at hs
        by_cases e1 : c = 10
        · subst e1; exact h1 r l (ih r (by omega) _)
        · by_cases e2 : c = 32 ∨ c = 9
          · exact h2 c r l e2 (ih r (by omega) _)
          · by_cases e3 : c = 37
            · subst e3
              have hw : r = r.takeWhile (fun c => decide (c ≠ 10)) ++ r.dropWhile (fun c => decide (c ≠ 10)) := List.takeWhile_append_dropWhile.symm
              have hle : (r.dropWhile (fun c => decide (c ≠ 10))).length ≤ r.length := (List.dropWhile_sublist _).length_le
              have h := h3 (r.takeWhile (fun c => decide (c ≠ 10))) (r.dropWhile (fun c => decide (c ≠ 10))) l (fun c hc => by
                have := List.all_eq_true.1 (List.all_takeWhile (p := fun c => decide (c ≠ 10)) (l := r)) c hc
                simpa using this) ?_ (ih _ (by omega) _)
              · rw [List.cons_append, ← hw] at h; exact h
              · cases hd : r.dropWhile (fun c => decide (c ≠ 10)) with
                | nil => exact .inl rfl
                | cons x y =>
                  refine .inr ⟨y, ?_⟩
                  have := List.head_dropWhile_not (p := fun c => decide (c ≠ 10)) (l := r) (by rw [hd]; simp)
                  simp only [hd, List.head_cons] at this
                  rw [show x = 10 by simpa using this]
            · by_cases e4 : (first (c :: r)).2.2 = 0
              · obtain ⟨hr, _⟩ := first_is (s := c :: r) (by simp) e4
                obtain ⟨hp, hle⟩ := first_len (s := c :: r) e4 (by simp)
                have hsp : (c :: r) = (c :: r).take (first (c :: r)).2.1 ++ (c :: r).drop (first (c :: r)).2.1 := (List.take_append_drop _ _).symm
                have hlen : ((c :: r).take (first (c :: r)).2.1).length = (first (c :: r)).2.1 := by rw [List.length_take]; omega
                have h := h5 (first (c :: r)).1 ((c :: r).take (first (c :: r)).2.1) ((c :: r).drop (first (c :: r)).2.1) l hr (by rw [← hsp, hlen, ← e4]) (ih _ (by simp only [List.length_drop, List.length_cons]; omega) _)
                rw [← hsp] at h
                exact h
              · exact h4 c r l e1 (fun h => e2 (.inl h)) (fun h => e2 (.inr h)) e3 e4
  exact fun s l => key s.length s (Nat.le_refl _) l
theorem scanAt_nl (r : Bs) (l : Int) : scanAt (10 :: r) l = scanAt r (l + 1) := by rw [scanAt_cons, if_pos rfl]
theorem scanAt_sp {c : UInt8} (r : Bs) (l : Int) (h : c = 32 ∨ c = 9) : scanAt (c :: r) l = scanAt r l := by
  rw [scanAt_cons, if_neg (by rcases h with rfl | rfl <;> decide), if_pos h]
theorem comLen_of {a r : Bs} (ha : ∀ c ∈ a, c ≠ 10) (hr : r = [] ∨ ∃ x, r = 10 :: x) : comLen (37 :: a ++ r) = (37 :: a).length := by
  unfold comLen
  rw [List.takeWhile_append_of_pos (fun c hc => by
    rcases List.mem_cons.1 hc with rfl | hc
    · decide
    · simpa using ha c hc)]
  rcases hr with rfl | ⟨x, rfl⟩ <;> simp
theorem scanAt_com {a r : Bs} (l : Int) (ha : ∀ c ∈ a, c ≠ 10) (hr : r = [] ∨ ∃ x, r = 10 :: x) : scanAt (37 :: a ++ r) l = (scanAt r l).add [] [37 :: a] := by
  have h := comLen_of ha hr
  rw [List.cons_append] at h ⊢
  rw [scanAt_cons, if_neg (by decide), if_neg (by decide), if_pos rfl, h]
  have e : (37 : UInt8) :: (a ++ r) = (37 :: a) ++ r := rfl
  simp only [e]
  rw [List.drop_left, List.take_left]
theorem scanAt_err {c : UInt8} {r : Bs} (l : Int) (h1 : c ≠ 10) (h2 : c ≠ 32) (h3 : c ≠ 9) (h4 : c ≠ 37) (h : (first (c :: r)).2.2 ≠ 0) : scanAt (c :: r) l = .bad (first (c :: r)).2.2 l := by
  rw [scanAt_cons, if_neg h1, if_neg (by rintro (h | h) <;> contradiction), if_neg h4, if_pos h]
end Go.L01
