/- Texts of mine for the claims about layer 17 (heap), joined: EngR. -/
import Derived.Test.YtbopdbinllokkaaGreatJan
import Derived.Scope
import Derived.Laws.RangeAny
import Derived.Laws.StructEq
import Derived.Lib.OthersKept
set_option linter.all false
set_option linter.unusedSimpArgs false
set_option linter.unusedVariables false
namespace Go.Eng
open Go.RowKit
section
variable {P : Program} {Q : Ks} {d : Option Nat} {ty : TypeId} {K : Env → World → Prop} {ρ : Env} {w : World}
end
def recBR (raws : List Nat) : Code → Bool
  | .seq a _ => recBR raws a
  | .region id ops d => recHead ops && !d && !raws.contains id
  | _ => false
theorem comp_semSR (cx : Cx) (raws : List Nat) (c0 : Frame) (cs : List Frame) : ∀ (c : Code) (ir : IR), recBR raws c = true → comp cx.P cx.n cx.V raws (swapRec (recV c0.mode) c) = some ir → ∀ (K : Env → World → Prop) (Q : Ks) (ρ : Env) (a : Act) (w : World),
    (Q.df → cx.D ≠ []) → Agree cx.n cx.V ρ a → dOk cx a → ir.wp cx K Q ρ w → c.wpSIn Fence.wide 0 cx.P (fun e a' cs' w' => cs' = { c0 with mode := recU c0.mode } :: cs ∧ lift cx K Q e a' w') a (c0 :: cs) w := by
  intro c
  induction c with
  | seq x y ihx ihy =>
    intro ir hrb h K Q ρ a w hdf ha hD hw
    simp only [swapRec, comp] at h
    split at h
    · rename_i ix iy hx hy
      cases h
      refine wpSIn_seq ?_
      have h1 := ihx ix hrb hx (fun ρ' w' => iy.wp cx K Q ρ' w') Q ρ a w hdf ha hD hw
      intro b k hb hro hF hroom
      obtain ⟨e, a', cs', w', hl, ⟨hcs, hq⟩, harr⟩ := h1 b k hb hro hF hroom
      refine ⟨e, a', cs', w', hl, ?_, harr⟩
      cases e with
      | normal =>
        obtain ⟨hD', ρ', ha', hk⟩ := hq
        subst hcs
        have h2 := comp_sem cx raws y iy hy K Q ρ' a' w' hdf ha' hD' hk
        refine wpSIn_of_wpIn rfl ((wpIn_wide (n := 0)).2 (wp_mono h2 fun e a w he => ⟨rfl, he⟩))
      | exit i => exact ⟨hcs, hq⟩
      | goto i => exact ⟨hcs, hq⟩
      | ret => exact ⟨hcs, hq⟩
      | panic c => exact ⟨hcs, hq⟩
      | outgrown => exact ⟨hcs, hq⟩
    · cases h
  | region id ops draw =>
    intro ir hrb h K Q ρ a w hdf ha hD hw
    simp only [recBR, Bool.and_eq_true, Bool.not_eq_true'] at hrb
    obtain ⟨⟨hrh, hdr⟩, hni⟩ := hrb
    subst hdr
    simp only [swapRec, comp, hni, Bool.false_eq_true, if_false] at h
    split at h
    · rename_i hreg
      have hr := regionB_spec hreg
      split at h
      · cases h
      · rename_i l hl
        cases h
        refine wpSIn_rec c0 cs hrh ?_
        have h1 := st_sem (P := cx.P) cx rfl rfl rfl hr (ro := none) (.inl rfl) Q (lift cx K Q) (fun ρ c a w h1 h2 h3 => ⟨h1, ρ, h2, h3⟩) lift_og hdf _ _ l hl K ρ a w ha hD hw
        rw [List.range_eq_range']
        refine wpOps_mono ?_ _ _ _ h1
        intro e a' w' he
        cases e <;> exact he
    · cases h
  | skip => intro ir hrb; cases hrb
  | cond c x y _ _ => intro ir hrb; cases hrb
  | block id x _ => intro ir hrb; cases hrb
  | loop x _ => intro ir hrb; cases hrb
  | exit id => intro ir hrb; cases hrb
  | ret => intro ir hrb; cases hrb
  | rangeFunc f ps asg body _ _ => intro ir hrb; cases hrb
  | scope b _ => intro ir hrb; cases hrb
  | label l => intro ir hrb; cases hrb
  | goto l => intro ir hrb; cases hrb
  | refuse s => intro ir hrb; cases hrb
theorem callsD_recR {P : Program} {f : FuncId} {fn : Func} {V raws : List Nat} {ir ir0 : IR} {rs : List RV} {c : Code} {u : FrameMode} (hf : P.funcs[f]? = some fn) (hb : fn.body = some c) (hrec : recBR raws c = true) (hc : comp P fn.ntmps V raws (swapRec (recV u) c) = some ir0)
    (hn : ir0.norm = ir) (hV : readB fn V = true) (hrs : rvsOf P V fn.results.toList = some rs) {args : Array Value} (hsz : args.size ≤ fn.ntmps) {w : World} {R : Ending → FrameMode → World → Prop}
    (h : ir.wp ⟨P, fn.ntmps, V, []⟩ (recK rs (recU u) R) (recKs rs (recU u) R) (startEnv V args) w) : CallsDIn Fence.wide 0 P f args u w R := by
  refine callsDIn_of_wpSIn hf hb trivial fun c0 cs hu => ?_
  subst hn
  rw [IR.norm_wp] at h
  subst hu
  have h1 := comp_semSR ⟨P, fn.ntmps, V, []⟩ raws c0 cs c ir0 hrec hc _ _ _ _ w (fun h : False => h.elim) (agree_start hV hsz) (fun _ => rfl) h
  intro b k hb2 hro hF hroom
  obtain ⟨e, a', cs', w', hl, ⟨hcs, hq⟩, harr⟩ := h1 b k hb2 hro hF hroom
  refine ⟨e, a', cs', w', hl, ?_, harr⟩
  have hret : ∀ (a : Act) (w : World), (dOk ⟨P, fn.ntmps, V, []⟩ a ∧ ∃ ρ, Agree fn.ntmps V ρ a ∧ recK rs (recU c0.mode) R ρ w) → a.defers = [] ∧ ∃ u', cs' = { c0 with mode := u' } :: cs ∧ ∃ v, (results fn a.tmps).run P w = .ok v w ∧ R (.returned v) u' w := by
    rintro a w ⟨hD, ρ, ha, hk⟩
    simp only [recK, retK] at hk
    split at hk
    · rename_i vs hvs
      exact ⟨hD rfl, _, hcs, _, results_run ha hrs hvs, hk⟩
    · cases hk
  cases e with
  | normal => exact hret a' w' hq
  | ret => exact hret a' w' hq
  | exit i => obtain ⟨_, _, _, hf⟩ := hq; exact hf.elim
  | goto i => exact False.elim hq
  | panic ch => exact ⟨hq.1 rfl, _, hcs, let ⟨_, _, h⟩ := hq.2; h⟩
  | outgrown => exact ⟨_, (show ∀ w, R .outgrown (recU c0.mode) w from hq) w'⟩
end Go.Eng
