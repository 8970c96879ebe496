/- Texts of mine for the claims about layer 2 (tree), joined: EngV. -/
import Derived.Test.YtbcmiempigoooaaGreatDoorJat
import Derived.Laws.MakeOwn
set_option linter.all false
set_option linter.unusedSimpArgs false
set_option linter.unusedVariables false
namespace Go.Eng
open Go.RowKit
def makeInfo (P:Program) (t:TypeId):Option (TypeId×Value×Nat):=
  match P.underlying t with
  |some (.slice e)=>(P.info? e).bind fun i=>i.zero.bind fun z=>if i.size=1 then some (e,z.cells[0]!,i.bytes) else none
  |_=>none
section
variable {P:Program} {Q:Ks} {d:Option Nat} {ty:TypeId} {K:Env→World→Prop} {ρ:Env} {w:World}
theorem eff_make {t e : TypeId} {zc : Value} {bytes n : Nat} {kl kc : IntKind} {x y : Operand} (hi : makeInfo P t = some (e, zc, bytes)) (hx : evE ρ x = .int kl n) (hy : evE ρ y = .int kc n) (hb : bytes * n ≤ 281474976710656) (hn : n ≤ 1099511627776)
    (hz1:∀i z,P.info? e=some i→i.zero=some z→z.cells.size=1)
    (h:∀(B:Nat) (W:World),w.heap.size≤B→Ext w W→Blk W B (List.replicate n zc).toArray e→K (updO ρ d (.slice (some ⟨B,0,none⟩) n n)) W):effW P Q d (.makeSlice t x y) ty K ρ w:=by
  unfold makeInfo at hi
  split at hi
  · rename_i e' hu
    simp only [Option.bind_eq_some_iff] at hi
    obtain ⟨i,hie,z,hz,hc⟩:=hi
    split at hc
    · rename_i hsz
      cases hc
      have hb':(i.bytes:Int)*(n:Int)≤281474976710656:=by
        have h:((i.bytes*n:Nat):Int)≤281474976710656:=by omega
        rwa [Int.natCast_mul] at h
      have hr:=run_make (P:=P) w t e i z hu hie hz kl kc n n (by omega) (Int.le_refl _) hb' (by omega)
      simp only [Int.toNat_natCast,hsz,Nat.mul_one] at hr
      have hz2:=hz1 i z hie hz
      have hcells:madeCells z.cells n=(List.replicate n z.cells[0]!).toArray:=by
        apply Array.toList_inj.1
        apply List.ext_getElem?
        intro j
        by_cases hj:j<n
        · simp [madeCells,hj,hz2,Nat.mod_one]
        · simp [madeCells,hj]
      rw [hcells] at hr
      refine effE_ok (v:= .slice (some ⟨w.heap.size,0,none⟩) n n) (w':=w.alloc (.cells (List.replicate n z.cells[0]!).toArray e)) ?_ (h w.heap.size _ (Nat.le_refl _) (ext_alloc w _) (blk_alloc w _ _))
      simp only [execOp,effOp,hx,hy,Sem.run_bind,hr,Result.andThen_ok,Sem.run_pure]
    · cases hc
  · cases hi
end
end Go.Eng
