/- Texts of mine for the claims about layer 2 (tree), joined: EngZ. -/
import Derived.Test.YtbcmiempigoooaaGreatDoorJbe
set_option linter.all false
set_option linter.unusedSimpArgs false
set_option linter.unusedVariables false
namespace Go.Eng
open Go.RowKit
theorem least_ex {p:Nat→Prop}:∀n,p n→∃m,p m∧∀k,p k→m≤k:=by
  intro n
  induction n using Nat.strongRecOn with
  | _ n ih =>
    intro hn
    by_cases h:∃k,k<n∧p k
    · obtain ⟨k,hk,hp⟩:=h
      exact ih k hk hp
    · exact ⟨n,hn,fun k hk=>Nat.le_of_not_lt fun hl=>h ⟨k,hl,hk⟩⟩
section
variable {cx:Cx} {K:Env→World→Prop} {Q:Ks} {ρ:Env} {w:World}
theorem loopM (I:Nat→Env→World→Prop) (m0:Nat) {a:IR} (h0:I m0 ρ w) (h:∀m ρ' w',I m ρ' w'→a.wp cx (fun ρ'' w''=>∃m',m'<m∧I m' ρ'' w'') Q ρ' w'):(IR.loop a).wp cx K Q ρ w:=by
  have hl:∀ρ' w',∃m,(∃k,I k ρ' w')→I m ρ' w'∧∀k,I k ρ' w'→m≤k:=fun ρ' w'=>by
    by_cases hx:∃k,I k ρ' w'
    · obtain ⟨k,hk⟩:=hx
      obtain ⟨m,hm⟩:=least_ex (p:=fun k=>I k ρ' w') k hk
      exact ⟨m,fun _=>hm⟩
    · exact ⟨0,fun h=>absurd h hx⟩
  obtain ⟨μ,hμ⟩:∃μ:Env→World→Nat,∀ρ' w',(∃k,I k ρ' w')→I (μ ρ' w') ρ' w'∧∀k,I k ρ' w'→μ ρ' w'≤k:=by
    obtain ⟨f,hf⟩:=Classical.axiomOfChoice (r:=fun (x:Env×World) m=>(∃k,I k x.1 x.2)→I m x.1 x.2∧∀k,I k x.1 x.2→m≤k) fun x=>hl x.1 x.2
    exact ⟨fun ρ' w'=>f (ρ',w'),fun ρ' w'=>hf (ρ',w')⟩
  refine loopI (fun ρ' w'=>∃k,I k ρ' w') μ ⟨m0,h0⟩ fun ρ' w' hI=> ?_
  obtain ⟨h1,_⟩:=hμ ρ' w' hI
  refine IR.wp_mono (h _ ρ' w' h1) ?_ (fun _ _ _ h=>h) (fun _ _ h=>h) (fun _ _ _ h=>h) (fun h=>h) ⟨fun h=>h,fun h=>h⟩
  rintro ρ'' w'' ⟨m',hm,hI'⟩
  exact ⟨⟨m',hI'⟩,Nat.lt_of_le_of_lt ((hμ ρ'' w'' ⟨m',hI'⟩).2 m' hI') hm⟩
end
end Go.Eng
