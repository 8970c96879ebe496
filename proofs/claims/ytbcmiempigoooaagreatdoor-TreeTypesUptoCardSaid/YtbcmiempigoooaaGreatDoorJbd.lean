/- Texts of mine for the claims about layer 2 (tree), joined: EngXe. -/
import Derived.Test.YtbcmiempigoooaaGreatDoorJbc
set_option linter.all false
set_option linter.unusedSimpArgs false
set_option linter.unusedVariables false
namespace Go.Eng
open Go.RowKit
def PrOk (P:Program) (pr:TypeId→Bool):Prop:=∀t,pr t=true→P.eqGuardType P.depth t=false∧∀(a b c d:Int) (w:World),(Op.equalIn 10000 t (.agg #[.int .i64 a, .int .i64 b]) (.agg #[.int .i64 c, .int .i64 d])).run P w= .ok (decide (a=c)&&decide (b=d)) w
section
variable {P:Program} {Q:Ks} {K:Env→World→Prop} {ρ:Env} {w w0:World} {σ:Sg} {e:Tr Value} {s s':Sx} {k:Option Nat} {d:Option Nat} {ty:TypeId} {v:Value} {pr:TypeId→Bool}
theorem nil_ok (hI : Iv σ w0 s w) (he : ER σ e ρ) {op : BinOp} {t : TypeId} {x : Operand} (h : effNil P e s op t x = some (v, s')) (hK : Kn σ w0 s' v d K ρ) : effW P Q d (.binOp op t x (.const (.slice none 0 0)) t) ty K ρ w := by
  unfold effNil at h
  split at h
  · rename_i u hu
    split at h
    · rename_i b hb
      obtain ⟨ht,h⟩:=bifP h
      cases h
      have hv:=opX_ok he hu
      unfold sliceT at ht
      split at ht
      · rename_i e' hun
        have key:isSl (evE ρ x)=true∧isNilSl (evE ρ x)=b:=by
          generalize evE ρ x=q at hv
          unfold nilS at hb
          split at hb
          · cases hb
            cases hv with
            |pln h'=>cases h'
            |slc hs hn=>exact ⟨by simp [isSl];omega,rfl⟩
          · cases hb
            cases hv with
            |pln _=>exact ⟨rfl,rfl⟩
          · cases hb
        refine eff_eqlNil hun key.1 ?_
        rw [key.2]
        exact hK σ _ w (Sg.le_refl σ) hI (.pln rfl)
      · cases ht
    · cases h
  · cases h
theorem two_ok {b:Bool} {u u':Value} (h:twoX b s u u'=some (v,s')):∃a1 a2 c1 c2,u= .agg #[.int .i64 a1, .int .i64 a2]∧u'= .agg #[.int .i64 c1, .int .i64 c2]∧v= .bool (if b then (decide (a1=c1)&&decide (a2=c2)) else !(decide (a1=c1)&&decide (a2=c2)))∧s'=s:=by
  unfold twoX at h
  split at h
  · rename_i xs ys
    split at h
    · rename_i a1 a2 c1 c2 hx hy
      cases h
      refine ⟨a1,a2,c1,c2,by rw [←Array.toList_inj.1 (show xs.toList=(#[.int .i64 a1, .int .i64 a2]:Array Value).toList from hx)],by rw [←Array.toList_inj.1 (show ys.toList=(#[.int .i64 c1, .int .i64 c2]:Array Value).toList from hy)], ?_,rfl⟩
      cases b<;>rfl
    · cases h
  · cases h
theorem twoV {a b:Int} {q:Value} (h:VR σ (.agg #[.int .i64 a, .int .i64 b]) q):q= .agg #[.int .i64 a, .int .i64 b]:=h.uniq (constB_ok (v:= .agg #[.int .i64 a, .int .i64 b]) rfl)
theorem bin_ok (hpr : PrOk P pr) (hI : Iv σ w0 s w) (he : ER σ e ρ) {op : BinOp} {t u : TypeId} {x y : Operand} (h : effBin P pr e s op t u x y = some (v, s')) (hK : Kn σ w0 s' v d K ρ) : effW P Q d (.binOp op t x y u) ty K ρ w := by
  unfold effBin at h
  cases hn:nilC y with
  |true=>
    rw [hn] at h
    obtain ⟨htu,h9⟩:=bifP (b:=t==u) h
    have htu:t=u:=by simpa using htu
    subst htu
    have:y= .const (.slice none 0 0):=by
      unfold nilC at hn
      split at hn
      · rfl
      · cases hn
    subst this
    exact nil_ok hI he h9 hK
  |false=>
    rw [hn] at h
    replace h:effTwo pr e s op t x y=some (v,s'):=h
    unfold effTwo at h
    split at h
    · rename_i a b ha hb
      obtain ⟨ht,h⟩:=bifP h
      obtain ⟨hg,hr⟩:=hpr t ht
      have h1:=opX_ok he ha
      have h2:=opX_ok he hb
      split at h
      · obtain ⟨a1,a2,c1,c2,rfl,rfl,rfl,rfl⟩:=two_ok h
        exact eff_eqlT (twoV h1) (twoV h2) hg (hr a1 a2 c1 c2 w) (hK σ _ w (Sg.le_refl σ) hI (.pln rfl))
      · obtain ⟨a1,a2,c1,c2,rfl,rfl,rfl,rfl⟩:=two_ok h
        exact eff_neqT (twoV h1) (twoV h2) hg (hr a1 a2 c1 c2 w) (hK σ _ w (Sg.le_refl σ) hI (.pln rfl))
      · cases h
    · cases h
theorem arr2 {α:Type} {xs:Array α} {a b:α} (h:xs.toList=[a,b]):xs= #[a,b]:=Array.toList_inj.1 h
theorem call_ok (hI:Iv σ w0 s w) (he:ER σ e ρ) {c:Call} (h:effCall P e s k c.callee c.args.toList c.argTypes.toList=some (v,s')) (hK:Kn σ w0 s' v d K ρ):effW P Q d (.call c) ty K ρ w:=by
  obtain ⟨ce,as,ts⟩:=c
  unfold effCall at h
  split at h
  · rename_i a b t t' h1 h2 h3
    obtain ⟨ht,h9⟩:=bifP h
    have ht:t=t':=by simpa using ht
    subst ht
    dsimp only at h1 h2 h3
    subst h1
    rw [arr2 h2,arr2 h3]
    exact app_ok hI he h9 hK
  · rename_i a b t t' h1 h2 h3
    obtain ⟨ht,h9⟩:=bifP h
    have ht:t=t':=by simpa using ht
    subst ht
    dsimp only at h1 h2 h3
    subst h1
    rw [arr2 h2,arr2 h3]
    exact mm_ok (mx:=true) hI he (fun _=>rfl) h9 hK
  · rename_i a b h1 h2
    dsimp only at h1 h2
    subst h1
    rw [arr2 h2]
    exact mm_ok (mx:=false) (t:=0) hI he (fun h=>by cases h) h hK
  · cases h
theorem effX_ok (hpr:PrOk P pr) (hI:Iv σ w0 s w) (he:ER σ e ρ) {op:Op} (h:effX P pr e s k op=some (v,s')) (hK:Kn σ w0 s' v d K ρ):effW P Q d op ty K ρ w:=by
  unfold effX at h
  split at h
  · exact box_ok hI he h hK
  · exact new0_ok hI h hK
  · exact store_ok hI he h hK
  · exact fn_ok hI he h hK
  · exact build_ok hI he h hK
  · exact lit_ok hI he h hK
  · exact call_ok hI he h hK
  · exact make_ok hI he h hK
  · exact mapNew_ok hI h hK
  · rename_i t m x ok
    cases ok with
    |true=>cases h
    |false=>exact lookup_ok hI he h hK
  · exact upd_ok hI he h hK
  · exact bin_ok hpr hI he h hK
  · cases h
end
end Go.Eng
