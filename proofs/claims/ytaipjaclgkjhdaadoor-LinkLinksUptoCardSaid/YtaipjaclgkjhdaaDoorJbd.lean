/- Texts of mine for the claims about layer 16 (link), joined: L16Y. -/
import Derived.Test.YtaipjaclgkjhdaaDoorJbc
import Derived.Test.YtaipjaclgkjhdaaDoorJan
set_option linter.all false
set_option linter.unusedSimpArgs false
set_option linter.unusedVariables false
/- Layer 16: contracts of the link package: libraries. -/
namespace Go.L16
open Go Go.Eng Go.RowKit Go.Proofs
set_option maxRecDepth 10000

theorem checkObj_cases (o : Obj) : checkObj o = 0 ∨ checkObj o = 161 := by unfold checkObj; split <;> simp
def seenBy (l : List Obj) (k : Nat) (s : ByteArray) : Bool := (List.range k).any fun i => decide ((l.getD i emptyO).name = s)
theorem seenBy_succ (l : List Obj) (k : Nat) (s : ByteArray) : seenBy l (k + 1) s = (seenBy l k s || decide ((l.getD k emptyO).name = s)) := by
  simp [seenBy, List.range_succ]

theorem lk_CheckAll {w : World} {v : Value} {l : List Obj} (hl : SlO w v l) :
    Calls Tryd.prog 31 #[v] w fun e w' => e = .returned (.tuple #[.int .i64 (checkAll l).1, .int .i64 (checkAll l).2]) ∧ Ext w w' := by
  have hbd := hl.bd
  refine ir31_calls fun ρ h0 => ?_
  simp [ir31, h0, hl.is, hl.len]
  by_cases h60 : 60 < (l.length : Int)
  · rw [if_pos h60]
    have : checkAll l = (0, 2) := by unfold checkAll; rw [if_pos (by omega)]
    simp [this]; exact ext_refl w
  · rw [if_neg h60]
    simp [ir31_k6]
    refine eff_makeMap fun B W hB hE hm _ => ?_
    simp [h0, hl.is, hl.len]
    refine loopC 14 l.length (fun k ρ' w' => Ext w w' ∧ ρ' 4 = .map (some B) ∧ ρ' 12 = v ∧ ρ' 13 = .int .i64 l.length ∧ (∀ j, j < k → badO l j = 0) ∧
      ∃ ps, MapB w' B ps ∧ ∀ s, lookP ps s = if seenBy l k s then some (.bool true) else none) (by simp) ⟨hE, by simp, by simp, by simp, by simp, [], hm, by simp [seenBy]⟩ ?_
    rintro k ρ' w' hk h14 ⟨hE, h4, h12, h13, hall, ps, hmap, hps⟩
    have hl' := hl.ext hE
    by_cases hlt : k < l.length
    · obtain ⟨n, c, r, hn, hc, hr, ho⟩ := hl'.obj k hlt
      have hlk : l.getD k emptyO = l[k] := by simp [hlt]
      simp [ir31_l4, ir31_k3, h14, h12, h13, hlt, hl'.is, hl'.len, hn, hc, hr]
      refine eff_alloc z45 fun Bo W3 hBo hE3 hbo _ => ?_
      simp
      refine eff_storeN (by simp) hbo (by simp [Value.cells]) (by simp [Value.cells, ho.name, isSl_one ho.code.is, isSl_one ho.rels.is]) sz45 fun W4 hO4 hb4 => ?_
      simp [Value.cells] at hb4
      have hE4 : Ext w' W4 := hO4.ext hE3 hBo
      simp [hb4.cell]
      refine (lk_Check (ho.ext hE4)).mono ?_
      rintro _ w5 ⟨rfl, hw5⟩
      have hb5 := hb4.ext hw5
      have hm5 := (hmap.ext hE4).ext hw5
      have hE5 := (hE.trans' hE4).trans' hw5
      by_cases hck : checkObj l[k] = 0
      · simp [hck, ir31_k1, h4, hb5.cell, ho.name]
        refine eff_lookup (P := Tryd.prog) (s := l[k].name) (kt := 9) (et := 4) (z := .bool false) (by kernel_rfl) (by kernel_rfl) (by kernel_rfl) (by simpa using h4) (by simp) hm5 false ?_
        simp [hps]
        have hsb : seenBy l k l[k].name = (List.range k).any (fun x => decide ((l.getD x emptyO).name = (l.getD k emptyO).name)) := by rw [hlk]; rfl
        cases hs : seenBy l k l[k].name with
        | true =>
          simp
          have hb : badO l k = 6 := by
            unfold badO
            rw [hlk, if_neg (by simp [hck]), if_pos (by rw [hlk] at hsb; rw [← hsb]; exact hs)]
          rw [checkAll_at (by omega) hlt hall (by rw [hb]; decide), hb]
          exact ⟨⟨rfl, rfl⟩, hE5⟩
        | false =>
          simp [ir31_k0, h4, hb5.cell, ho.name]
          refine eff_mapUpdate (s := l[k].name) (kt := 9) (et := 4) (by kernel_rfl) (by kernel_rfl) (by simpa using h4) (by simp) hm5 fun W6 hO6 hm6 => ?_
          simp at hm6
          simp [ir31_k2, h14, h4, h12, h13, i64w (n := (k : Int) + 1) (by omega)]
          have hb : badO l k = 0 := by
            unfold badO
            rw [hlk, if_neg (by simp [hck]), if_neg (by rw [hlk] at hsb; rw [← hsb, hs]; simp)]
          refine ⟨hO6.ext hE5 hB, fun j hj => ?_, _, hm6, fun s => ?_⟩
          · by_cases hjk : j = k
            · subst hjk; exact hb
            · exact hall j (by omega)
          · rw [look_setP, hps, seenBy_succ, hlk]
            by_cases he : l[k].name = s <;> simp [he]
      · have h161 : checkObj l[k] = 161 := (checkObj_cases _).resolve_left hck
        simp [h161]
        have hb : badO l k = 161 := by unfold badO; rw [hlk, if_pos hck]
        rw [checkAll_at (by omega) hlt hall (by rw [hb]; decide), hb]
        exact ⟨⟨rfl, rfl⟩, hE5⟩
    · simp [ir31_l4, ir31_k5, h14, h13, hlt]
      rw [checkAll_ok (by omega) fun j hj => hall j (by omega)]
      exact ⟨⟨rfl, rfl⟩, hE⟩
end Go.L16
