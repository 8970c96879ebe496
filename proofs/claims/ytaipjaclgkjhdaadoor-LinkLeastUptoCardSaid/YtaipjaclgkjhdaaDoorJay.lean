/- Texts of mine for the claims about layer 16 (link), joined: L16L. -/
import Derived.Test.YtaipjaclgkjhdaaDoorJax
import Derived.Test.YtaipjaclgkjhdaaDoorJak
set_option linter.all false
set_option linter.unusedSimpArgs false
set_option linter.unusedVariables false
/- Layer 16, plainly: the image of a library and roots. -/
namespace Go.L16
open Go Go.Eng Go.RowKit

def objAt (l : List Obj) (s : ByteArray) : Obj := l.getD (idxO l s).toNat emptyO
def put2 (R : List ByteArray) (c : List UInt8) (r : Rel) : List UInt8 := (c.set r.pos.toNat (UInt8.ofNat ((idx R r.name).toNat / 256))).set (r.pos.toNat + 1) (UInt8.ofNat ((idx R r.name).toNat))
def codeOf (R : List ByteArray) (o : Obj) : List UInt8 := o.relocs.foldl (put2 R) o.code
def codesOf (l : List Obj) (R : List ByteArray) : List (List UInt8) := R.map fun s => codeOf R (objAt l s)
def startsOf (l : List Obj) (R : List ByteArray) : List Int := (List.range R.length).map fun k => ((((codesOf l R).take k).flatten.length : Nat) : Int)
def imgOf (l : List Obj) (R : List ByteArray) : Img := ⟨R, startsOf l R, (codesOf l R).flatten⟩
def emptyI : Img := ⟨[], [], []⟩
noncomputable def linkE (l : List Obj) (roots : List ByteArray) : Int := if askedE l roots = 0 then (if missingL l roots = [] then 0 else 160) else askedE l roots
noncomputable def linkI (l : List Obj) (roots : List ByteArray) : Img := if linkE l roots = 0 then imgOf l (reachedL l roots) else emptyI

theorem put2_len (R : List ByteArray) (c : List UInt8) (r : Rel) : (put2 R c r).length = c.length := by simp [put2]
theorem foldl_put2_len (R : List ByteArray) : ∀ (rs : List Rel) (c : List UInt8), (rs.foldl (put2 R) c).length = c.length
  | [], _ => rfl
  | r :: rs, c => by rw [List.foldl_cons, foldl_put2_len R rs, put2_len]
theorem codeOf_len (R : List ByteArray) (o : Obj) : (codeOf R o).length = o.code.length := foldl_put2_len R _ _

/-- What is known of a relocation of an object that is checked. -/
theorem rel_ok {o : Obj} (h : checkObj o = 0) {i : Nat} (hi : i < o.relocs.length) : 0 ≤ o.relocs[i].pos ∧ o.relocs[i].pos.toNat + 1 < o.code.length ∧ isName o.relocs[i].name = true ∧ (o.code.getD o.relocs[i].pos.toNat 0).toNat = 0 ∧ (o.code.getD (o.relocs[i].pos.toNat + 1) 0).toNat = 0 ∧
    (0 < i → (o.relocs.getD (i - 1) ⟨0, .empty⟩).pos + 2 ≤ o.relocs[i].pos) := by
  have hb : relBadAt o i = false := by
    cases hb : relBadAt o i with
    | false => rfl
    | true => rw [checkObj_bad hi hb] at h; cases h
  simp only [relBadAt, List.getElem?_eq_getElem hi, relBad, Bool.or_eq_false_iff, Bool.not_eq_false', decide_eq_false_iff_not, Bool.and_eq_false_imp, decide_eq_true_eq] at hb
  obtain ⟨⟨⟨⟨⟨h1, h2⟩, h3⟩, h4⟩, h5⟩, h6⟩ := hb
  refine ⟨by omega, by omega, h3, by omega, by omega, fun h0 => ?_⟩
  have := h4 h0
  omega

theorem mem_needsOf {o : Obj} {s : ByteArray} : s ∈ needsOf o ↔ ∃ r ∈ o.relocs, r.name = s := by
  have key : ∀ (rs : List Rel) (acc : List ByteArray), s ∈ rs.foldl (fun acc r => putS acc r.name) acc ↔ s ∈ acc ∨ ∃ r ∈ rs, r.name = s := by
    intro rs
    induction rs with
    | nil => intro acc; simp
    | cons r rs ih =>
      intro acc
      rw [List.foldl_cons, ih, mem_putS]
      constructor
      · rintro ((rfl | h) | ⟨r', h, rfl⟩)
        · exact .inr ⟨r, by simp, rfl⟩
        · exact .inl h
        · exact .inr ⟨r', by simp [h], rfl⟩
      · rintro (h | ⟨r', h, rfl⟩)
        · exact .inl (.inr h)
        · rcases List.mem_cons.1 h with rfl | h
          · exact .inl (.inl rfl)
          · exact .inr ⟨r', h, rfl⟩
  unfold needsOf
  rw [key]; simp

/-- A library, and names that are reached, none of them missing. -/
structure Full (l : List Obj) (R : List ByteArray) : Prop where
  ok : LibOk l
  asc : Asc R
  len : R.length ≤ 60
  found : ∀ s, s ∈ R → ∃ k, ∃ h : k < l.length, idxO l s = k ∧ l[k].name = s
  closed : ∀ s, s ∈ R → ∀ r, r ∈ (objAt l s).relocs → r.name ∈ R

theorem objAt_of {l : List Obj} {s : ByteArray} {k : Nat} (hk : k < l.length) (h : idxO l s = k) : objAt l s = l[k] := by simp [objAt, h, hk]

theorem full_of {l : List Obj} {roots R : List ByteArray} (hok : LibOk l) (h : IsReached l roots R) (hm : missingL l roots = []) : Full l R := by
  have hR := reachedL_eq h
  have found : ∀ s, s ∈ R → ∃ k, ∃ h : k < l.length, idxO l s = k ∧ l[k].name = s := by
    intro s hs
    rcases idxO_cases l s with h1 | h1
    · have : s ∈ missingL l roots := by
        unfold missingL; rw [hR]
        exact List.mem_filter.2 ⟨hs, by simp [h1]⟩
      rw [hm] at this; cases this
    · exact h1
  refine ⟨hok, h.1, ?_, found, fun s hs r hr => ?_⟩
  · have := nodup_le R (l.map (·.name)) h.1.nodup fun x hx => by
      obtain ⟨k, hk, _, hn⟩ := found x hx
      exact List.mem_map.2 ⟨_, List.getElem_mem hk, hn⟩
    have h2 := hok.len
    simp at this; omega
  · obtain ⟨k, hk, hi, hn⟩ := found s hs
    rw [objAt_of hk hi] at hr
    refine (h.2 _).2 (.step ((h.2 _).1 hs) ?_)
    unfold needsAt
    rw [hi, if_pos (by omega)]
    simp only [Int.toNat_natCast]
    have : l.getD k emptyO = l[k] := by simp [hk]
    rw [this, needsR, if_pos (hok.ok _ (List.getElem_mem hk))]
    exact mem_needsOf.2 ⟨r, hr, rfl⟩

theorem idx_lt {R : List ByteArray} {s : ByteArray} (h : s ∈ R) : ∃ k, k < R.length ∧ idx R s = k := by
  have := idx_nonneg.2 h
  unfold idx at *
  split at this
  · rename_i hlt; exact ⟨_, hlt, by rw [if_pos hlt]⟩
  · omega

theorem codes_len {l : List Obj} {R : List ByteArray} (h : Full l R) (k : Nat) : ((codesOf l R).take k).flatten.length ≤ k * 20000 := by
  induction k with
  | zero => simp
  | succ k ih =>
    by_cases hk : k < (codesOf l R).length
    · rw [List.take_succ_eq_append_getElem hk, List.flatten_append]
      simp only [List.length_append, List.flatten_singleton]
      have : (codesOf l R)[k].length ≤ 20000 := by
        simp only [codesOf, List.getElem_map, codeOf_len]
        have hk' : k < R.length := by simpa [codesOf] using hk
        obtain ⟨j, hj, hi, _⟩ := h.found _ (List.getElem_mem hk')
        rw [objAt_of hj hi]
        exact (checkObj_len (h.ok.ok _ (List.getElem_mem hj))).2
      omega
    · have h1 : (codesOf l R).take (k + 1) = (codesOf l R).take k := by rw [List.take_of_length_le (by omega), List.take_of_length_le (by omega)]
      rw [h1]
      exact Nat.le_trans ih (Nat.mul_le_mul_right _ (Nat.le_succ k))
end Go.L16
