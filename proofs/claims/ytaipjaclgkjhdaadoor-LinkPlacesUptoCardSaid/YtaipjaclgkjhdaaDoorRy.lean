/- Texts of mine for the claims about layer 16 (link), joined: L16Ry. -/
import Derived.Test.YtaipjaclgkjhdaaDoorKb
import Derived.Test.YtaipjaclgkjhdaaDoorRx
import Derived.Deep.SlicePairs
set_option linter.all false
set_option linter.unusedSimpArgs false
set_option linter.unusedVariables false
/- What the rows of the laws of layer 16 (link) over objects share: objects that come in. -/
set_option linter.all false
set_option linter.unusedSimpArgs false
set_option linter.unusedVariables false
namespace Go.Proofs.YtaipjaclgkjhdaaDoor
open Go Go.ChangeShapes Go.WideShapes Go.ChangeAt Go.RowKit Go.Eng Go.L16
set_option maxRecDepth 100000
theorem cells42 : Tryd.prog.cellsOf 45 = 3 := by kernel_rfl
theorem und42 : Tryd.prog.underlying 42 = some (.slice 45) := by kernel_rfl
theorem und43 : Tryd.prog.underlying 43 = some (.slice 54) := by kernel_rfl
theorem cells54 : Tryd.prog.cellsOf 54 = 2 := by kernel_rfl
theorem und54 : ∃ f0 f1 : Field, Tryd.prog.underlying 54 = some (.struct #[f0, f1]) ∧ f0.type = 3 ∧ f1.type = 9 ∧ f0.offset = 0 ∧ f1.offset = 1 :=
  ⟨_, _, Tryd.underlying54, rfl, rfl, rfl, rfl⟩
theorem und45 : ∃ f0 f1 f2 : Field, Tryd.prog.underlying 45 = some (.struct #[f0, f1, f2]) ∧ f0.type = 9 ∧ f1.type = 24 ∧ f2.type = 43 ∧ f0.offset = 0 ∧ f1.offset = 1 ∧ f2.offset = 2 ∧ Go.Deep.oneCellFields Tryd.prog #[f0, f1, f2] = true :=
  ⟨_, _, _, Tryd.underlying45, rfl, rfl, rfl, rfl, rfl, rfl, by kernel_rfl⟩
theorem c9 : Tryd.prog.cellsOf 9 = 1 := by kernel_rfl
theorem c24 : Tryd.prog.cellsOf 24 = 1 := by kernel_rfl
theorem c43 : Tryd.prog.cellsOf 43 = 1 := by kernel_rfl
section
variable {H : Type} {enc : TypeId × Value → H} {W : World}

/-- A stretch whose first cell can be read is one of plain cells. -/
theorem slot0 {a : Addr} {v : Value} (h : W.cell? (a.add 0) = some v) : a.spot = none := by
  have e : a.add 0 = a := by unfold Addr.add; simp
  rw [e] at h
  exact World.cell?_spot h
theorem isSl_wide {a : Addr} {n c : Nat} (h : n ≤ c) (hs : 0 < c → a.spot = none) : isSl (.slice (some a) n c) = true := by
  obtain ⟨b, o, s⟩ := a
  by_cases hc : 0 < c
  · obtain rfl : s = none := hs hc
    simp [isSl, h]
  · obtain rfl : c = 0 := by omega
    obtain rfl : n = 0 := by omega
    cases s <;> simp [isSl]

theorem openBi {n : Nat} {v : Value} {y : DataW H × List MemPlace} (hbk : Rows.uptoBulk y.1 ≤ 1048576) (h : DataW.trod enc Tryd.prog W 0 (fun _ => true) true n 24 [v] = some y) : ∃ bs, Sl encB W v bs := by
  rcases open_ints und24 und5 cells5 h with ⟨h1, _⟩ | ⟨a, len, cap, zs, h1, _, hl, hm, hz, hy, hc, hw⟩
  · simp at h1; subst h1; exact ⟨[], Sl.nil _ _⟩
  · simp at hz
    by_cases h0 : 0 < cap
    · simp at h1
      refine openB hbk (fun a' l' c' e => ?_) h
      rw [h1] at e
      simp at e
      rw [← e.1]
      exact slot0 (hc 0 (by omega))
    · simp at h1; subst h1
      have : len = 0 := by omega
      subst this
      exact ⟨[], isSl_wide hl (fun h => absurd h h0), rfl, by simp, fun i hi => by simp at hi⟩

theorem openRi {n : Nat} {v : Value} {y : DataW H × List MemPlace} (hbk : Rows.uptoBulk y.1 ≤ 1048576) (h : DataW.trod enc Tryd.prog W 0 (fun _ => true) true n 43 [v] = some y) : ∃ rs, SlR W v rs := by
  obtain ⟨f0, f1, hu, t0, t1, o0, o1⟩ := und54
  rcases Go.Deep.open_slice_pairs und43 hu cells54 o0 o1 (by rw [t0]; exact cells3) (by rw [t1]; exact cells9) h with ⟨h1, _⟩ | ⟨a, len, cap, m, k, V0, V1, D0, D1, P0, P1, h1, _, hl, hm, hmm, hy, hx⟩
  · simp at h1; subst h1; exact ⟨[], ⟨rfl, rfl, by simp, by simp, by simp, by simp⟩⟩
  · simp at h1; subst h1
    simp at hmm
    subst hmm
    rw [t0, t1] at hx
    have hbl := bulk_slice ((List.range len).map fun i => (DataW.agg [D0 i, D1 i] : DataW H)) ((List.range (m - len)).map fun j => DataW.agg [D0 (len + j), D1 (len + j)])
    rw [hy] at hbk
    simp only [List.length_map, List.length_range] at hbl hbk
    have each : ∀ i, ∃ r : Rel, i < m → V0 i = .int .i64 r.pos ∧ V1 i = .string r.name ∧ (-9223372036854775808 ≤ r.pos ∧ r.pos ≤ 9223372036854775807) ∧ r.name.size ≤ maxLen := by
      intro i
      by_cases hi : i < m
      · obtain ⟨_, _, k0, k1⟩ := hx i hi
        obtain ⟨z, e0, _, wz⟩ := DataW.trod_int und3 k0
        obtain ⟨s, e1, _, ws⟩ := DataW.trod_string und9 k1
        simp at e0 e1
        exact ⟨⟨z, s⟩, fun _ => ⟨e0, e1, wf_i64 wz, ws⟩⟩
      · exact ⟨⟨0, .empty⟩, fun h => absurd h hi⟩
    obtain ⟨f, hf⟩ := Classical.axiomOfChoice each
    have hsp : 0 < m → a.spot = none := fun h0 => slot0 (v := V0 0) (by have := (hx 0 h0).1; simpa using this)
    refine ⟨(List.range len).map f, isSl_wide hl hsp, by simp [slLen], by simp; omega, fun i hi => ?_, fun i hi => ?_, fun r hr => ?_⟩
    · simp at hi
      obtain ⟨b, o, rfl⟩ := addr_spot (hsp (by omega))
      have := (hx i (by omega)).1
      rw [add_lit', (hf i (by omega)).1] at this
      simp [slAddr, this]
    · simp at hi
      obtain ⟨b, o, rfl⟩ := addr_spot (hsp (by omega))
      have := (hx i (by omega)).2.1
      rw [add_lit', (hf i (by omega)).2.1] at this
      simp only [slAddr, Nat.add_assoc, this]
      simp
    · obtain ⟨i, hi, rfl⟩ := List.mem_map.1 hr
      simp at hi
      exact (hf i (by omega)).2.2

/-- Three cells of an object. -/
theorem openObj3 {n : Nat} {cs : List Value} {y : DataW H × List MemPlace} (hbk : Rows.uptoBulk y.1 ≤ 1048576) (h : DataW.trod enc Tryd.prog W 0 (fun _ => true) true n 45 cs = some y) : ∃ a b c o, cs = [a, b, c] ∧ ObjC W a b c o := by
  obtain ⟨f0, f1, f2, hu, t0, t1, t2, o0, o1, o2, _⟩ := und45
  obtain ⟨y0, y1, y2, k, hy, hl, k0, k1, k2⟩ := Go.Deep.trod_struct3 hu h
  rw [cells42] at hl
  match cs, hl with
  | [a, b, c], _ =>
    rw [hy] at hbk
    simp only [Rows.uptoBulk, Rows.uptoBulkAll] at hbk
    rw [t0, o0, c9] at k0
    rw [t1, o1, c24] at k1
    rw [t2, o2, c43] at k2
    simp at k0 k1 k2
    obtain ⟨s, e0, _, ws⟩ := DataW.trod_string und9 k0
    simp at e0
    obtain ⟨bs, hB⟩ := openBi (by omega) k1
    obtain ⟨rs, hR⟩ := openRi (by omega) k2
    exact ⟨a, b, c, ⟨s, bs, rs⟩, rfl, e0, ws, hB, hR⟩

theorem openO1 {base : Nat} {v : Value} {d : DataW H} {p : List MemPlace} (hbk : Rows.uptoBulk d ≤ 1048576) (hv : Value.okWide Tryd.prog W .any base 42 v) (h : DataW.Trod enc Tryd.prog W 0 (fun _ => true) true 42 v d p) : ∃ os, SlO W v os := by
  obtain ⟨a0, l0, c0, rfl⟩ := okWide_slice und42 hv
  have hsp : ∀ a, a0 = some a → a.spot = none := fun a e => by subst e; exact spot_of und42 (cell_of und42 hv)
  obtain ⟨n, hn⟩ := h
  rcases Go.Deep.open_slice und42 hn with ⟨h1, _⟩ | ⟨a, len, cap, m, k, D, Pl, h1, _, hl, hm, hmm, hy, hx⟩
  · simp [Value.cells] at h1
    obtain ⟨rfl, rfl, rfl⟩ := h1
    exact ⟨[], ⟨rfl, rfl, by simp, by simp⟩⟩
  · simp [Value.cells] at h1
    obtain ⟨rfl, rfl, rfl⟩ := h1
    obtain ⟨b, o, rfl⟩ := addr_spot (hsp _ rfl)
    simp at hmm
    subst hmm
    rw [cells42] at hx
    have hd : d = .slice ((List.range l0).map D) ((List.range (m - l0)).map fun j => D (l0 + j)) := congrArg Prod.fst hy
    subst hd
    have hbl := bulk_slice ((List.range l0).map D) ((List.range (m - l0)).map fun j => D (l0 + j))
    simp only [List.length_map, List.length_range] at hbl
    have each : ∀ i, ∃ x : L16.Obj, i < l0 → ∃ n' c r, W.cell? ⟨b, o + i * 3, none⟩ = some n' ∧ W.cell? ⟨b, o + (i * 3 + 1), none⟩ = some c ∧ W.cell? ⟨b, o + (i * 3 + 2), none⟩ = some r ∧ ObjC W n' c r x := by
      intro i
      by_cases hi : i < l0
      · obtain ⟨cs, hcs, ht⟩ := hx i (by omega)
        have hbi : Rows.uptoBulk (D i) ≤ 1048576 := by
          have h1 : Rows.uptoBulk (D i) ≤ Rows.uptoBulkAll ((List.range l0).map D) := bulk_mem (List.mem_map_of_mem (List.mem_range.2 hi))
          simp only [Rows.uptoBulk] at hbk
          omega
        obtain ⟨x0, x1, x2, ob, rfl, hob⟩ := openObj3 hbi ht
        obtain ⟨_, _, hcell⟩ := World.cells?_some hcs
        have g0 := hcell 0 (by simp)
        have g1 := hcell 1 (by simp)
        have g2 := hcell 2 (by simp)
        simp only [add_lit', Nat.add_zero] at g0 g1 g2
        exact ⟨ob, fun _ => ⟨x0, x1, x2, by simpa using g0, by simpa [Nat.add_assoc] using g1, by simpa [Nat.add_assoc] using g2, hob⟩⟩
      · exact ⟨emptyO, fun h => absurd h hi⟩
    obtain ⟨f, hf⟩ := Classical.axiomOfChoice each
    refine ⟨(List.range l0).map f, by simp [isSl, hl], by simp [slLen], by simp; omega, fun i hi => ?_⟩
    simp at hi
    obtain ⟨n', c, r, h0, h1, h2, ho⟩ := hf i hi
    exact ⟨n', c, r, by simpa [slAddr] using h0, by simpa [slAddr] using h1, by simpa [slAddr] using h2, by simpa using ho⟩

theorem openObj {base : Nat} {v : Value} {d : DataW H} {p : List MemPlace} (hbk : Rows.uptoBulk d ≤ 1048576) (hv : Value.okWide Tryd.prog W .any base 45 v) (h : DataW.Trod enc Tryd.prog W 0 (fun _ => true) true 45 v d p) : ∃ a b c o, v = .agg #[a, b, c] ∧ ObjC W a b c o := by
  obtain ⟨f0, f1, f2, hu, _⟩ := und45
  obtain ⟨cs, rfl, hsz⟩ := okWide_struct hu hv
  obtain ⟨n, hn⟩ := h
  obtain ⟨a, b, c, o, e, ho⟩ := openObj3 (y := (d, p)) hbk hn
  exact ⟨a, b, c, o, by simp [Value.cells] at e; simp [← e], ho⟩
end
end Go.Proofs.YtaipjaclgkjhdaaDoor
