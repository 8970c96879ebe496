/- Texts of mine for the claims about layer 16 (link), joined: L16Rw. -/
import Derived.Test.YtaipjaclgkjhdaaDoorCards
import Derived.Test.YtaipjaclgkjhdaaDoorTie
import Derived.Test.YtaipjaclgkjhdaaDoorJbn
import Derived.ProofKit
import Derived.OpenShut
import Derived.Carry
import Derived.Deep.DeepHandedRow
import Derived.Deep.DeepWitnessRowRef
import Derived.Deep.Strs
import Derived.Lib.SmallJoins
import Derived.Lib.LaidTab
import Derived.Lib.LaidIn
set_option linter.all false
set_option linter.unusedSimpArgs false
set_option linter.unusedVariables false
/- Layer 16: rows: what all of them share. -/
namespace Go.Proofs.YtaipjaclgkjhdaaDoor
open Go Go.ChangeShapes Go.WideShapes Go.ChangeAt Go.RowKit Go.Eng Go.L16
set_option maxRecDepth 100000

theorem own : ownKnob Tryd.prog.godebug = none := by kernel_rfl
theorem laidOut : laidOutB Tryd.prog = true := by kernel_rfl
noncomputable def laidWorld (os : Os) : World :=
  let N := (World.settled Tryd.prog os).heap.size
  let w0 := World.holding Tryd.prog os ⟨#[.cells #[.string ⟨#[98, 121, 116, 101, 115, 46, 66, 117, 102, 102, 101, 114, 58, 32, 116, 111, 111, 32, 108, 97, 114, 103, 101]⟩] 173], #[], []⟩
  { w0 with heap := w0.heap.modify 0 fun
    | .cells _ t frozen => .cells #[.iface 157 (.pointer (some ⟨N, 0, none⟩))] t frozen
    | o => o }
theorem laid_met (os : Os) (args : Array Value) : laidMet Tryd.prog [("bytes.ErrTooLarge", Rows.laid_bytes_ErrTooLarge)] ((laidWorld os).forCall (fun _ _ => 0) ⟨#[], args, []⟩).memory :=
  laidMet_of_run' 8 (by kernel_rfl) (by kernel_rfl)

theorem cells5 : Tryd.prog.cellsOf 5 = 1 := by kernel_rfl
theorem cells3 : Tryd.prog.cellsOf 3 = 1 := by kernel_rfl
theorem cells9 : Tryd.prog.cellsOf 9 = 1 := by kernel_rfl
theorem und24 : Tryd.prog.underlying 24 = some (.slice 5) := by kernel_rfl
theorem und23 : Tryd.prog.underlying 23 = some (.slice 3) := by kernel_rfl
theorem und22 : Tryd.prog.underlying 22 = some (.slice 9) := by kernel_rfl
theorem und5 : Tryd.prog.underlying 5 = some (.int .u8) := by kernel_rfl
theorem und3 : Tryd.prog.underlying 3 = some (.int .i64) := by kernel_rfl
theorem und9 : Tryd.prog.underlying 9 = some .string := by kernel_rfl
theorem und4 : Tryd.prog.underlying 4 = some .bool := by kernel_rfl

section
variable {H : Type} {enc : TypeId × Value → H} {W : World}
theorem bulk_one (d : DataW H) : 1 ≤ Rows.uptoBulk d := by
  cases d with
  | lit l => cases l <;> simp [Rows.uptoBulk]
  | nil => simp [Rows.uptoBulk]
  | ptr d => simp [Rows.uptoBulk]
  | slice elems spare => simp [Rows.uptoBulk]
  | agg parts => simp [Rows.uptoBulk]
  | iface t d => simp [Rows.uptoBulk]
  | map entries => simp [Rows.uptoBulk]
  | held h => simp [Rows.uptoBulk]
theorem bulk_len (l : List (DataW H)) : l.length ≤ Rows.uptoBulkAll l := by
  induction l with
  | nil => simp [Rows.uptoBulkAll]
  | cons x r ih => have := bulk_one x; simp only [Rows.uptoBulkAll, List.length_cons]; omega
theorem bulk_slice (elems spare : List (DataW H)) : elems.length ≤ Rows.uptoBulk (.slice elems spare) := by
  have h1 := bulk_len elems
  simp only [Rows.uptoBulk]
  omega
theorem bulk_mem {d : DataW H} {l : List (DataW H)} (h : d ∈ l) : Rows.uptoBulk d ≤ Rows.uptoBulkAll l := by
  induction l with
  | nil => cases h
  | cons x r ih =>
    simp only [Rows.uptoBulkAll]
    cases List.mem_cons.1 h with
    | inl e => subst e; omega
    | inr e => have := ih e; omega
theorem spot_of {e t : TypeId} {r : Reach} {base : Nat} {a : Addr} {n c : Nat} (ht : Tryd.prog.underlying t = some (.slice e)) (h : Cell.okWide Tryd.prog W r base t (.slice (some a) n c)) : a.spot = none := by
  simp only [Cell.okWide, Cell.ok, ht] at h
  exact h.2.2.2.1
theorem addr_spot {a : Addr} (h : a.spot = none) : ∃ b o, a = ⟨b, o, none⟩ := by
  obtain ⟨b, o, s⟩ := a
  simp only at h
  subst h
  exact ⟨b, o, rfl⟩
theorem add_lit' (b o i : Nat) : (⟨b, o, none⟩ : Addr).add i = ⟨b, o + i, none⟩ := add_lit b o i

theorem openS {n : Nat} {v : Value} {y : DataW H × List MemPlace} (hbk : Rows.uptoBulk y.1 ≤ 1048576) (hs : ∀ a l c, v = .slice (some a) l c → a.spot = none) (h : DataW.trod enc Tryd.prog W 0 (fun _ => true) true n 22 [v] = some y) : ∃ ss, SlS W v ss := by
  rcases Go.Deep.open_strs und22 und9 cells9 h with ⟨h1, _⟩ | ⟨a, len, cap, m, Sx, h1, _, hl, hm, hmm, hy, hc⟩
  · simp at h1; subst h1; exact ⟨[], Sl.nil _ _, by simp⟩
  · simp at h1; subst h1
    obtain ⟨b, o, rfl⟩ := addr_spot (hs _ _ _ rfl)
    simp at hmm
    have hbl := bulk_slice ((List.range len).map fun i => (DataW.lit (.string (Sx i).data.toList) : DataW H)) ((List.range (m - len)).map fun j => DataW.lit (.string (Sx (len + j)).data.toList))
    rw [hy] at hbk
    simp only [List.length_map, List.length_range] at hbl hbk
    refine ⟨(List.range len).map Sx, ⟨by simp [isSl, hl], by simp [slLen], by simp; omega, fun i hi => ?_⟩, fun s hx => ?_⟩
    · simp at hi
      have := (hc i (by omega)).1
      rw [add_lit'] at this
      simp [slAddr, this]
    · obtain ⟨i, hi, rfl⟩ := List.mem_map.1 hx
      exact (hc i (by have := List.mem_range.1 hi; omega)).2
theorem wf_i64 {n : Int} (h : (Lit.int .i64 n).wf = true) : -9223372036854775808 ≤ n ∧ n ≤ 9223372036854775807 := by
  simpa [Lit.wf, IntKind.min, IntKind.max, IntKind.signed, IntKind.bits] using h
theorem wf_u8 {n : Int} (h : (Lit.int .u8 n).wf = true) : 0 ≤ n ∧ n ≤ 255 := by
  simpa [Lit.wf, IntKind.min, IntKind.max, IntKind.signed, IntKind.bits] using h
theorem openI {n : Nat} {v : Value} {y : DataW H × List MemPlace} (hbk : Rows.uptoBulk y.1 ≤ 1048576) (hs : ∀ a l c, v = .slice (some a) l c → a.spot = none) (h : DataW.trod enc Tryd.prog W 0 (fun _ => true) true n 23 [v] = some y) : ∃ ns, SlI W v ns := by
  rcases open_ints und23 und3 cells3 h with ⟨h1, _⟩ | ⟨a, len, cap, zs, h1, _, hl, hm, hz, hy, hc, hw⟩
  · simp at h1; subst h1; exact ⟨[], Sl.nil _ _, by simp⟩
  · simp at h1; subst h1
    obtain ⟨b, o, rfl⟩ := addr_spot (hs _ _ _ rfl)
    simp at hz
    have hbl := bulk_slice (H := H) (lits .i64 (zs.take len)) (lits .i64 (zs.drop len))
    rw [hy] at hbk
    simp only [lits, List.length_map, List.length_take] at hbl hbk
    refine ⟨zs.take len, ⟨by simp [isSl, hl], by simp [slLen]; omega, by simp; omega, fun i hi => ?_⟩, fun s hx => wf_i64 (hw s (List.mem_of_mem_take hx))⟩
    simp at hi
    have := hc i (by omega)
    rw [add_lit'] at this
    simp [slAddr, this, Eng.encI, List.getD_eq_getElem?_getD, show i < zs.length by omega]
theorem openB {n : Nat} {v : Value} {y : DataW H × List MemPlace} (hbk : Rows.uptoBulk y.1 ≤ 1048576) (hs : ∀ a l c, v = .slice (some a) l c → a.spot = none) (h : DataW.trod enc Tryd.prog W 0 (fun _ => true) true n 24 [v] = some y) : ∃ bs, Sl encB W v bs := by
  rcases open_ints und24 und5 cells5 h with ⟨h1, _⟩ | ⟨a, len, cap, zs, h1, _, hl, hm, hz, hy, hc, hw⟩
  · simp at h1; subst h1; exact ⟨[], Sl.nil _ _⟩
  · simp at h1; subst h1
    obtain ⟨b, o, rfl⟩ := addr_spot (hs _ _ _ rfl)
    simp at hz
    have hbl := bulk_slice (H := H) (lits .u8 (zs.take len)) (lits .u8 (zs.drop len))
    rw [hy] at hbk
    simp only [lits, List.length_map, List.length_take] at hbl hbk
    refine ⟨(zs.take len).map fun z => UInt8.ofNat z.toNat, by simp [isSl, hl], by simp [slLen]; omega, by simp; omega, fun i hi => ?_⟩
    simp at hi
    have := hc i (by omega)
    rw [add_lit'] at this
    have hz1 := wf_u8 (hw zs[i] (List.getElem_mem (by omega)))
    simp [slAddr, this, encB, List.getD_eq_getElem?_getD, show i < zs.length by omega]
    omega

theorem und26 : ∃ f0 f1 f2 : Field, Tryd.prog.underlying 26 = some (.struct #[f0, f1, f2]) ∧ f0.type = 22 ∧ f1.type = 23 ∧ f2.type = 24 ∧ Go.Deep.oneCellFields Tryd.prog #[f0, f1, f2] = true :=
  ⟨_, _, _, Tryd.underlying26, rfl, rfl, rfl, by kernel_rfl⟩
theorem okImg {base : Nat} {v : Value} (h : Value.okWide Tryd.prog W .any base 26 v) : ∃ cs : Array Value, v = .agg cs ∧ cs.size = 3 ∧ (∀ x, cs[0]? = some x → Cell.okWide Tryd.prog W .any base 22 x) ∧ (∀ x, cs[1]? = some x → Cell.okWide Tryd.prog W .any base 23 x) ∧ (∀ x, cs[2]? = some x → Cell.okWide Tryd.prog W .any base 24 x) := by
  obtain ⟨f0, f1, f2, hu, _, _, _, _⟩ := und26
  simp only [Value.okWide, hu] at h
  obtain ⟨cs, rfl, hsz, ts, hts, _, hall⟩ := h
  have ht : Tryd.prog.cellTypes Tryd.prog.depth 26 = some [22, 23, 24] := by kernel_rfl
  rw [ht] at hts
  cases hts
  have hc : Tryd.prog.cellsOf 26 = 3 := by kernel_rfl
  refine ⟨cs, rfl, hsz.trans hc, fun x hx => ?_, fun x hx => ?_, fun x hx => ?_⟩
  · obtain ⟨u, hu, h⟩ := hall 0 x hx; simp at hu; subst hu; exact h
  · obtain ⟨u, hu, h⟩ := hall 1 x hx; simp at hu; subst hu; exact h
  · obtain ⟨u, hu, h⟩ := hall 2 x hx; simp at hu; subst hu; exact h
theorem openImg {base : Nat} {v : Value} {d : DataW H} {p : List MemPlace} (hbk : Rows.uptoBulk d ≤ 1048576) (hv : Value.okWide Tryd.prog W .any base 26 v) (h : DataW.Trod enc Tryd.prog W 0 (fun _ => true) true 26 v d p) : ∃ a b c i, v = .agg #[a, b, c] ∧ ImgC W a b c i := by
  obtain ⟨f0, f1, f2, hu, t0, t1, t2, hone⟩ := und26
  obtain ⟨v0, v1, v2, y0, y1, y2, n, rfl, hd, _, k0, k1, k2⟩ := Go.Joins.open_agg3 hu hone (by kernel_rfl) hv h
  rw [hd] at hbk
  simp only [Rows.uptoBulk, Rows.uptoBulkAll] at hbk
  rw [t0] at k0; rw [t1] at k1; rw [t2] at k2
  obtain ⟨cs, he, _, o0, o1, o2⟩ := okImg hv
  cases he
  obtain ⟨ss, hS⟩ := openS (by omega) (fun a l c e => by subst e; exact spot_of und22 (o0 _ rfl)) k0
  obtain ⟨ns, hI⟩ := openI (by omega) (fun a l c e => by subst e; exact spot_of und23 (o1 _ rfl)) k1
  obtain ⟨bs, hB⟩ := openB (by omega) (fun a l c e => by subst e; exact spot_of und24 (o2 _ rfl)) k2
  exact ⟨v0, v1, v2, ⟨ss, ns, bs⟩, rfl, hS, hI, hB⟩
end

/-- What all the laws' rows want of a call that leaves old memory as it was. -/
theorem below_trodAll {H : Type} {enc : TypeId × Value → H} {W W' : World} (hb : Below W.heap.size W W') : ∀ {ts : List TypeId} {vs : List Value} {ds : List (DataW H)} {ps : List MemPlace},
    (∀ t ∈ ts, Tryd.prog.readableRec t = true ∧ t < Tryd.prog.types.size) → DataW.TrodAll enc Tryd.prog W 0 (fun _ => true) true ts vs ds ps → (∀ x ∈ ps, x.block < W.heap.size) → DataW.TrodAll enc Tryd.prog W' 0 (fun b => decide (b < W.heap.size)) true ts vs ds ps
  | [], [], [], _, _, h, _ => h
  | _ :: _, _ :: _, _ :: _, _, hT, ⟨p, q, h1, h2, e⟩, hlt =>
    ⟨p, q, Below.trod laidOut (hT _ (by simp)).1 (hT _ (by simp)).2 h1 hb (fun x hx => hlt x (by rw [e]; exact List.mem_append_left _ hx)), below_trodAll hb (fun t ht => hT t (List.mem_cons_of_mem _ ht)) h2 (fun x hx => hlt x (by rw [e]; exact List.mem_append_right _ hx)), e⟩

theorem row_post {H : Type} {enc : TypeId × Value → H} {fn : Func} {s : ChangeSpec} {W : World} {args : Array Value} {ds gs : List (DataW H)} {before : List MemPlace} {f : FuncId}
    (hv : s.vars = []) (hr : fn.resultTypes = #[4]) (hT : ∀ t ∈ fn.params.toList, Tryd.prog.readableRec t = true ∧ t < Tryd.prog.types.size)
    (hfn : ∀ l : List (DataW H), l.length = fn.params.size → s.fn H l = { results := [.lit (.bool true)], args := l })
    (hW : DataW.Whole enc Tryd.prog fn.params.toList s.vars false W args.toList ds gs before)
    (hc : Calls Tryd.prog f args W fun e w' => e = .returned (.bool true) ∧ Ext W w') :
    Calls Tryd.prog f args W fun e W' => ∃ v, e = .returned v ∧ s.post enc Tryd.prog fn false true false false W args v W' := by
  refine hc.mono ?_
  rintro e W' ⟨rfl, hB⟩
  have hW' := hW
  obtain ⟨p, q, hA, hV, rfl, _, _⟩ := hW
  rw [hv] at hV
  obtain ⟨rfl, rfl⟩ := trodVars_none hV
  have hlen : ds.length = fn.params.size := by
    have key : ∀ {ts : List TypeId} {vs : List Value} {ds : List (DataW H)} {ps : List MemPlace}, DataW.TrodAll enc Tryd.prog W 0 (fun _ => true) true ts vs ds ps → ds.length = ts.length := by
      intro ts
      induction ts with
      | nil => intro vs ds ps h; cases vs <;> cases ds <;> first | rfl | cases h
      | cons t ts ih =>
        intro vs ds ps h
        cases vs <;> cases ds <;> first | (cases h; done) | skip
        obtain ⟨p, q, _, h2, _⟩ := h
        simp [ih h2]
    simpa using key hA
  have hlt : ∀ x ∈ p, x.block < W.heap.size := fun x hx => hW'.lt x (by simpa using hx)
  have e1 := hfn (ds ++ []) (by simpa using hlen)
  refine ⟨_, rfl, ds, [], p ++ [], [], p, [], hW', ?_, ?_, ?_, hB.frame _, fun h => by cases h⟩
  · rw [e1, hr]; exact trodAll_mk1 (shut_bool und4 _)
  · rw [e1]; simpa using below_trodAll hB hT hA hlt
  · rw [e1, hv]; rfl
end Go.Proofs.YtaipjaclgkjhdaaDoor
