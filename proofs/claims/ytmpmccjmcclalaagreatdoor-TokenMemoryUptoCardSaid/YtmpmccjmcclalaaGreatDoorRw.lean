/- Texts of mine for the claims about layer 1 (token), joined: L01Rw. -/
import Derived.Test.YtmpmccjmcclalaaGreatDoorCards
import Derived.Test.YtmpmccjmcclalaaGreatDoorTie
import Derived.Test.YtmpmccjmcclalaaGreatDoorJaz
import Derived.ProofKit
import Derived.OpenShut
import Derived.Carry
import Derived.Lay
import Derived.LaidSub
import Derived.Deep.DeepHandedRow
import Derived.Deep.DeepWitnessRowRef
import Derived.Deep.Strs
import Derived.Deep.SlicePairs
import Derived.Lib.SmallJoins
import Derived.Lib.LaidTab
import Derived.Lib.LaidIn
set_option linter.all false
set_option linter.unusedSimpArgs false
set_option linter.unusedVariables false
/- Layer 1: rows: what all of them share. -/
namespace Go.Proofs.YtmpmccjmcclalaaGreatDoor
open Go Go.ChangeShapes Go.WideShapes Go.ChangeAt Go.RowKit Go.Eng Go.L01
open Go.ChangeMaps (open_string)
set_option maxRecDepth 100000

theorem own : ownKnob Tryz.prog.godebug = none := by kernel_rfl
theorem laidOut : laidOutB Tryz.prog = true := by kernel_rfl
/-- The variables that the rows list. -/
abbrev laidL : List (String × DataW Unit) := Rows.tokenWordsUptoRow.laid
theorem laid_met (os : Os) (args : Array Value) : laidMet Tryz.prog laidL ((World.laidAll Tryz.prog os laidL).forCall (fun _ _ => 0) ⟨#[], args, []⟩).memory :=
  laidMet_laidAll args (by kernel_rfl) (by kernel_rfl)

theorem cells5 : Tryz.prog.cellsOf 5 = 1 := by kernel_rfl
theorem cells3 : Tryz.prog.cellsOf 3 = 1 := by kernel_rfl
theorem cells9 : Tryz.prog.cellsOf 9 = 1 := by kernel_rfl
theorem und28 : Tryz.prog.underlying 28 = some (.slice 38) := by kernel_rfl
theorem und5 : Tryz.prog.underlying 5 = some (.int .u8) := by kernel_rfl
theorem und3 : Tryz.prog.underlying 3 = some (.int .i64) := by kernel_rfl
theorem und9 : Tryz.prog.underlying 9 = some .string := by kernel_rfl
theorem und4 : Tryz.prog.underlying 4 = some .bool := by kernel_rfl

/-! ### What the row's list gives -/
theorem pick {W : World} (h : laidMet Tryz.prog laidL W) (n : String) (d : DataW Unit) (he : (laidL.filter fun x => x.1 == n) = [(n, d)]) : laidMet Tryz.prog [(n, d)] W := by
  have := h.filter (fun x => x.1 == n)
  rw [he] at this
  exact this
def spTab : List Int := (List.range 256).map fun c => if Lib.isSp (UInt8.ofNat c) then 1 else 0
theorem err_cell {W : World} {n : String} {g ti : Nat} {ms : Array (String × TypeId)} {d : DataW Unit} (hg : Tryz.prog.globalNamed n = some g) (hty : (Tryz.prog.globals[g]?).map (·.type) = some ti) (hi : Tryz.prog.underlying ti = some (.interface ms)) {nm : String} (h : laidMet Tryz.prog [(n, .iface nm d)] W) : ∃ te pe, W.cell? ⟨g, 0, none⟩ = some (.iface te pe) := by
  obtain ⟨ps, ⟨g', t', cs, fuel, p, q, hg', ht', hvar, hd, _, _⟩, _⟩ := h
  obtain rfl := Option.some.inj (hg.symm.trans hg')
  obtain rfl := Option.some.inj (hty.symm.trans ht')
  obtain ⟨_, u, v, hcs, _, _⟩ := iface_of_trod hi hd
  refine ⟨u, v, ?_⟩
  have hvar' : W.var? Tryz.prog n = some #[Value.iface u v] := by
    rw [hvar]; congr 1; apply Array.ext'; simpa using hcs
  simpa using World.var?_cell hg hvar' 0
theorem g_of {W : World} (h : laidMetH Tryz.prog laidL W) : G W := by
  replace h : laidMet Tryz.prog laidL W := h
  have hsp : Lib.TabIs Tryz.prog W "strings.asciiSpace" .u8 spTab :=
    Lib.tabIs_of_head (rest := []) (g := 0) (by kernel_rfl) (t := _) rfl (e := 5) (n := 256) (by kernel_rfl) und5 cells5 (by kernel_rfl) (pick h "strings.asciiSpace" _ (by kernel_rfl))
  have hpw : Lib.TabIs Tryz.prog W "internal/strconv.uint64pow10" .u64 Lib.pow10Tab :=
    Lib.tabIs_of_head (rest := []) (g := 5) (by kernel_rfl) (t := _) rfl (e := 110) (n := 20) (by kernel_rfl) (by kernel_rfl) (by kernel_rfl) (by kernel_rfl) (pick h "internal/strconv.uint64pow10" _ (by kernel_rfl))
  refine ⟨fun c hc => ?_, hpw, err_cell (n := "strconv.ErrSyntax") (by kernel_rfl) (ti := 71) rfl Tryz.underlying71 (pick h "strconv.ErrSyntax" Rows.laid_strconv_ErrSyntax (by kernel_rfl)), err_cell (n := "strconv.ErrRange") (by kernel_rfl) (ti := 71) rfl Tryz.underlying71 (pick h "strconv.ErrRange" Rows.laid_strconv_ErrRange (by kernel_rfl))⟩
  have := hsp.cell (g := 0) (by kernel_rfl) c (by simpa [spTab] using hc)
  rw [this]
  simp [spTab, List.getD_eq_getElem?_getD, hc]

/-! ### Arguments -/
theorem mkS_data (s : ByteArray) : mkS s.data.toList = s := by
  apply ByteArray.ext; simp [mkS]
section
variable {H : Type} {enc : TypeId × Value → H} {W : World}
theorem bulk_one (d : DataW H) : 1 ≤ Rows.uptoBulk d := by
  cases d with
  | lit l => cases l <;> simp [Rows.uptoBulk]
  | nil => simp [Rows.uptoBulk]
  | ptr d => simp [Rows.uptoBulk]
  | slice elems spare => simp [Rows.uptoBulk]
  | agg parts => simp [Rows.uptoBulk]
  | iface t d => simp [Rows.uptoBulk]
  | map entries => simp [Rows.uptoBulk]
  | held h => simp [Rows.uptoBulk]
theorem bulk_len (l : List (DataW H)) : l.length ≤ Rows.uptoBulkAll l := by
  induction l with
  | nil => simp [Rows.uptoBulkAll]
  | cons x r ih => have := bulk_one x; simp only [Rows.uptoBulkAll, List.length_cons]; omega
theorem bulk_slice (elems spare : List (DataW H)) : elems.length ≤ Rows.uptoBulk (.slice elems spare) := by
  have h1 := bulk_len elems
  simp only [Rows.uptoBulk]
  omega
theorem spot_of {e t : TypeId} {r : Reach} {base : Nat} {a : Addr} {n c : Nat} (ht : Tryz.prog.underlying t = some (.slice e)) (h : Cell.okWide Tryz.prog W r base t (.slice (some a) n c)) : a.spot = none := by
  simp only [Cell.okWide, Cell.ok, ht] at h
  exact h.2.2.2.1
theorem addr_spot {a : Addr} (h : a.spot = none) : ∃ b o, a = ⟨b, o, none⟩ := by
  obtain ⟨b, o, s⟩ := a
  simp only at h
  subst h
  exact ⟨b, o, rfl⟩
theorem add_lit' (b o i : Nat) : (⟨b, o, none⟩ : Addr).add i = ⟨b, o + i, none⟩ := add_lit b o i
theorem cell_of {t e : TypeId} {base : Nat} {v : Value} (ht : Tryz.prog.underlying t = some (.slice e)) (h : Value.okWide Tryz.prog W .any base t v) : Cell.okWide Tryz.prog W .any base t v := by
  simpa only [Value.okWide, ht] using h
theorem wf_u8 {n : Int} (h : (Lit.int .u8 n).wf = true) : 0 ≤ n ∧ n ≤ 255 := by
  simpa [Lit.wf, IntKind.min, IntKind.max, IntKind.signed, IntKind.bits] using h

theorem cells38 : Tryz.prog.cellsOf 38 = 3 := by kernel_rfl
theorem und38 : ∃ f0 f1 f2 : Field, Tryz.prog.underlying 38 = some (.struct #[f0, f1, f2]) ∧ f0.type = 5 ∧ f1.type = 9 ∧ f2.type = 3 ∧ f0.offset = 0 ∧ f1.offset = 1 ∧ f2.offset = 2 :=
  ⟨_, _, _, Tryz.underlying38, rfl, rfl, rfl, rfl, rfl, rfl⟩
/-- Three cells of a token. -/
theorem openTok3 {n : Nat} {cs : List Value} {y : DataW H × List MemPlace} (h : DataW.trod enc Tryz.prog W 0 (fun _ => true) true n 38 cs = some y) : ∃ t : L01.Tok, cs = [.int .u8 (t.kind : Int), .string (mkS t.text), .int .i64 t.line] := by
  obtain ⟨f0, f1, f2, hu, t0, t1, t2, o0, o1, o2⟩ := und38
  obtain ⟨y0, y1, y2, k, hy, hl, k0, k1, k2⟩ := Go.Deep.trod_struct3 hu h
  rw [cells38] at hl
  match cs, hl with
  | [a, b, c], _ =>
    rw [t0, o0, cells5] at k0
    rw [t1, o1, cells9] at k1
    rw [t2, o2, cells3] at k2
    simp at k0 k1 k2
    obtain ⟨z, e0, _, wz⟩ := DataW.trod_int und5 k0
    obtain ⟨s, e1, _, ws⟩ := DataW.trod_string und9 k1
    obtain ⟨m, e2, _, wm⟩ := DataW.trod_int und3 k2
    simp at e0 e1 e2
    have hz := wf_u8 wz
    refine ⟨⟨z.toNat, s.data.toList, m⟩, ?_⟩
    rw [e0, e1, e2, mkS_data]
    simp only [List.cons.injEq, Value.int.injEq, true_and, and_true]
    omega
theorem openTok {base : Nat} {v : Value} {d : DataW H} {p : List MemPlace} (hv : Value.okWide Tryz.prog W .any base 38 v) (h : DataW.Trod enc Tryz.prog W 0 (fun _ => true) true 38 v d p) : ∃ t : L01.Tok, v = encK t := by
  obtain ⟨f0, f1, f2, hu, _⟩ := und38
  obtain ⟨cs, rfl, hsz⟩ := okWide_struct hu hv
  obtain ⟨n, hn⟩ := h
  obtain ⟨t, e⟩ := openTok3 (y := (d, p)) hn
  refine ⟨t, ?_⟩
  simp [Value.cells] at e
  unfold encK
  rw [← e]
theorem openToks {base : Nat} {v : Value} {d : DataW H} {p : List MemPlace} (hbk : Rows.uptoBulk d ≤ 1048576) (hv : Value.okWide Tryz.prog W .any base 28 v) (h : DataW.Trod enc Tryz.prog W 0 (fun _ => true) true 28 v d p) : ∃ ts, SlK W v ts := by
  obtain ⟨a0, l0, c0, rfl⟩ := okWide_slice und28 hv
  have hsp : ∀ a, a0 = some a → a.spot = none := fun a e => by subst e; exact spot_of und28 (cell_of und28 hv)
  obtain ⟨n, hn⟩ := h
  rcases Go.Deep.open_slice und28 hn with ⟨h1, _⟩ | ⟨a, len, cap, m, k, D, Pl, h1, _, hl, hm, hmm, hy, hx⟩
  · simp [Value.cells] at h1
    obtain ⟨rfl, rfl, rfl⟩ := h1
    exact ⟨[], SlK.nil W⟩
  · simp [Value.cells] at h1
    obtain ⟨rfl, rfl, rfl⟩ := h1
    obtain ⟨b, o, rfl⟩ := addr_spot (hsp _ rfl)
    simp at hmm
    subst hmm
    rw [cells38] at hx
    have hd : d = .slice ((List.range l0).map D) ((List.range (m - l0)).map fun j => D (l0 + j)) := congrArg Prod.fst hy
    subst hd
    have hbl := bulk_slice ((List.range l0).map D) ((List.range (m - l0)).map fun j => D (l0 + j))
    simp only [List.length_map, List.length_range] at hbl
    have each : ∀ i, ∃ x : L01.Tok, i < l0 → W.cell? ⟨b, o + i * 3, none⟩ = some (.int .u8 (x.kind : Int)) ∧ W.cell? ⟨b, o + (i * 3 + 1), none⟩ = some (.string (mkS x.text)) ∧ W.cell? ⟨b, o + (i * 3 + 2), none⟩ = some (.int .i64 x.line) := by
      intro i
      by_cases hi : i < l0
      · obtain ⟨cs, hcs, ht⟩ := hx i (by omega)
        obtain ⟨t, rfl⟩ := openTok3 ht
        obtain ⟨_, _, hcell⟩ := World.cells?_some hcs
        have g0 := hcell 0 (by simp)
        have g1 := hcell 1 (by simp)
        have g2 := hcell 2 (by simp)
        simp only [add_lit', Nat.add_zero] at g0 g1 g2
        exact ⟨t, fun _ => ⟨by simpa using g0, by simpa [Nat.add_assoc] using g1, by simpa [Nat.add_assoc] using g2⟩⟩
      · exact ⟨⟨0, [], 0⟩, fun h => absurd h hi⟩
    obtain ⟨f, hf⟩ := Classical.axiomOfChoice each
    refine ⟨(List.range l0).map f, by simp [isSl, hl], by simp [slLen], by simp; omega, fun i hi => ?_⟩
    simp at hi
    obtain ⟨h0, h1, h2⟩ := hf i hi
    exact ⟨by simpa [slAddr] using h0, by simpa [slAddr] using h1, by simpa [slAddr] using h2⟩
end

/-- What all the laws' rows want of a call that leaves old memory as it was. -/
theorem below_trodAll {H : Type} {enc : TypeId × Value → H} {W W' : World} (hb : Below W.heap.size W W') : ∀ {ts : List TypeId} {vs : List Value} {ds : List (DataW H)} {ps : List MemPlace},
    (∀ t ∈ ts, Tryz.prog.readableRec t = true ∧ t < Tryz.prog.types.size) → DataW.TrodAll enc Tryz.prog W 0 (fun _ => true) true ts vs ds ps → (∀ x ∈ ps, x.block < W.heap.size) → DataW.TrodAll enc Tryz.prog W' 0 (fun b => decide (b < W.heap.size)) true ts vs ds ps
  | [], [], [], _, _, h, _ => h
  | _ :: _, _ :: _, _ :: _, _, hT, ⟨p, q, h1, h2, e⟩, hlt =>
    ⟨p, q, Below.trod laidOut (hT _ (by simp)).1 (hT _ (by simp)).2 h1 hb (fun x hx => hlt x (by rw [e]; exact List.mem_append_left _ hx)), below_trodAll hb (fun t ht => hT t (List.mem_cons_of_mem _ ht)) h2 (fun x hx => hlt x (by rw [e]; exact List.mem_append_right _ hx)), e⟩

theorem row_post {H : Type} {enc : TypeId × Value → H} {fn : Func} {s : ChangeSpec} {W : World} {args : Array Value} {ds gs : List (DataW H)} {before : List MemPlace} {f : FuncId}
    (hv : s.vars = []) (hr : fn.resultTypes = #[4]) (hT : ∀ t ∈ fn.params.toList, Tryz.prog.readableRec t = true ∧ t < Tryz.prog.types.size)
    (hfn : ∀ l : List (DataW H), l.length = fn.params.size → s.fn H l = { results := [.lit (.bool true)], args := l })
    (hW : DataW.Whole enc Tryz.prog fn.params.toList s.vars false W args.toList ds gs before)
    (hc : Calls Tryz.prog f args W fun e w' => e = .returned (.bool true) ∧ Ext W w') :
    Calls Tryz.prog f args W fun e W' => ∃ v, e = .returned v ∧ s.post enc Tryz.prog fn false true false false W args v W' := by
  refine hc.mono ?_
  rintro e W' ⟨rfl, hB⟩
  have hW' := hW
  obtain ⟨p, q, hA, hV, rfl, _, _⟩ := hW
  rw [hv] at hV
  obtain ⟨rfl, rfl⟩ := trodVars_none hV
  have hlen : ds.length = fn.params.size := by
    have key : ∀ {ts : List TypeId} {vs : List Value} {ds : List (DataW H)} {ps : List MemPlace}, DataW.TrodAll enc Tryz.prog W 0 (fun _ => true) true ts vs ds ps → ds.length = ts.length := by
      intro ts
      induction ts with
      | nil => intro vs ds ps h; cases vs <;> cases ds <;> first | rfl | cases h
      | cons t ts ih =>
        intro vs ds ps h
        cases vs <;> cases ds <;> first | (cases h; done) | skip
        obtain ⟨p, q, _, h2, _⟩ := h
        simp [ih h2]
    simpa using key hA
  have hlt : ∀ x ∈ p, x.block < W.heap.size := fun x hx => hW'.lt x (by simpa using hx)
  have e1 := hfn (ds ++ []) (by simpa using hlen)
  refine ⟨_, rfl, ds, [], p ++ [], [], p, [], hW', ?_, ?_, ?_, hB.frame _, fun h => by cases h⟩
  · rw [e1, hr]; exact trodAll_mk1 (shut_bool und4 _)
  · rw [e1]; simpa using below_trodAll hB hT hA hlt
  · rw [e1, hv]; rfl
end Go.Proofs.YtmpmccjmcclalaaGreatDoor
