/- Texts of mine for the claims about layer 17 (heap), joined: L17Rw. -/
import Derived.Test.YtbopdbinllokkaaGreatJay
import Derived.Test.YtbopdbinllokkaaGreatRows
import Derived.ProofKit
import Derived.OpenShut
import Derived.Carry
import Derived.Deep.DeepHandedRow
import Derived.Deep.DeepWitnessRowRef
import Derived.Deep.Strs
import Derived.Deep.SlicePairs
import Derived.JoinedCond
import Derived.Stop.Joined
import Derived.Lib.SmallJoins
set_option linter.all false
set_option linter.unusedSimpArgs false
set_option linter.unusedVariables false
namespace Go.Proofs.YtbopdbinllokkaaGreat
open Go Go.ChangeShapes Go.WideShapes Go.ChangeAt Go.RowKit Go.Eng Go.L17
set_option maxRecDepth 100000
set_option maxHeartbeats 4000000
theorem own : ownKnob Tryz.prog.godebug = none := by kernel_rfl
theorem laidOut : laidOutB Tryz.prog = true := by kernel_rfl
theorem cells5 : Tryz.prog.cellsOf 5 = 1 := by kernel_rfl
theorem cells3 : Tryz.prog.cellsOf 3 = 1 := by kernel_rfl
theorem cells34 : Tryz.prog.cellsOf 34 = 1 := by kernel_rfl
theorem cells35 : Tryz.prog.cellsOf 35 = 1 := by kernel_rfl
theorem cells37 : Tryz.prog.cellsOf 37 = 7 := by kernel_rfl
theorem und22 : Tryz.prog.underlying 22 = some (.slice 37) := by kernel_rfl
theorem und34 : Tryz.prog.underlying 34 = some (.slice 5) := by kernel_rfl
theorem und35 : Tryz.prog.underlying 35 = some (.slice 3) := by kernel_rfl
theorem und5 : Tryz.prog.underlying 5 = some (.int .u8) := by kernel_rfl
theorem und3 : Tryz.prog.underlying 3 = some (.int .i64) := by kernel_rfl
theorem und4 : Tryz.prog.underlying 4 = some .bool := by kernel_rfl
theorem und37 : ∃ f0 f1 f2 f3 f4 f5 f6 : Field, Tryz.prog.underlying 37 = some (.struct #[f0, f1, f2, f3, f4, f5, f6]) ∧ (f0.type = 5 ∧ f1.type = 3 ∧ f2.type = 3 ∧ f3.type = 3 ∧ f4.type = 34 ∧ f5.type = 35 ∧ f6.type = 35) ∧ (f0.offset = 0 ∧ f1.offset = 1 ∧ f2.offset = 2 ∧ f3.offset = 3 ∧ f4.offset = 4 ∧ f5.offset = 5 ∧ f6.offset = 6) :=
 ⟨_, _, _, _, _, _, _, Tryz.underlying37, ⟨rfl, rfl, rfl, rfl, rfl, rfl, rfl⟩, ⟨rfl, rfl, rfl, rfl, rfl, rfl, rfl⟩⟩
section
variable {H : Type} {enc : TypeId × Value → H} {W : World}
theorem addr_spot {a : Addr} (h : a.spot = none) : ∃ b o, a = ⟨b, o, none⟩ := by
 obtain ⟨b, o, s⟩ := a
 simp only at h
 subst h
 exact ⟨b, o, rfl⟩
theorem add_lit' (b o i : Nat) : (⟨b, o, none⟩ : Addr).add i = ⟨b, o + i, none⟩ := add_lit b o i
theorem wf_u8 {n : Int} (h : (Lit.int .u8 n).wf = true) : 0 ≤ n ∧ n ≤ 255 := by
 simpa [Lit.wf, IntKind.min, IntKind.max, IntKind.signed, IntKind.bits] using h
theorem slot0 {a : Addr} {v : Value} (h : W.cell? (a.add 0) = some v) : a.spot = none := by
 have e : a.add 0 = a := by unfold Addr.add; simp
 rw [e] at h
 exact World.cell?_spot h
theorem isSl_wide {a : Addr} {n c : Nat} (h : n ≤ c) (hs : 0 < c → a.spot = none) : isSl (.slice (some a) n c) = true := by
 obtain ⟨b, o, s⟩ := a
 by_cases hc : 0 < c
 ·obtain rfl : s = none := hs hc
  simp [isSl, h]
 ·obtain rfl : c = 0 := by omega
  obtain rfl : n = 0 := by omega
  cases s <;> simp [isSl]
theorem openI {n : Nat} {v : Value} {y : DataW H × List MemPlace} (h : DataW.trod enc Tryz.prog W 0 (fun _ => true) true n 35 [v] = some y) : ∃ ns, SlW Eng.encI W v ns := by
 rcases open_ints und35 und3 cells3 h with ⟨h1, _⟩ | ⟨a, len, cap, zs, h1, _, hl, hm, hz, hy, hc, hw⟩
 ·simp at h1; subst h1; exact ⟨[], rfl, rfl, fun i hi => by simp at hi⟩
 ·simp at h1; subst h1
  simp at hz
  have hsp : 0 < cap → a.spot = none := fun h0 => slot0 (hc 0 (by omega))
  refine ⟨zs.take len, isSl_wide hl hsp, by simp [slLen]; omega, fun i hi => ?_⟩
  simp at hi
  obtain ⟨b, o, rfl⟩ := addr_spot (hsp (by omega))
  have := hc i (by omega)
  rw [add_lit'] at this
  simp [slAddr, this, Eng.encI, List.getD_eq_getElem?_getD, show i < zs.length by omega]
theorem openU {n : Nat} {v : Value} {y : DataW H × List MemPlace} (h : DataW.trod enc Tryz.prog W 0 (fun _ => true) true n 34 [v] = some y) : ∃ ns, SlW encU W v ns := by
 rcases open_ints und34 und5 cells5 h with ⟨h1, _⟩ | ⟨a, len, cap, zs, h1, _, hl, hm, hz, hy, hc, hw⟩
 ·simp at h1; subst h1; exact ⟨[], rfl, rfl, fun i hi => by simp at hi⟩
 ·simp at h1; subst h1
  simp at hz
  have hsp : 0 < cap → a.spot = none := fun h0 => slot0 (hc 0 (by omega))
  refine ⟨(zs.take len).map Int.toNat, isSl_wide hl hsp, by simp [slLen]; omega, fun i hi => ?_⟩
  simp at hi
  obtain ⟨b, o, rfl⟩ := addr_spot (hsp (by omega))
  have := hc i (by omega)
  rw [add_lit'] at this
  have hz1 := wf_u8 (hw zs[i] (List.getElem_mem (by omega)))
  simp [slAddr, this, encU, List.getD_eq_getElem?_getD, show i < zs.length by omega]
  omega
theorem openOp7 {n : Nat} {cs : List Value} {y : DataW H × List MemPlace} (h : DataW.trod enc Tryz.prog W 0 (fun _ => true) true n 37 cs = some y) : ∃ (o : OpD) (kv vv rv : Value), cs = [.int .u8 (o.kind : Int), .int .i64 o.ref, .int .i64 o.a, .int .i64 o.b, kv, vv, rv] ∧ SlW encU W kv o.kinds ∧ SlW Eng.encI W vv o.vals ∧ SlW Eng.encI W rv o.roots ∧ o.kind < 256 := by
 obtain ⟨f0, f1, f2, f3, f4, f5, f6, hu, ⟨t0, t1, t2, t3, t4, t5, t6⟩, ⟨o0, o1, o2, o3, o4, o5, o6⟩⟩ := und37
 obtain ⟨xs, k, _, _, hl, hlen, hf⟩ := DataW.trod_struct hu h
 rw [cells37] at hl
 match xs, hlen, cs, hl with
 | [y0, y1, y2, y3, y4, y5, y6], _, [a, b, c, d, e, f, g], _ =>
  have k0 := hf 0 f0 rfl
  have k1 := hf 1 f1 rfl
  have k2 := hf 2 f2 rfl
  have k3 := hf 3 f3 rfl
  have k4 := hf 4 f4 rfl
  have k5 := hf 5 f5 rfl
  have k6 := hf 6 f6 rfl
  rw [t0, o0, cells5] at k0
  rw [t1, o1, cells3] at k1
  rw [t2, o2, cells3] at k2
  rw [t3, o3, cells3] at k3
  rw [t4, o4, cells34] at k4
  rw [t5, o5, cells35] at k5
  rw [t6, o6, cells35] at k6
  simp at k0 k1 k2 k3 k4 k5 k6
  obtain ⟨z0, e0, _, w0⟩ := DataW.trod_int und5 k0
  obtain ⟨z1, e1, _, w1⟩ := DataW.trod_int und3 k1
  obtain ⟨z2, e2, _, w2⟩ := DataW.trod_int und3 k2
  obtain ⟨z3, e3, _, w3⟩ := DataW.trod_int und3 k3
  obtain ⟨ks, hk⟩ := openU k4
  obtain ⟨vs, hv⟩ := openI k5
  obtain ⟨rs, hr⟩ := openI k6
  simp at e0 e1 e2 e3
  have hz := wf_u8 w0
  have ez : ((z0.toNat : Nat) : Int) = z0 := by omega
  exact ⟨⟨z0.toNat, z1, z2, z3, ks, vs, rs⟩, e, f, g, by simp [e0, e1, e2, e3, ez], hk, hv, hr, by show z0.toNat < 256; omega⟩
theorem openOps {base : Nat} {v : Value} {d : DataW H} {p : List MemPlace} (hv : Value.okWide Tryz.prog W .any base 22 v) (h : DataW.Trod enc Tryz.prog W 0 (fun _ => true) true 22 v d p) : ∃ ops, Scr W v ops := by
 obtain ⟨a0, l0, c0, rfl⟩ := okWide_slice und22 hv
 obtain ⟨n, hn⟩ := h
 rcases Go.Deep.open_slice und22 hn with ⟨h1, _⟩ | ⟨a, len, cap, m, k, D, Pl, h1, _, hl, hm, hmm, hy, hx⟩
 ·simp [Value.cells] at h1
  obtain ⟨rfl, rfl, rfl⟩ := h1
  exact ⟨[], rfl, rfl, fun i hi => by simp at hi⟩
 ·simp [Value.cells] at h1
  obtain ⟨rfl, rfl, rfl⟩ := h1
  simp at hmm
  subst hmm
  rw [cells37] at hx
  have hsp : 0 < m → a.spot = none := fun h0 => by
   obtain ⟨cs, hcs, ht⟩ := hx 0 h0
   obtain ⟨o, kv, vv, rv, rfl, _⟩ := openOp7 ht
   obtain ⟨_, _, hcell⟩ := World.cells?_some hcs
   have g0 := hcell 0 (by simp)
   rw [Nat.zero_mul] at g0
   have e : (a.add 0).add 0 = a.add 0 := by unfold Addr.add; simp
   rw [e] at g0
   exact slot0 g0
  have each : ∀ i, ∃ x : OpD, i < l0 → ∃ kv vv rv : Value, (∀ j, j < 7 → W.cell? (slAddr (.slice (some a) l0 m) (i * 7 + j)) = [.int .u8 (x.kind : Int), .int .i64 x.ref, .int .i64 x.a, .int .i64 x.b, kv, vv, rv][j]?) ∧ SlW encU W kv x.kinds ∧ SlW Eng.encI W vv x.vals ∧ SlW Eng.encI W rv x.roots ∧ x.kind < 256 := by
   intro i
   by_cases hi : i < l0
   ·obtain ⟨b, o, rfl⟩ := addr_spot (hsp (by omega))
    obtain ⟨cs, hcs, ht⟩ := hx i (by omega)
    obtain ⟨x, kv, vv, rv, rfl, hk, hv, hr, hlt⟩ := openOp7 ht
    obtain ⟨_, _, hcell⟩ := World.cells?_some hcs
    refine ⟨x, fun _ => ⟨kv, vv, rv, fun j hj => ?_, hk, hv, hr, hlt⟩⟩
    have g := hcell j (by simpa using hj)
    simp only [add_lit'] at g
    rw [List.getElem?_eq_getElem (by simpa using hj)]
    simp only [slAddr]
    rw [← Nat.add_assoc, g]
    simp
   ·exact ⟨⟨0, 0, 0, 0, [], [], []⟩, fun h => absurd h hi⟩
  obtain ⟨f, hf⟩ := Classical.axiomOfChoice each
  refine ⟨(List.range l0).map f, isSl_wide hl hsp, by simp [slLen], fun i hi => ?_⟩
  simp at hi
  simpa using hf i hi
theorem openI1 {base : Nat} {v : Value} {d : DataW H} {p : List MemPlace} (hv : Value.okWide Tryz.prog W .any base 35 v) (h : DataW.Trod enc Tryz.prog W 0 (fun _ => true) true 35 v d p) : ∃ ns, SlW Eng.encI W v ns := by
 obtain ⟨a0, l, c, rfl⟩ := okWide_slice und35 hv
 obtain ⟨n, hn⟩ := h
 exact openI (y := (d, p)) hn
end
theorem below_trodAll {H : Type} {enc : TypeId × Value → H} {W W' : World} (hb : Below W.heap.size W W') : ∀ {ts : List TypeId} {vs : List Value} {ds : List (DataW H)} {ps : List MemPlace},
  (∀ t ∈ ts, Tryz.prog.readableRec t = true ∧ t < Tryz.prog.types.size) → DataW.TrodAll enc Tryz.prog W 0 (fun _ => true) true ts vs ds ps → (∀ x ∈ ps, x.block < W.heap.size) → DataW.TrodAll enc Tryz.prog W' 0 (fun b => decide (b < W.heap.size)) true ts vs ds ps
 | [], [], [], _, _, h, _ => h
 | _ :: _, _ :: _, _ :: _, _, hT, ⟨p, q, h1, h2, e⟩, hlt =>
  ⟨p, q, Below.trod laidOut (hT _ (by simp)).1 (hT _ (by simp)).2 h1 hb (fun x hx => hlt x (by rw [e]; exact List.mem_append_left _ hx)), below_trodAll hb (fun t ht => hT t (List.mem_cons_of_mem _ ht)) h2 (fun x hx => hlt x (by rw [e]; exact List.mem_append_right _ hx)), e⟩
theorem row_post {H : Type} {enc : TypeId × Value → H} {fn : Func} {s : ChangeSpec} {W : World} {args : Array Value} {ds gs : List (DataW H)} {before : List MemPlace} {f : FuncId}
  (hv : s.vars = []) (hr : fn.resultTypes = #[4]) (hT : ∀ t ∈ fn.params.toList, Tryz.prog.readableRec t = true ∧ t < Tryz.prog.types.size)
  (hfn : ∀ l : List (DataW H), l.length = fn.params.size → s.fn H l = { results := [.lit (.bool true)], args := l })
  (hW : DataW.Whole enc Tryz.prog fn.params.toList s.vars false W args.toList ds gs before)
  (hc : Calls Tryz.prog f args W fun e w' => e = .returned (.bool true) ∧ Ext W w') :
  Calls Tryz.prog f args W fun e W' => ∃ v, e = .returned v ∧ s.post enc Tryz.prog fn false true false false W args v W' := by
 refine hc.mono ?_
 rintro e W' ⟨rfl, hB⟩
 have hW' := hW
 obtain ⟨p, q, hA, hV, rfl, _, _⟩ := hW
 rw [hv] at hV
 obtain ⟨rfl, rfl⟩ := trodVars_none hV
 have hlen : ds.length = fn.params.size := by
  have key : ∀ {ts : List TypeId} {vs : List Value} {ds : List (DataW H)} {ps : List MemPlace}, DataW.TrodAll enc Tryz.prog W 0 (fun _ => true) true ts vs ds ps → ds.length = ts.length := by
   intro ts
   induction ts with
   | nil => intro vs ds ps h; cases vs <;> cases ds <;> first | rfl | cases h
   | cons t ts ih =>
    intro vs ds ps h
    cases vs <;> cases ds <;> first | (cases h; done) | skip
    obtain ⟨p, q, _, h2, _⟩ := h
    simp [ih h2]
  simpa using key hA
 have hlt : ∀ x ∈ p, x.block < W.heap.size := fun x hx => hW'.lt x (by simpa using hx)
 have e1 := hfn (ds ++ []) (by simpa using hlen)
 refine ⟨_, rfl, ds, [], p ++ [], [], p, [], hW', ?_, ?_, ?_, hB.frame _, fun h => by cases h⟩
 ·rw [e1, hr]; exact trodAll_mk1 (shut_bool und4 _)
 ·rw [e1]; simpa using below_trodAll hB hT hA hlt
 ·rw [e1, hv]; rfl
end Go.Proofs.YtbopdbinllokkaaGreat
