/- Texts of mine for the claims about layer 1 (token), joined: L01H, L01J, L01K, L01L, L01M, L01Q, L01R, L01T, L01U, L01V, L01W, L01X, L01Y, L01Xa, L01Xb, L01Xc, L01Xd. -/
import Derived.Test.YtmpmccjmcclalaaGreatDoorJay
import Derived.Test.YtmpmccjmcclalaaGreatDoorJas
set_option linter.all false
set_option linter.unusedSimpArgs false
set_option linter.unusedVariables false
/- Layer 1: contracts: the iterator over tokens, scanned. -/
namespace Go.L01
open Go Go.Eng Go.RowKit Go.Proofs
set_option maxRecDepth 100000
set_option maxHeartbeats 2000000

@[simp] theorem cb83 : callB Tryz.prog 83 = true := by kernel_rfl
@[simp] theorem cb84 : callB Tryz.prog 84 = true := by kernel_rfl

/-- The statement 'for .. range x.f', f a method. -/
theorem raw_rangeM {cx : Cx} {g : Operand} {ps : Array Tmp} {assign body : Code} {gf : FuncId} {fs lb : Array Value} {K : Env → World → Prop} {Q : Ks} {ρ : Env} {w : World} (hD : cx.D ≠ []) (hg : evE ρ g = .func (.func gf) fs lb) (hgV : fusedIn cx.V g = false)
    (hcb : callB cx.P gf = true)
    (h : ∀ (a : Act) (r : Loop) (W1 : World), Agree cx.n cx.V ρ a → r.tmps = a.tmps → r.params = ps → r.assign = assign → r.body = body → r.state = .ready → r.pending = none → Ext w W1 → W1.heap.size = w.heap.size + 2 → LoopB W1 (w.heap.size + 1) w.heap.size r →
      Calls cx.P gf (fs ++ #[.func (.yield (w.heap.size + 1)) #[] #[]] ++ lb) W1 (loopEnd cx (w.heap.size + 1) w.heap.size r K Q (upd ρ gS (consD (markD w.heap.size) (ρ gS))))) :
    (IR.raw (.rangeFunc g ps assign body)).wp cx K Q ρ w := by
  intro a ha hDa hdf
  refine (wpIn_wide (n := 0)).1 (wpIn_rangeFunc fun fn _ => ?_)
  obtain ⟨rec, hrec⟩ : ∃ rec : Loop, rec = { state := .ready, pending := none, fn, tmps := a.tmps, params := ps, assign, body, defers := w.heap.size } := ⟨_, rfl⟩
  obtain ⟨W1, hW1⟩ : ∃ W1, (w.alloc (.deferred (some []))).alloc (.loop rec) = W1 := ⟨_, rfl⟩
  have hE : Ext w W1 := by rw [← hW1]; exact (ext_alloc _ _).trans' (ext_alloc _ _)
  have hsz : W1.heap.size = w.heap.size + 2 := by rw [← hW1]; simp
  have hL : LoopB W1 (w.heap.size + 1) w.heap.size rec := by
    rw [← hW1]
    refine ⟨?_, ?_⟩
    · have := World.alloc_heap_new (w.alloc (.deferred (some []))) (.loop rec); rwa [World.size_alloc] at this
    · exact (Below.heap_alloc _ _ _ (by simp)).trans (World.alloc_heap_new w _)
  have hga : a.eval g = .func (.func gf) fs lb := by
    rw [← hg]
    cases g with
    | tmp t =>
      have ht : t ∈ cx.V := by simpa [fusedIn] using hgV
      simp [Act.eval, evE, ha.at ht]
    | const v => rfl
    | global v => rfl
    | func v => rfl
  refine ⟨w.heap.size + 1, [markD w.heap.size], W1, { target := .fn (.func gf) lb, args := fs ++ #[.func (.yield (w.heap.size + 1)) #[] #[]] }, W1, gf, fs ++ #[.func (.yield (w.heap.size + 1)) #[] #[]] ++ lb, W1, ?_, ?_, fun _ _ => trivial, ?_, fun h0 => (by cases h0), ?_⟩
  · rw [← hW1, hrec]; exact run_enterLoop_outer _ _ _ _ _
  · simp only [resolve, hga]
    simp [Deferred.ofValue, Act.eval]
  · unfold callB at hcb
    split at hcb
    · rename_i f2 hf2
      simp only [Bool.and_eq_true, Bool.not_eq_true', beq_eq_false_iff_ne, ne_eq] at hcb
      cases hb : f2.body with
      | none => simp [hb] at hcb
      | some c => simp [invoke, callFunc, hf2, hcb.1, hb]
    · cases hcb
  · refine (callsIn_wide (n := 0 - 1)).2 ((h a rec W1 ha (by rw [hrec]) (by rw [hrec]) (by rw [hrec]) (by rw [hrec]) (by rw [hrec]) (by rw [hrec]) hE hsz hL).mono ?_)
    have ha' := ha.defer (markD w.heap.size)
    have hD' : dOk cx { a with defers := [markD w.heap.size] ++ a.defers } := fun e => absurd e hD
    intro e W3 he
    cases e with
    | returned v =>
      obtain ⟨st, pend, hst, hL3, hk⟩ := he
      have hk := hk _ (only_putObj _ _ _) (hL3.put _)
      refine ⟨pend, _, run_endLoop hL3.rcd hst, ?_⟩
      cases pend with
      | none => exact ⟨hD', _, ha', hk⟩
      | some c =>
        cases c <;> first | exact hk.elim | skip
        · exact wpIn_exit ⟨hD', _, ha', hk⟩
        · exact wpIn_ret ⟨hD', _, ha', hk⟩
    | panicked c => exact ⟨hD', _, ha', he⟩
    | outgrown => exact lift_og he

/-- How the iterator over tokens ends. -/
def TkPost (base B : Nat) (s : Bs) (J : List Tok → Value → World → Prop) : Ending → World → Prop := fun e W' =>
  (∃ v ts coms cv line, e = .returned v ∧ scanAt s 1 = .ok ts coms ∧ J ts cv W' ∧ Sc base B W' s s.length line coms cv) ∨
  (∃ er line ts cv, e = brk er line ∧ scanAt s 1 = .bad er line ∧ J ts cv W')
def TkInv (base B l : Nat) (s : Bs) (J : List Tok → Value → World → Prop) (ρ' : Env) (W' : World) : Prop :=
  ρ' 0 = .pointer (some ⟨B, 0, none⟩) ∧ ρ' 1 = .func (.yield l) #[] #[] ∧ ∃ ts k line coms cv, Sc base B W' s k line coms cv ∧ J ts cv W' ∧ stop s k ∧ scanAt s 1 = (scanAt (s.drop k) line).add ts coms ∧ ts.length ≤ k
theorem it_tokens {W : World} {base B l : Nat} {s : Bs} {cv0 : Value} (J : List Tok → Value → World → Prop) (hg : ∀ ts cv W, J ts cv W → G W) (hJ : ∀ ts cv cv' W W', J ts cv W → Tn B cv cv' W W' → J ts cv' W')
    (hY : ∀ ts cv t W k line coms, J ts cv W → Sc base B W s k line coms cv → ts.length ≤ 20000 → YieldR Tryz.prog l #[encK t] W fun e W' => e = .returned (.bool true) ∧ J (ts ++ [t]) cv W' ∧ Sc base B W' s k line coms cv)
    (h0 : J [] cv0 W) (hS : Sc base B W s 0 1 [] cv0) :
    Calls Tryz.prog 64 #[.pointer (some ⟨B, 0, none⟩), .func (.yield l) #[] #[]] W (TkPost base B s J) := by
  refine ir64_calls fun ρ r0 r1 => ?_
  simp [ir64, r0]
  refine (t_skip hS).mono ?_
  rintro _ W1 ⟨rfl, k, line, new, cv, hK, hst⟩
  simp
  refine loopI (TkInv base B l s J) (fun _ w' => s.length - atOf w' B) ⟨by simp [r0], by simp [r1], [], k, line, new, cv, by simpa using hK.sc, hJ _ _ _ _ _ h0 hK.tn, hst, by simpa using hK.eq, by simp⟩ ?_
  clear hK hst
  rintro ρ' W' ⟨r0, r1, ts, k, line, coms, cv, hS, hj, hst, heq, hlen⟩
  have hat := hS.at
  by_cases hlt : k < s.length
  · simp [ir64_l3, r0, hS.blk.cell, hlt]
    intro W2 hE2
    have hS2 := hS.ext hE2
    have hj2 := hJ _ _ _ _ _ hj (Tn.ext hE2)
    obtain ⟨hbl, h37⟩ := hst hlt
    have hb' := hbl
    simp only [blank, Bool.or_eq_false_iff, decide_eq_false_iff_not] at hb'
    obtain ⟨⟨b1, b2⟩, b3⟩ := hb'
    have hsc := scanAt_cons s[k] (s.drop (k + 1)) line
    rw [← drop_at hlt, if_neg b3, if_neg (by rintro (h | h) <;> contradiction), if_neg h37] at hsc
    simp [ir64_k2, ir64_k1, r0, r1]
    refine (t_next (hg _ _ _ hj2) hS2 hlt).mono ?_
    rintro e W3 ⟨hT3, ⟨hf, rfl, hS3⟩ | ⟨hf, rfl⟩⟩
    · rw [if_neg (by simpa using hf)] at hsc
      have hj3 := hJ _ _ _ _ _ hj2 hT3
      simp
      refine eff_yield (l := l) (by simp) (by simp) ?_
      simp
      refine (hY ts cv _ W3 _ _ _ hj3 hS3 (by have := hS.kl; have := hS.sl; omega)).mono ?_
      rintro _ W4 ⟨rfl, hj4, hS4⟩
      simp [ir64_k0, r0]
      refine (t_skip hS4).mono ?_
      rintro _ W5 ⟨rfl, k5, line5, new5, cv5, hK5, hst5⟩
      have hpos := first_len hf (by rw [drop_at hlt]; exact List.cons_ne_nil _ _)
      simp
      refine ⟨⟨by simp [r0], by simp [r1], _, k5, line5, _, cv5, hK5.sc, hJ _ _ _ _ _ hj4 hK5.tn, hst5, ?_, ?_⟩, ?_⟩
      · rw [heq, hsc, List.drop_drop, hK5.eq, Res.add_add, Res.add_add]
        simp
      · have := hK5.le
        simp; omega
      · rw [hK5.sc.at, hat]
        have := hK5.le
        omega
    · rw [if_pos hf] at hsc
      simp [brk]
      exact .inr ⟨_, _, ts, cv, rfl, by rw [heq, hsc]; rfl, hJ _ _ _ _ _ hj2 hT3⟩
  · have hk : k = s.length := by have := hS.kl; omega
    subst hk
    simp [ir64_l3, r0, hS.blk.cell, ir64_k2]
    intro W2 hE2
    refine .inl ⟨_, ts, coms, cv, line, rfl, ?_, hJ _ _ _ _ _ hj (Tn.ext hE2), hS.ext hE2⟩
    rw [heq, List.drop_length, scanAt_nil]
    simp [Res.add]

theorem ifc20 : Tryz.prog.underlying 20 = some (.interface (Tryz.prog.methodsAt 20)) := by kernel_rfl
def isStr : Option TypeDesc → Bool | some (.struct _) => true | _ => false
theorem und84 : ∃ ds, Tryz.prog.underlying 84 = some ds ∧ ∀ m, ds ≠ .interface m := by
  have h : isStr (Tryz.prog.underlying 84) = true := by kernel_rfl
  unfold isStr at h
  split at h
  · rename_i fs he
    exact ⟨_, he, fun m hm => by cases hm⟩
  · cases h
theorem z84 : zeroCellsOf Tryz.prog 84 = some #[.int .i64 0, .int .i64 0] := by kernel_rfl
theorem sz84 : sizeIs Tryz.prog 84 2 = true := by kernel_rfl
theorem sz31 : sizeIs Tryz.prog 31 2 = true := by kernel_rfl
theorem sz28 : sizeIs Tryz.prog 28 1 = true := by kernel_rfl
def brkC (e l : Int) : List PanicEntry := [{ v := .iface 84 (.agg #[.int .i64 e, .int .i64 l]), recovered := false }]
theorem d_none {v0 v1 v2 : Value} {w : World} : CallsDIn Fence.wide 0 Tryz.prog 63 #[v0, v1, v2] .returning w fun e u' w' => (∃ v, e = .returned v) ∧ u' = .returning ∧ w' = w := by
  refine jr63_calls fun ρ h0 h1 h2 => ?_
  simp [jr63, recV, recU]
  refine eff_eqlNilI ifc20 (by simp) ?_
  simp
theorem d_brk {w : World} {L C F : Nat} {x y : Value} {f : Array Value} {er ln : Int} (hL : Blk w L #[x] 28) (hC : Blk w C #[y] 25) (hF : Blk w F f 31) (hf : f.size = 2) (h1 : L ≠ C) (h2 : L ≠ F) (h3 : C ≠ F) :
    CallsDIn Fence.wide 0 Tryz.prog 63 #[.pointer (some ⟨L, 0, none⟩), .pointer (some ⟨C, 0, none⟩), .pointer (some ⟨F, 0, none⟩)] (.panicking (brkC er ln)) w fun e u' w' => (∃ v, e = .returned v) ∧ settle u' = .returning ∧
      (∃ W, Ext w W ∧ ∃ W2, Only L W W2 ∧ ∃ W3, Only C W2 W3 ∧ Only F W3 w') ∧ Blk w' L #[.slice none 0 0] 28 ∧ Blk w' C #[.slice none 0 0] 25 ∧ Blk w' F #[.int .i64 er, .int .i64 ln] 31 := by
  obtain ⟨ds, hu, hd⟩ := und84
  refine jr63_calls fun ρ r0 r1 r2 => ?_
  simp [jr63, recV, recU, brkC]
  refine eff_eqlNilI' (u := 84) (v := .agg #[.int .i64 er, .int .i64 ln]) ifc20 (by simp) ?_
  simp
  refine eff_assert (a := 84) (v := .agg #[.int .i64 er, .int .i64 ln]) hu hd (by simp) ?_
  simp
  refine eff_alloc z84 fun B W hB hE hb _ => ?_
  simp
  refine eff_storeN (B := B) (by simp) hb (by simp [Value.cells]) (by simp [Value.cells]) (by simpa [Value.cells] using sz84) fun W1 hO1 hb1 => ?_
  simp [Value.cells] at hb1
  have hL1 := hO1.blk (hL.ext hE) (by have := hL.lt; omega)
  have hC1 := hO1.blk (hC.ext hE) (by have := hC.lt; omega)
  have hF1 := hO1.blk (hF.ext hE) (by have := hF.lt; omega)
  simp
  refine raw_ord jr63_o7_ok (fun W => Blk W B #[.int .i64 er, .int .i64 ln] 84) fun W2 hE2 _ => ?_
  have hb2 := hb1.ext hE2
  refine ⟨hb2, ?_⟩
  have hb' : ∀ w', Blk w' B #[.int .i64 er, .int .i64 ln] 84 → ∀ i, w'.cell? ⟨B, i, none⟩ = #[Value.int .i64 er, .int .i64 ln][i]? := fun w' h => h.cell
  simp +contextual -implicitDefEqProofs [jr63_o7, hb2.cell, hb']
  refine eff_store1 (B := L) (i := 0) (by simp [r0]) (hL1.ext hE2) (by simp) rfl rfl sz28 fun W3 hO3 hb3 => ?_
  refine ⟨hO3.blk hb2 (by have := hL.lt; omega), ?_⟩
  simp
  have hC3 := hO3.blk (hC1.ext hE2) (Ne.symm h1)
  refine eff_store1 (B := C) (i := 0) (by simp [r1]) hC3 (by simp) rfl rfl sz25 fun W4 hO4 hb4 => ?_
  refine ⟨hO4.blk (hO3.blk hb2 (by have := hL.lt; omega)) (by have := hC.lt; omega), ?_⟩
  simp
  have hF4 := hO4.blk (hO3.blk (hF1.ext hE2) (Ne.symm h2)) (Ne.symm h3)
  refine eff_storeN (B := F) (by simp [r2]) hF4 (by simp [Value.cells, hf]) (by simp [Value.cells]) (by rw [hf]; exact sz31) fun W5 hO5 hb5 => ?_
  simp [Value.cells] at hb3 hb4 hb5 ⊢
  refine ⟨by rfl, ⟨W2, (hO1.ext hE hB).trans' hE2, W3, hO3, W4, hO4, hO5⟩, hO5.blk (hO4.blk hb3 h1) h2, hO5.blk hb4 h3, hb5⟩
end Go.L01
/- Layer 1: contracts: scanned. -/
namespace Go.L01
open Go Go.Eng Go.RowKit Go.Proofs
set_option maxRecDepth 100000
set_option maxHeartbeats 2000000

def toksV (ts : List Tok) : List Value := ts.flatMap fun t => [.int .u8 (t.kind : Int), .string (mkS t.text), .int .i64 t.line]
@[simp] theorem toksV_nil : toksV [] = [] := rfl
theorem toksV_snoc (ts : List Tok) (t : Tok) : toksV (ts ++ [t]) = toksV ts ++ [.int .u8 (t.kind : Int), .string (mkS t.text), .int .i64 t.line] := by simp [toksV]
theorem toksV_len (ts : List Tok) : (toksV ts).length = ts.length * 3 := by
  induction ts with
  | nil => rfl
  | cons t ts ih =>
    have : toksV (t :: ts) = [.int .u8 (t.kind : Int), .string (mkS t.text), .int .i64 t.line] ++ toksV ts := rfl
    rw [this, List.length_append, ih]; simp; omega

theorem Own.same {base e sz : Nat} {w w' : World} {v : Value} {xs : List Value} (h : Own base e sz w v xs) (hb : ∀ k, v.ownBlock = some k → w'.heap[k]? = w.heap[k]?) : Own base e sz w' v xs := by
  rcases h with h | ⟨g, off, n, cap, cur, rfl, hbs, hg, r⟩
  · exact .inl h
  · exact .inr ⟨g, off, n, cap, cur, rfl, hbs, (hb g rfl).trans hg, r⟩

/-- What scanned keeps while tokens come. -/
structure SJ (w : World) (B L C F l Db : Nat) (rec : Loop) (ts : List Tok) (cv : Value) (lv : Value) (W : World) : Prop where
  ext : Ext w W
  lp : LoopB W l Db rec
  bl : Blk W L #[lv] 28
  bc : Blk W C #[.slice none 0 0] 25
  bf : Blk W F #[.int .i64 0, .int .i64 0] 31
  own : Own w.heap.size 38 3 W lv (toksV ts)
  ne : ∀ X ∈ [B, L, C, F, l, Db], lv.ownBlock ≠ some X
  nc : ∀ X ∈ [L, C, F, l, Db], cv.ownBlock ≠ some X ∧ X ≠ B
  nn : ∀ k, lv.ownBlock = some k → cv.ownBlock ≠ some k
theorem SJ.turn {w : World} {B L C F l Db : Nat} {rec : Loop} {ts : List Tok} {cv cv' lv : Value} {W W' : World} (h : SJ w B L C F l Db rec ts cv lv W) (hT : Tn B cv cv' W W') (hB : w.heap.size ≤ B) (hc : ∀ k, cv.ownBlock = some k → w.heap.size ≤ k) : SJ w B L C F l Db rec ts cv' lv W' := by
  have hlt := h.lp.lt
  have keep : ∀ X ∈ [L, C, F, l, Db], X < W.heap.size → W'.heap[X]? = W.heap[X]? := fun X hX hl => hT.block X hl (h.nc X hX).2 (h.nc X hX).1
  have hL := h.bl.lt
  have hC := h.bc.lt
  have hF := h.bf.lt
  refine ⟨⟨hT.os.trans h.ext.os, hT.tape.trans h.ext.tape, hT.output.trans h.ext.output, Nat.le_trans h.ext.size hT.size, fun k hk => (hT.block k (Nat.lt_of_lt_of_le hk h.ext.size) (by omega) fun e => by have := hc k e; omega).trans (h.ext.block k hk)⟩,
    h.lp.keep (keep l (by simp) hlt.1) (keep Db (by simp) hlt.2), ⟨(keep L (by simp) hL).trans h.bl.heap⟩, ⟨(keep C (by simp) hC).trans h.bc.heap⟩, ⟨(keep F (by simp) hF).trans h.bf.heap⟩, ?_, h.ne, ?_, ?_⟩
  · refine Own.same h.own fun k hk => ?_
    have hkl := (h.own.blk k hk).2
    exact hT.block k hkl (fun e => h.ne B (by simp) (by rw [hk, e])) (h.nn k hk)
  · intro X hX
    refine ⟨?_, (h.nc X hX).2⟩
    rcases hT.own with e | e
    · rw [e]; exact (h.nc X hX).1
    · intro hx
      have := e X hx
      simp only [List.mem_cons, List.mem_nil_iff, or_false] at hX
      rcases hX with rfl | rfl | rfl | rfl | rfl <;> omega
  · intro k hk
    rcases hT.own with e | e
    · rw [e]; exact h.nn k hk
    · intro hx
      have h1 := e k hx
      have h2 := (h.own.blk k hk).2
      omega

theorem SJ.round {w : World} {B L C F l Db : Nat} {rec rec' : Loop} {ts : List Tok} {cv lv : Value} {W W' : World} (h : SJ w B L C F l Db rec ts cv lv W) (hO : Only l W W') (hl : w.heap.size ≤ l) (hd : L ≠ l ∧ C ≠ l ∧ F ≠ l) (hL : LoopB W' l Db rec') : SJ w B L C F l Db rec' ts cv lv W' :=
  ⟨hO.ext h.ext hl, hL, hO.blk h.bl hd.1, hO.blk h.bc hd.2.1, hO.blk h.bf hd.2.2, Own.same h.own fun k hk => hO.block k (fun e => h.ne l (by simp) (by rw [hk, e])), h.ne, h.nc, h.nn⟩
theorem SJ.app {w : World} {B L C F l Db : Nat} {rec : Loop} {ts ts' : List Tok} {cv lv lv' : Value} {W W1 W' : World} (h : SJ w B L C F l Db rec ts cv lv W) (hg : W.grownBy W1 lv.ownBlock) (ho : Own w.heap.size 38 3 W1 lv' (toksV ts')) (hf : lv'.ownBlock = lv.ownBlock ∨ lv'.ownBlock = some W.heap.size)
    (hO : Only L W1 W') (hb : Blk W' L #[lv'] 28) (hd : C ≠ L ∧ F ≠ L ∧ l ≠ L ∧ Db ≠ L) (hB : B < W.heap.size) (hc : ∀ k, cv.ownBlock = some k → k < W.heap.size) (hwL : w.heap.size ≤ L) : SJ w B L C F l Db rec ts' cv lv' W' := by
  have hlt := h.lp.lt
  have hL := h.bl.lt
  have hC := h.bc.lt
  have hF := h.bf.lt
  have keep : ∀ X ∈ [C, F, l, Db], X < W.heap.size → X ≠ L → W'.heap[X]? = W.heap[X]? := by
    intro X hX hl hXL
    rw [hO.block X hXL]
    refine hg.block X hl fun e => h.ne X ?_ e.symm
    simp only [List.mem_cons, List.mem_nil_iff, or_false] at hX ⊢
    rcases hX with rfl | rfl | rfl | rfl <;> simp
  have hall : ∀ X ∈ [B, L, C, F, l, Db], X < W.heap.size := by
    intro X hX
    simp only [List.mem_cons, List.mem_nil_iff, or_false] at hX
    rcases hX with rfl | rfl | rfl | rfl | rfl | rfl
    · exact hB
    · exact hL
    · exact hC
    · exact hF
    · exact hlt.1
    · exact hlt.2
  have hne' : ∀ X ∈ [B, L, C, F, l, Db], lv'.ownBlock ≠ some X := by
    intro X hX
    rcases hf with e | e
    · rw [e]; exact h.ne X hX
    · rw [e]; intro e2; cases e2; have := hall _ hX; omega
  refine ⟨?_, h.lp.keep (keep l (by simp) hlt.1 hd.2.2.1) (keep Db (by simp) hlt.2 hd.2.2.2), hb, ⟨(keep C (by simp) hC hd.1).trans h.bc.heap⟩, ⟨(keep F (by simp) hF hd.2.1).trans h.bf.heap⟩, ?_, hne', h.nc, ?_⟩
  · exact hO.ext (h.ext.grown hg h.ext.size fun k hk => (h.own.blk k hk).1) hwL
  · exact Own.same ho fun k hk => hO.block k fun e => hne' L (by simp) (by rw [hk, e])
  · intro k hk
    rcases hf with e | e
    · exact h.nn k (e ▸ hk)
    · rw [e] at hk
      cases hk
      intro e2
      have := hc _ e2; omega
theorem Sc.gb {base B : Nat} {W W' : World} {s : Bs} {k : Nat} {line : Int} {coms : List Bs} {cv : Value} {row : Option Nat} (h : Sc base B W s k line coms cv) (hg : W.grownBy W' row) (h1 : row ≠ some B) (h2 : cv.ownBlock = none ∨ cv.ownBlock ≠ row) : Sc base B W' s k line coms cv :=
  ⟨⟨(hg.block B h.blk.lt (fun e => h1 e.symm)).trans h.blk.heap⟩, h.own.kept hg h2, h.ne, h.bB, Nat.le_trans h.bW hg.size, h.kl, h.sl, h.l0, h.l1, h.cl⟩

theorem ri28 : ∃ b, rowInfo Tryz.prog 28 = some (38, 3, b) ∧ b ≤ 64 := by
  have h : (match rowInfo Tryz.prog 28 with | some (e, s, b) => decide (e = 38) && decide (s = 3) && decide (b ≤ 64) | none => false) = true := by kernel_rfl
  split at h
  · rename_i e s b he
    simp only [Bool.and_eq_true, decide_eq_true_eq] at h
    obtain ⟨⟨rfl, rfl⟩, hb⟩ := h
    exact ⟨b, he, hb⟩
  · cases h
theorem si28 : sliceInfo Tryz.prog 28 = some (38, 3) := by kernel_rfl
theorem bu31a : Tryz.prog.built 31 [(0, .int .i64 2)] = some #[.int .i64 2, .int .i64 0] := by kernel_rfl
theorem bu31z : Tryz.prog.built 31 [] = some #[.int .i64 0, .int .i64 0] := by kernel_rfl
theorem bu87 (s : Bs) : Tryz.prog.built 87 [(0, .string (mkS s)), (2, .int .i64 1)] = some #[.string (mkS s), .int .i64 0, .int .i64 1] := by kernel_rfl
theorem bu89 (s : Bs) : Tryz.prog.built 89 [(0, .agg #[.string (mkS s), .int .i64 0, .int .i64 1])] = some #[.string (mkS s), .int .i64 0, .int .i64 1, .slice none 0 0] := by kernel_rfl
theorem z28 : zeroCellsOf Tryz.prog 28 = some #[.slice none 0 0] := by kernel_rfl
theorem z25 : zeroCellsOf Tryz.prog 25 = some #[.slice none 0 0] := by kernel_rfl
theorem z31 : zeroCellsOf Tryz.prog 31 = some #[.int .i64 0, .int .i64 0] := by kernel_rfl
@[simp] theorem cb63 : callB Tryz.prog 63 = true := by kernel_rfl
@[simp] theorem cb64 : callB Tryz.prog 64 = true := by kernel_rfl

def ScanPost (w : World) (src : Bs) : Ending → World → Prop := fun e w' => ∃ v c, e = .returned (.tuple #[v, c, .agg #[.int .i64 (scan src).err, .int .i64 (scan src).at]]) ∧
  Own w.heap.size 38 3 w' v (toksV (scan src).toks) ∧ Own w.heap.size 9 1 w' c ((scan src).coms.map encT) ∧ Ext w w'

theorem retS {t u z A B C : Nat} {x y : Value} {cs : Array Value} {T U V : TypeId} {R : Ending → World → Prop} {ρ : Env} {w : World} (hp : ρ t = .pointer (some ⟨A, 0, none⟩)) (hb : Blk w A #[x] T) (hq : ρ u = .pointer (some ⟨B, 0, none⟩)) (hc : Blk w B #[y] U)
    (hz : ρ z = .pointer (some ⟨C, 0, none⟩)) (hd : Blk w C cs V) (hn : cs.size = 2) (h : R (.returned (.tuple #[x, y, .agg cs])) w) : retK [.cell1 t, .cell1 u, .cellN z 2] R ρ w := by
  have h1 : w.cell? ⟨A, 0, none⟩ = some x := by rw [hb.cell]; rfl
  have h2 : w.cell? ⟨B, 0, none⟩ = some y := by rw [hc.cell]; rfl
  have h3 : pv1 w (.loadN 2) (.pointer (some ⟨C, 0, none⟩)) = some (.agg cs) := by rw [pv1_loadN, ← hn, row_blk hd]; rfl
  simp only [retK, resVals, RV.val, hp, hq, hz, pv1_load1, h1, h2, h3, Option.map_some, Option.bind_some]
  exact h

theorem leaves_fn {P : Program} {rs : List RV} {R : Ending → World → Prop} {ρ : Env} {w : World} {f : FuncId} {caps : Array Value} {u : FrameMode} (hu : u ≠ .run) (hcb : callB P f = true)
    (h : CallsDIn Fence.wide 0 P f caps u w fun
      | .returned _, u', w' => LeavesV P rs R ρ [] (settle u') w'
      | .panicked chain, u', w' => LeavesV P rs R ρ [] (raised u' chain) w'
      | .outgrown, _, w' => R .outgrown w') : LeavesV P rs R ρ [.func (.func f) #[] caps] u w := by
  refine ⟨hu, f, caps, ?_, h⟩
  unfold callB at hcb
  split at hcb
  · rename_i fn hf
    simp only [Bool.and_eq_true, Bool.not_eq_true', beq_eq_false_iff_ne, ne_eq] at hcb
    cases hb : fn.body with
    | none => simp [hb] at hcb
    | some c => simp [invoke, callFunc, hf, hcb.1, hb]
  · cases hcb
theorem sc_hpn {R : Ending → World → Prop} {l : List Nat} (hl : ∀ d ∈ l, d ≠ gS ∧ d ≠ 2 ∧ d ≠ 3 ∧ d ≠ 4) : ∀ d ∈ l, ∀ ρ v c w, (ksD Tryz.prog [.cell1 2, .cell1 3, .cellN 4 2] R).pn (upd ρ d v) c w → (ksD Tryz.prog [.cell1 2, .cell1 3, .cellN 4 2] R).pn ρ c w := by
  intro d hd ρ v c w h
  obtain ⟨h1, h2, h3, h4⟩ := hl d hd
  refine endK_upd h1 (fun w => ?_) h
  simp [resVals, RV.val, Ne.symm h2, Ne.symm h3, Ne.symm h4]

theorem t_scanned {w : World} (hG : G w) (src : Bs) (hs : src.length < 4611686018427387904) : Calls Tryz.prog 48 #[.string (mkS src)] w (ScanPost w src) := by
  refine ir48_calls fun ρ r0 rg => ?_
  have rg' : ρ 1000000000 = .tuple #[] := rg
  simp [ir48, r0]
  refine eff_alloc z28 fun L W1 hL hE1 hbL hs1 => ?_
  simp
  refine eff_alloc z25 fun C W2 hC hE2 hbC hs2 => ?_
  simp
  refine eff_alloc z31 fun F W3 hF hE3 hbF hs3 => ?_
  have hE13 := (hE1.trans' hE2).trans' hE3
  have hbL3 := (hbL.ext hE2).ext hE3
  have hbC3 := hbC.ext hE3
  have z1 := hE1.size
  have z2 := hE2.size
  have z3 := hE3.size
  by_cases hlen : 20000 < src.length
  · have hlI : (20000 : Int) < src.length := by omega
    have hsc : scan src = .bad 2 0 := by rw [scan, if_pos hlen]
    simp [hlI, bu31a, r0]
    refine eff_store1 (B := L) (i := 0) (by simp) hbL3 (by simp) rfl rfl sz28 fun W4 hO4 hb4 => ?_
    simp
    refine eff_store1 (B := C) (i := 0) (by simp) (hO4.blk hbC3 (by omega)) (by simp) rfl rfl sz25 fun W5 hO5 hb5 => ?_
    simp
    refine eff_storeN (B := F) (by simp) (hO5.blk (hO4.blk hbF (by omega)) (by omega)) (by simp [Value.cells]) (by simp [Value.cells]) (by simpa [Value.cells] using sz31) fun W6 hO6 hb6 => ?_
    simp [Value.cells] at hb4 hb5 hb6 ⊢
    refine end_none (by simp [gS, rg']) ?_
    refine retS (by simp) (hO6.blk (hO5.blk hb4 (by omega)) (by omega)) (by simp) (hO6.blk hb5 (by omega)) (by simp) hb6 rfl ?_
    refine ⟨_, _, by rw [hsc]; rfl, by rw [hsc]; exact Own.nil _ _ _ _, by rw [hsc]; exact Own.nil _ _ _ _, ?_⟩
    exact hO6.ext (hO5.ext (hO4.ext hE13 hL) (by omega)) (by omega)
  · have hlI : ¬ (20000 : Int) < src.length := by omega
    have hsc : scan src = scanAt src 1 := by rw [scan, if_neg hlen]
    simp [hlI, r0, ir48_k2]
    refine eff_defer (f := 63) (caps := #[.pointer (some ⟨L, 0, none⟩), .pointer (some ⟨C, 0, none⟩), .pointer (some ⟨F, 0, none⟩)]) (by simp) trivial ?_
    simp [gS, rg', r0, bu87, bu89]
    refine eff_box fun B W4 hB hE4 hbB hs4 => ?_
    simp [Value.cells] at hbB ⊢
    have hE14 := hE13.trans' hE4
    have hbL4 := hbL3.ext hE4
    have hbC4 := hbC3.ext hE4
    have hbF4 := hbF.ext hE4
    have hS4 : Sc w.heap.size B W4 src 0 1 [] (.slice none 0 0) := ⟨by simpa using hbB, Own.nil _ _ _ _, by simp [Value.ownBlock], by omega, hE14.size, Nat.zero_le _, by omega, by omega, by omega, by simp⟩
    obtain ⟨Q, hQ⟩ : ∃ Q, Q = ksD Tryz.prog [.cell1 2, .cell1 3, .cellN 4 2] (ScanPost w src) := ⟨_, rfl⟩
    have hQrt : Q.rt = endK Tryz.prog [.cell1 2, .cell1 3, .cellN 4 2] (ScanPost w src) .returning := by rw [hQ]; rfl
    have hQpn : ∀ ρ c w', Q.pn ρ c w' = endK Tryz.prog [.cell1 2, .cell1 3, .cellN 4 2] (ScanPost w src) (.panicking c) ρ w' := by rw [hQ]; intros; rfl
    have key : ∀ ρ8 : Env, ρ8 2 = .pointer (some ⟨L, 0, none⟩) → ρ8 3 = .pointer (some ⟨C, 0, none⟩) → ρ8 4 = .pointer (some ⟨F, 0, none⟩) → ρ8 5 = .pointer (some ⟨B, 0, none⟩) → ρ8 17 = .func (.func 64) #[.pointer (some ⟨B, 0, none⟩)] #[] →
        ρ8 gS = .tuple #[.func (.func 63) #[] #[.pointer (some ⟨L, 0, none⟩), .pointer (some ⟨C, 0, none⟩), .pointer (some ⟨F, 0, none⟩)]] →
        (IR.raw ir48_c0).wp ⟨Tryz.prog, 29, ir48_V, dAny⟩ (ir48_k1.wp ⟨Tryz.prog, 29, ir48_V, dAny⟩ (endK Tryz.prog [.cell1 2, .cell1 3, .cellN 4 2] (ScanPost w src) .returning) Q) (Q.blk 0 (ir48_k1.wp ⟨Tryz.prog, 29, ir48_V, dAny⟩ (endK Tryz.prog [.cell1 2, .cell1 3, .cellN 4 2] (ScanPost w src) .returning) Q)) ρ8 W4 := by
      intro ρ8 e2 e3 e4 e5 e17 eg
      obtain ⟨bA, bB, hrf, hpA, hpB⟩ := ir48_rf0
      rw [hrf]
      refine raw_rangeM (gf := 64) (fs := #[.pointer (some ⟨B, 0, none⟩)]) (lb := #[]) (by simp [dAny]) (by simpa using e17) (by decide) (by simp) fun a rec W5 hag hrt hrp hra hrb hrs hrpd hE5 hsz5 hL5 => ?_
      have hJ0 : SJ w B L C F (W4.heap.size + 1) W4.heap.size rec [] (.slice none 0 0) (.slice none 0 0) W5 :=
        ⟨hE14.trans' hE5, hL5, hbL4.ext hE5, hbC4.ext hE5, hbF4.ext hE5, Own.nil _ _ _ _, by simp [Value.ownBlock], by simp [Value.ownBlock]; omega, by simp [Value.ownBlock]⟩
      simp only [List.append_toArray, List.cons_append, List.nil_append, Array.append_empty]
      refine (it_tokens (base := w.heap.size) (B := B) (l := W4.heap.size + 1) (s := src) (cv0 := .slice none 0 0) (fun ts cv W => (∃ lv, SJ w B L C F (W4.heap.size + 1) W4.heap.size rec ts cv lv W) ∧ ∀ k, cv.ownBlock = some k → w.heap.size ≤ k) (fun ts cv W h => ?_) (fun ts cv cv' W W' h hT => ?_) (fun ts cv t W k line coms hJ hS hlen' => ?_) ⟨⟨_, hJ0⟩, by simp [Value.ownBlock]⟩ (hS4.ext hE5)).mono ?_
      · obtain ⟨⟨lv, h⟩, _⟩ := h
        exact hG.ext h.ext
      · obtain ⟨⟨lv, h⟩, hc⟩ := h
        refine ⟨⟨lv, h.turn hT (by omega) hc⟩, fun k hk => ?_⟩
        rcases hT.own with e | e
        · exact hc k (e ▸ hk)
        · have := e k hk; have := h.ext.size; omega
      · obtain ⟨⟨lv, h⟩, hc⟩ := hJ
        refine yield_of h.lp hrs hag hrt hrp (by rfl) (by decide) (by rw [hra]; exact hpA) (by rw [hrb]; exact hpB) ?_
        simp [parEnv, ir48_a0]
        refine eff_alloc z38 fun Bt W6 hBt hE6 hbt _ => ?_
        simp
        refine eff_storeN (B := Bt) (by simp) hbt (by simp [Value.cells, encK]) (by simp [Value.cells, encK]) (by simpa [Value.cells] using sz38) fun W7 hO7 hb7 => ?_
        simp [Value.cells, encK] at hb7
        have off := hS.off hBt
        have hS7 := (hS.ext hE6).only hO7 off.1 off.2
        have h7 : SJ w B L C F (W4.heap.size + 1) W4.heap.size rec ts cv lv W7 := h.turn ((Tn.ext hE6).new hO7 hBt) (by omega) hc
        simp
        refine ⟨h7.lp, fun W8 hO8 hL8 => ?_⟩
        have h4s := h7.nc (W4.heap.size + 1) (by simp)
        have h8 : SJ w B L C F (W4.heap.size + 1) W4.heap.size _ ts cv lv W8 := h7.round hO8 (by have := hE14.size; omega) ⟨by omega, by omega, by omega⟩ hL8
        have hS8 := hS7.only hO8 h4s.2 h4s.1
        have hltl := h7.lp.lt
        have hb8 := hO8.blk hb7 (by have := h.lp.lt; omega)
        simp [ir48_b0, e2, h8.bl.cell, hb8.cell]
        refine eff_lit si28 (by decide) (by decide) (by simp [Value.cells]) fun B9 W9 hB9 hE9 hb9 _ => ?_
        simp [Value.cells] at hb9
        have h9 := h8.turn (Tn.ext hE9) (by omega) hc
        have hS9 := hS8.ext hE9
        have hO9 : Own w.heap.size 38 3 W9 (.slice (some ⟨B9, 0, none⟩) 1 1) [.int .u8 (t.kind : Int), .string (mkS t.text), .int .i64 t.line] := Own.lit hb9 rfl (by have := h8.ext.size; omega) (by decide)
        obtain ⟨bb, ri, hbb⟩ := ri28
        simp
        refine eff_appendG ri h9.ext.size (by simp) (by simp) h9.own (own_cells hO9) (by simp; exact ⟨rfl, rfl, rfl⟩) (by rw [toksV_len]; simp; omega) (by
          rw [toksV_len]
          have : (ts.length * 3 + 3) * bb ≤ (ts.length * 3 + 3) * 64 := Nat.mul_le_mul_left _ hbb
          simp; omega) fun lv' W10 ho10 hg10 hf10 => ?_
        have hbl10 : Blk W10 L #[lv] 28 := ⟨(hg10.block L h9.bl.lt (fun e => h9.ne L (by simp) e.symm)).trans h9.bl.heap⟩
        have hone := own_one ho10
        simp [e2]
        refine eff_store1 (B := L) (i := 0) (by simp [e2]) hbl10 (by simp) (by simpa using hone.1) (by simpa using hone.2) sz28 fun W11 hO11 hb11 => ?_
        simp at hb11
        have h11 : SJ w B L C F (W4.heap.size + 1) W4.heap.size _ (ts ++ [t]) cv lv' W11 := h9.app hg10 (by rw [toksV_snoc]; exact ho10) hf10 hO11 hb11 ⟨by omega, by omega, by omega, by omega⟩ hS9.blk.lt (fun k hk => (hS9.own.blk k hk).2) hL
        have hcl : cv.ownBlock = none ∨ cv.ownBlock ≠ lv.ownBlock := by
          cases hk : cv.ownBlock with
          | none => exact .inl rfl
          | some k => exact .inr fun e => h9.nn k e.symm hk
        have hnL := h9.nc L (by simp)
        have hS11 := (hS9.gb hg10 (h9.ne B (by simp)) hcl).only hO11 hnL.2 hnL.1
        simp [roundK]
        refine ⟨h11.lp, fun W12 hO12 hL12 => ?_⟩
        exact ⟨⟨⟨lv', h11.round hO12 (by have := hE14.size; omega) ⟨by omega, by omega, by omega⟩ (hL12.ready hrs hrpd)⟩, hc⟩, hS11.only hO12 h4s.2 h4s.1⟩
      · rintro e W6 (⟨v, ts, coms, cv, line, rfl, hsc', ⟨⟨lv, h⟩, hc⟩, hS6⟩ | ⟨er, line, ts, cv, rfl, hsc', ⟨⟨lv, h⟩, hc⟩⟩)
        · refine ⟨.ready, none, by simp, h.lp.ready' hrs hrpd, fun W7 hO7 hL7 => ?_⟩
          have hl4 := h.nc (W4.heap.size + 1) (by simp)
          have h7 := h.round hO7 (by have := hE14.size; omega) ⟨by omega, by omega, by omega⟩ hL7
          have hS7 := hS6.only hO7 hl4.2 hl4.1
          have nB := (h7.nc L (by simp)).2
          have nC := (h7.nc C (by simp)).2
          simp only [ir48_k1, ir48_k0, wpi_seq]
          refine raw_ord ir48_o8_ok (fun W => Blk W L #[lv] 28 ∧ Blk W B (scC src src.length line cv) 89) (fun W8 hE8 _ => ?_) (by rw [hQ]; exact sc_hpn (by simp [OT.takes, ir48_o8, gS]))
          have h8 := h7.turn (Tn.ext hE8) (by omega) hc
          have hS8 := hS7.ext hE8
          refine ⟨⟨h8.bl, hS8.blk⟩, ?_⟩
          have cL : ∀ W, Blk W L #[lv] 28 → W.cell? ⟨L, 0, none⟩ = some lv := fun W h => by rw [h.cell]; rfl
          have cB : ∀ W, Blk W B (scC src src.length line cv) 89 → W.cell? ⟨B, 3, none⟩ = some cv := fun W h => by rw [h.cell]; rfl
          have hone := own_one h8.own
          have honc := own_one hS8.own
          have hLB := (h8.nc L (by simp)).2
          have hCB := (h8.nc C (by simp)).2
          have fin : ∀ (ρ9 : Env) (Wa Wb Wc : World), ρ9 2 = .pointer (some ⟨L, 0, none⟩) → ρ9 3 = .pointer (some ⟨C, 0, none⟩) → ρ9 4 = .pointer (some ⟨F, 0, none⟩) →
              ρ9 gS = .tuple #[.int .i64 W4.heap.size, .func (.func 63) #[] #[.pointer (some ⟨L, 0, none⟩), .pointer (some ⟨C, 0, none⟩), .pointer (some ⟨F, 0, none⟩)]] →
              Only L W8 Wa → Blk Wa L #[lv] 28 → Only C Wa Wb → Blk Wb C #[cv] 25 → Only F Wb Wc → Blk Wc F #[.int .i64 0, .int .i64 0] 31 → endK Tryz.prog [.cell1 2, .cell1 3, .cellN 4 2] (ScanPost w src) .returning ρ9 Wc := by
            intro ρ9 Wa Wb Wc f2 f3 f4 fg oa ba ob bb oc bc
            have hcol : Wc.heap[W4.heap.size]? = some (.deferred (some [])) := by
              rw [oc.block _ (by omega), ob.block _ (by omega), oa.block _ (by omega)]; exact h8.lp.col
            simp only [endK, fg]
            refine leaves_mark (by simp) hcol fun W9 hO9 => ?_
            refine leaves_fn (by simp) cb63 (d_none.mono ?_)
            rintro e u' w' ⟨⟨v, rfl⟩, rfl, rfl⟩
            refine leaves_ret (retS f2 (hO9.blk (oc.blk (ob.blk ba (by omega)) (by omega)) (by omega)) f3 (hO9.blk (oc.blk bb (by omega)) (by omega)) f4 (hO9.blk bc (by omega)) rfl ?_)
            have hwo : ∀ k, k ∈ [L, C, F, W4.heap.size] → lv.ownBlock ≠ some k ∧ cv.ownBlock ≠ some k := by
              intro k hk
              simp only [List.mem_cons, List.mem_nil_iff, or_false] at hk
              rcases hk with rfl | rfl | rfl | rfl
              · exact ⟨h8.ne _ (by simp), (h8.nc _ (by simp)).1⟩
              · exact ⟨h8.ne _ (by simp), (h8.nc _ (by simp)).1⟩
              · exact ⟨h8.ne _ (by simp), (h8.nc _ (by simp)).1⟩
              · exact ⟨h8.ne _ (by simp), (h8.nc _ (by simp)).1⟩
            have same : ∀ k, k ≠ L → k ≠ C → k ≠ F → k ≠ W4.heap.size → w'.heap[k]? = W8.heap[k]? := fun k k1 k2 k3 k4 => by
              rw [hO9.block k k4, oc.block k k3, ob.block k k2, oa.block k k1]
            have hsr : scan src = .ok ts coms := hsc.trans hsc'
            refine ⟨lv, cv, by rw [hsr]; rfl, ?_, ?_, ?_⟩
            · rw [hsr]
              refine Own.same h8.own fun k hk => same k ?_ ?_ ?_ ?_
              · rintro rfl; exact (hwo k (by simp)).1 hk
              · rintro rfl; exact (hwo k (by simp)).1 hk
              · rintro rfl; exact (hwo k (by simp)).1 hk
              · rintro rfl; exact (hwo _ (by simp)).1 hk
            · rw [hsr]
              refine Own.same hS8.own fun k hk => same k ?_ ?_ ?_ ?_
              · rintro rfl; exact (hwo k (by simp)).2 hk
              · rintro rfl; exact (hwo k (by simp)).2 hk
              · rintro rfl; exact (hwo k (by simp)).2 hk
              · rintro rfl; exact (hwo _ (by simp)).2 hk
            · exact hO9.ext (oc.ext (ob.ext (oa.ext h8.ext hL) (by omega)) (by omega)) (by have := hE14.size; omega)
          have stL : ∀ (K : Env → World → Prop) (ρ9 : Env), ρ9 2 = .pointer (some ⟨L, 0, none⟩) → ρ9 23 = lv → (∀ Wa, Only L W8 Wa → Blk Wa L #[lv] 28 → (Blk Wa L #[lv] 28 ∧ Blk Wa B (scC src src.length line cv) 89) → K ρ9 Wa) → effW Tryz.prog Q.noRd none (.store 28 (.tmp 2) (.tmp 23)) 0 K ρ9 W8 := by
            intro K ρ9 f2 f23 hk
            refine eff_store1 (B := L) (i := 0) (by simpa using f2) h8.bl (by simp) (by simp [f23, hone.1]) (by simp [f23, hone.2]) sz28 fun Wa oa ba => ?_
            have ba' : Blk Wa L #[lv] 28 := by simpa [f23] using ba
            exact hk Wa oa ba' ⟨ba', oa.blk hS8.blk (Ne.symm hLB)⟩
          have stC : ∀ (K : Env → World → Prop) (ρ9 : Env) (Wa : World), Only L W8 Wa → Blk Wa L #[lv] 28 → ρ9 3 = .pointer (some ⟨C, 0, none⟩) → ρ9 27 = cv → (∀ Wb, Only C Wa Wb → Blk Wb C #[cv] 25 → (Blk Wb L #[lv] 28 ∧ Blk Wb B (scC src src.length line cv) 89) → K ρ9 Wb) → effW Tryz.prog Q.noRd none (.store 25 (.tmp 3) (.tmp 27)) 0 K ρ9 Wa := by
            intro K ρ9 Wa oa ba f3 f27 hk
            refine eff_store1 (B := C) (i := 0) (by simpa using f3) (oa.blk h8.bc (by omega)) (by simp) (by simp [f27, honc.1]) (by simp [f27, honc.2]) sz25 fun Wb ob bb => ?_
            have bb' : Blk Wb C #[cv] 25 := by simpa [f27] using bb
            exact hk Wb ob bb' ⟨ob.blk ba (by omega), ob.blk (oa.blk hS8.blk (Ne.symm hLB)) (Ne.symm hCB)⟩
          have stF : ∀ (ρ9 : Env) (Wa Wb : World), Only L W8 Wa → Blk Wa L #[lv] 28 → Only C Wa Wb → Blk Wb C #[cv] 25 → ρ9 2 = .pointer (some ⟨L, 0, none⟩) → ρ9 3 = .pointer (some ⟨C, 0, none⟩) → ρ9 4 = .pointer (some ⟨F, 0, none⟩) → ρ9 28 = .agg #[.int .i64 0, .int .i64 0] →
              ρ9 gS = .tuple #[.int .i64 W4.heap.size, .func (.func 63) #[] #[.pointer (some ⟨L, 0, none⟩), .pointer (some ⟨C, 0, none⟩), .pointer (some ⟨F, 0, none⟩)]] → effW Tryz.prog Q.noRd none (.store 31 (.tmp 4) (.tmp 28)) 0 (fun ρ' w' => Q.rt ρ' w') ρ9 Wb := by
            intro ρ9 Wa Wb oa ba ob bb f2 f3 f4 f28 fg
            refine eff_storeN (B := F) (by simpa using f4) (ob.blk (oa.blk h8.bf (by omega)) (by omega)) (by simp [f28, Value.cells]) (by simp [f28, Value.cells]) (by simpa [Value.cells] using sz31) fun Wc oc bc => ?_
            simp [f28, Value.cells] at bc
            simp [hQrt]
            exact fin _ Wa Wb Wc f2 f3 f4 fg oa ba ob bb oc bc
          have eg' : (consD (markD W4.heap.size) (ρ8 gS)) = .tuple #[.int .i64 W4.heap.size, .func (.func 63) #[] #[.pointer (some ⟨L, 0, none⟩), .pointer (some ⟨C, 0, none⟩), .pointer (some ⟨F, 0, none⟩)]] := by rw [eg]; simp
          simp -implicitDefEqProofs +contextual [ir48_o8, e2, e5, cL, cB, h8.bl, hS8.blk]
          refine ⟨?_, ?_⟩
          · rw [bu31z]
            dsimp only [onO]
            refine stL _ _ (by simp [e2]) (by simp) fun Wa oa ba hSa => ⟨hSa, ?_⟩
            refine stC _ _ Wa oa ba (by simp [e3]) (by simp) fun Wb ob bb hSb => ⟨hSb, ?_⟩
            exact stF _ Wa Wb oa ba ob bb (by simp [e2]) (by simp [e3]) (by simp [e4]) (by simp) (by simp [eg'])
          · refine stL _ _ (by simp [e2]) (by simp) fun Wa oa ba hSa => ⟨hSa, ?_, ?_⟩
            · rw [bu31z]
              dsimp only [onO]
              refine ⟨hSa, ?_⟩
              refine stC _ _ Wa oa ba (by simp [e3]) (by simp) fun Wb ob bb hSb => ⟨hSb, ?_⟩
              exact stF _ Wa Wb oa ba ob bb (by simp [e2]) (by simp [e3]) (by simp [e4]) (by simp) (by simp [eg'])
            · refine stC _ _ Wa oa ba (by simp [e3]) (by simp) fun Wb ob bb hSb => ⟨hSb, ?_⟩
              rw [bu31z]
              exact ⟨hSb, stF _ Wa Wb oa ba ob bb (by simp [e2]) (by simp [e3]) (by simp [e4]) (by simp) (by simp [eg'])⟩
        · show Q.pn _ (brkC er line) _
          have eg' : (consD (markD W4.heap.size) (ρ8 gS)) = .tuple #[.int .i64 W4.heap.size, .func (.func 63) #[] #[.pointer (some ⟨L, 0, none⟩), .pointer (some ⟨C, 0, none⟩), .pointer (some ⟨F, 0, none⟩)]] := by rw [eg]; simp
          have hgs : upd ρ8 gS (consD (markD W4.heap.size) (ρ8 gS)) gS = .tuple #[.int .i64 W4.heap.size, .func (.func 63) #[] #[.pointer (some ⟨L, 0, none⟩), .pointer (some ⟨C, 0, none⟩), .pointer (some ⟨F, 0, none⟩)]] := by simp [eg']
          rw [hQpn]
          simp only [endK, hgs]
          have hlt := h.lp.lt
          refine leaves_mark (by simp) h.lp.col fun W9 hO9 => ?_
          refine leaves_fn (by simp) cb63 ((d_brk (hO9.blk h.bl (by omega)) (hO9.blk h.bc (by omega)) (hO9.blk h.bf (by omega)) rfl (by omega) (by omega) (by omega)).mono ?_)
          rintro e u' w' ⟨⟨v, rfl⟩, hu, ⟨Wx, ex, Wy, oy, Wz, oz, ow⟩, cl, cc, cf⟩
          show LeavesV _ _ _ _ [] (settle u') w'
          rw [hu]
          refine leaves_ret (retS (by simp [e2]) cl (by simp [e3]) cc (by simp [e4]) cf rfl ?_)
          have hsr : scan src = .bad er line := hsc.trans hsc'
          refine ⟨_, _, by rw [hsr]; rfl, by rw [hsr]; exact Own.nil _ _ _ _, by rw [hsr]; exact Own.nil _ _ _ _, ?_⟩
          have h9 : Ext w W9 := hO9.ext h.ext (by have := hE14.size; omega)
          exact ow.ext (oz.ext (oy.ext (h9.trans' ex) hL) (by omega)) (by omega)
    rw [hQ] at key
    exact key _ (by simp) (by simp) (by simp) (by simp) (by simp) (by simp [gS])
end Go.L01
/- Layer 1: contracts: the reference's reading; Scan, Comments; lists compared. -/
namespace Go.L01
open Go Go.Eng Go.RowKit Go.Proofs
set_option maxRecDepth 100000
set_option maxHeartbeats 2000000

/-- A slice of tokens. -/
structure SlK (w : World) (v : Value) (ts : List Tok) : Prop where
  is : isSl v = true
  len : slLen v = ts.length
  bd : ts.length < 1537228672809129301
  cell : ∀ (i : Nat) (h : i < ts.length), w.cell? (slAddr v (i * 3)) = some (.int .u8 (ts[i].kind : Int)) ∧ w.cell? (slAddr v (i * 3 + 1)) = some (.string (mkS ts[i].text)) ∧ w.cell? (slAddr v (i * 3 + 2)) = some (.int .i64 ts[i].line)
theorem SlK.ext {w w' : World} {v : Value} {ts : List Tok} (h : SlK w v ts) (hE : Ext w w') : SlK w' v ts :=
  ⟨h.is, h.len, h.bd, fun i hi => let ⟨a, b, c⟩ := h.cell i hi; ⟨hE.cell a, hE.cell b, hE.cell c⟩⟩
theorem toksV_get : ∀ (ts : List Tok) (i : Nat) (h : i < ts.length), (toksV ts)[i * 3]? = some (.int .u8 (ts[i].kind : Int)) ∧ (toksV ts)[i * 3 + 1]? = some (.string (mkS ts[i].text)) ∧ (toksV ts)[i * 3 + 2]? = some (.int .i64 ts[i].line)
  | t :: ts, 0, _ => by simp [toksV]
  | t :: ts, i + 1, h => by
    have := toksV_get ts i (by simpa using h)
    have e : ∀ j, (toksV (t :: ts))[(i + 1) * 3 + j]? = (toksV ts)[i * 3 + j]? := fun j => by
      rw [show (i + 1) * 3 + j = (i * 3 + j) + 3 by omega]
      simp [toksV]
    have e0 := e 0
    simp only [Nat.add_zero] at e0
    rw [e0, e 1, e 2]
    simpa using this
theorem SlK.own {base : Nat} {w : World} {v : Value} {ts : List Tok} (h : Own base 38 3 w v (toksV ts)) (hb : ts.length < 1537228672809129301) : SlK w v ts := by
  have hc := own_cells h
  have hl := hc.len
  rw [toksV_len] at hl
  refine ⟨hc.is, by omega, hb, fun i hi => ?_⟩
  obtain ⟨e0, e1, e2⟩ := toksV_get ts i hi
  have hlen : (toksV ts).length = ts.length * 3 := toksV_len ts
  have g : ∀ j x, j < ts.length * 3 → (toksV ts)[j]? = some x → w.cell? (slAddr v j) = some x := fun j x hj hx => by
    rw [hc.cell j (by omega), ← List.getElem?_eq_getElem, hx]
  exact ⟨g _ _ (by omega) e0, g _ _ (by omega) e1, g _ _ (by omega) e2⟩
theorem SlK.nil (w : World) : SlK w (.slice none 0 0) [] := ⟨rfl, rfl, by simp, fun i h => by simp at h⟩
theorem toks_le (s : Bs) (l : Int) : (scanAt s l).toks.length ≤ s.length ∧ (scanAt s l).coms.length ≤ s.length := by
  refine scan_cases (P := fun s l => (scanAt s l).toks.length ≤ s.length ∧ (scanAt s l).coms.length ≤ s.length) ?_ ?_ ?_ ?_ ?_ ?_ s l
  · intro l; simp [scanAt_nil, Res.toks, Res.coms]
  · intro r l h; rw [scanAt_nl]; simp; omega
  · intro c r l hc h; rw [scanAt_sp r l hc]; simp; omega
  · intro a r l ha hr h
    rw [scanAt_com l ha hr]
    cases hx : scanAt r l with
    | bad e x => simp [Res.add, Res.toks, Res.coms]
    | ok ts cs =>
      rw [hx] at h
      simp [Res.add, Res.toks, Res.coms] at h ⊢; omega
  · intro c r l h1 h2 h3 h4 h; rw [scanAt_err l h1 h2 h3 h4 h]; simp [Res.toks, Res.coms]
  · intro k s r l hr hf h
    rw [scanAt_tok (first_alone hr).1 hf (right_bytes hr)]
    have h0 : 0 < s.length := List.length_pos_iff.2 (first_alone hr).1
    cases hx : scanAt r l with
    | bad e x => simp [Res.add, Res.toks, Res.coms]
    | ok ts cs =>
      rw [hx] at h
      simp [Res.add, Res.toks, Res.coms] at h ⊢; omega
theorem scan_le (s : Bs) : (scan s).toks.length ≤ 20000 ∧ (scan s).coms.length ≤ 20000 := by
  unfold scan
  split
  · simp [Res.toks, Res.coms]
  · have := toks_le s 1
    omega

@[simp] theorem cb48 : callB Tryz.prog 48 = true := by kernel_rfl
@[simp] theorem cb49 : callB Tryz.prog 49 = true := by kernel_rfl
@[simp] theorem cb65 : callB Tryz.prog 65 = true := by kernel_rfl
@[simp] theorem cb66 : callB Tryz.prog 66 = true := by kernel_rfl

theorem ownMono {b b' e sz : Nat} {w : World} {v : Value} {xs : List Value} (hb : b ≤ b') (h : Own b' e sz w v xs) : Own b e sz w v xs := by
  rcases h with h | ⟨g, off, n, cap, cur, rfl, hbs, r⟩
  · exact .inl h
  · exact .inr ⟨g, off, n, cap, cur, rfl, by omega, r⟩
def fV (src : Bs) : Value := .agg #[.int .i64 (scan src).err, .int .i64 (scan src).at]
def ScanR (w : World) (src : Bs) : Ending → World → Prop := fun e w' => ∃ v, e = .returned (.tuple #[v, fV src]) ∧ Own w.heap.size 38 3 w' v (toksV (scan src).toks) ∧ Ext w w'
def ComsR (w : World) (src : Bs) : Ending → World → Prop := fun e w' => ∃ c, e = .returned (.tuple #[c, fV src]) ∧ Own w.heap.size 9 1 w' c ((scan src).coms.map encT) ∧ Ext w w'
theorem retT {t z C : Nat} {x : Value} {cs : Array Value} {V : TypeId} {R : Ending → World → Prop} {ρ : Env} {w : World} (hp : ρ t = x) (hz : ρ z = .pointer (some ⟨C, 0, none⟩)) (hd : Blk w C cs V) (hn : cs.size = 2) (h : R (.returned (.tuple #[x, .agg cs])) w) : retK [.tmp t, .cellN z 2] R ρ w := by
  have h3 : pv1 w (.loadN 2) (.pointer (some ⟨C, 0, none⟩)) = some (.agg cs) := by rw [pv1_loadN, ← hn, row_blk hd]; rfl
  simp only [retK, resVals, RV.val, hp, hz, h3, Option.map_some, Option.bind_some]
  exact h

theorem t_Scan {w : World} (hG : G w) (src : Bs) (hs : src.length < 4611686018427387904) : Calls Tryz.prog 23 #[.string (mkS src)] w (ScanR w src) := by
  refine ir23_calls fun ρ r0 => ?_
  simp [ir23, r0]
  refine eff_alloc z31 fun B W hB hE hb _ => ?_
  simp [r0]
  refine (t_scanned (hG.ext hE) src hs).mono ?_
  rintro _ W1 ⟨v, c, rfl, ho, _, hE1⟩
  simp
  refine eff_alloc z31 fun B2 W2 hB2 hE2 hb2 _ => ?_
  simp
  refine eff_storeN (B := B2) (by simp) hb2 (by simp [Value.cells]) (by simp [Value.cells]) (by simpa [Value.cells] using sz31) fun W3 hO3 hb3 => ?_
  simp [Value.cells] at hb3 ⊢
  have hbB := hO3.blk ((hb.ext hE1).ext hE2) (by have := hb.lt; have := hE1.size; omega)
  refine raw_ord ir23_o2_ok (fun W => Blk W B2 #[.int .i64 (scan src).err, .int .i64 (scan src).at] 31) fun W4 hE4 _ => ⟨hb3.ext hE4, ?_⟩
  have hc : ∀ W, Blk W B2 #[.int .i64 (scan src).err, .int .i64 (scan src).at] 31 → ∀ i, W.cell? ⟨B2, i, none⟩ = #[Value.int .i64 (scan src).err, .int .i64 (scan src).at][i]? := fun W h => h.cell
  simp +contextual -implicitDefEqProofs [ir23_o2, hc, hb3.ext hE4]
  refine eff_storeN (B := B) (by simp) (hbB.ext hE4) (by simp [Value.cells]) (by simp [Value.cells]) (by simpa [Value.cells] using sz31) fun W5 hO5 hb5 => ?_
  simp [Value.cells] at hb5
  simp [ir23_k0]
  refine retT (x := v) (by simp) (by simp) hb5 rfl ?_
  have hsz := hE.size
  have hE14 : Ext W1 W4 := (hO3.ext hE2 (by omega)).trans' hE4
  have h5 : Own w.heap.size 38 3 W5 v (toksV (scan src).toks) := by
    refine Own.same (w := W4) ?_ fun k hk => hO5.block k fun e => ?_
    · have h1 : Own W.heap.size 38 3 W4 v (toksV (scan src).toks) := ho.ext hE14
      exact ownMono hsz h1
    · have := (ho.blk k hk).1
      have := hb.lt
      omega
  exact ⟨v, rfl, h5, hO5.ext ((hE.trans' hE1).trans' hE14) hB⟩
theorem t_Comments {w : World} (hG : G w) (src : Bs) (hs : src.length < 4611686018427387904) : Calls Tryz.prog 25 #[.string (mkS src)] w (ComsR w src) := by
  refine ir25_calls fun ρ r0 => ?_
  simp [ir25, r0]
  refine eff_alloc z31 fun B W hB hE hb _ => ?_
  simp [r0]
  refine (t_scanned (hG.ext hE) src hs).mono ?_
  rintro _ W1 ⟨c, v, rfl, _, ho, hE1⟩
  simp
  refine eff_alloc z31 fun B2 W2 hB2 hE2 hb2 _ => ?_
  simp
  refine eff_storeN (B := B2) (by simp) hb2 (by simp [Value.cells]) (by simp [Value.cells]) (by simpa [Value.cells] using sz31) fun W3 hO3 hb3 => ?_
  simp [Value.cells] at hb3 ⊢
  have hbB := hO3.blk ((hb.ext hE1).ext hE2) (by have := hb.lt; have := hE1.size; omega)
  refine raw_ord ir25_o2_ok (fun W => Blk W B2 #[.int .i64 (scan src).err, .int .i64 (scan src).at] 31) fun W4 hE4 _ => ⟨hb3.ext hE4, ?_⟩
  have hc : ∀ W, Blk W B2 #[.int .i64 (scan src).err, .int .i64 (scan src).at] 31 → ∀ i, W.cell? ⟨B2, i, none⟩ = #[Value.int .i64 (scan src).err, .int .i64 (scan src).at][i]? := fun W h => h.cell
  simp +contextual -implicitDefEqProofs [ir25_o2, hc, hb3.ext hE4]
  refine eff_storeN (B := B) (by simp) (hbB.ext hE4) (by simp [Value.cells]) (by simp [Value.cells]) (by simpa [Value.cells] using sz31) fun W5 hO5 hb5 => ?_
  simp [Value.cells] at hb5
  simp [ir25_k0]
  refine retT (x := v) (by simp) (by simp) hb5 rfl ?_
  have hsz := hE.size
  have hE14 : Ext W1 W4 := (hO3.ext hE2 (by omega)).trans' hE4
  have h5 : Own w.heap.size 9 1 W5 v ((scan src).coms.map encT) := by
    refine Own.same (w := W4) ?_ fun k hk => hO5.block k fun e => ?_
    · have h1 : Own W.heap.size 9 1 W4 v ((scan src).coms.map encT) := ho.ext hE14
      exact ownMono hsz h1
    · have := (ho.blk k hk).1
      have := hb.lt
      omega
  exact ⟨v, rfl, h5, hO5.ext ((hE.trans' hE1).trans' hE14) hB⟩

/-! ### The reference's reading -/
theorem cut0 (s : Bs) (n : Nat) : (mkS s).extract 0 n = mkS (s.take n) := by
  have := cut_ext s 0 n
  simpa using this
theorem r_first {w : World} (s : Bs) (hne : s ≠ []) (hs : s.length < 4611686018427387904) : Calls Tryz.prog 66 #[.string (mkS s)] w fun e w' => e = .returned (.tuple #[.int .u8 ((first s).1 : Int), .int .i64 ((first s).2.1 : Int), .int .i64 (first s).2.2]) ∧ Ext w w' := by
  have h0s : 0 < s.length := List.length_pos_iff.2 hne
  have hg : s.getD 0 0 = s[0] := by simp [List.getD_eq_getElem?_getD, h0s]
  have hx : s[0]? = some s[0] := List.getElem?_eq_getElem h0s
  refine ir66_calls fun ρ r0 => ?_
  simp [ir66, r0, hx]
  refine (r_letter s[0] w).mono ?_
  rintro _ w ⟨rfl, rfl⟩
  cases hl : letter s[0] with
  | true =>
    have hfr : first s = if isWord (s.take (runL s)) then (2, runL s, 0) else if 12 < runL s then (0, 0, 12) else (1, runL s, 0) := by
      unfold first
      rw [hg, if_pos hl]
    simp [r0]
    refine (r_run s hs _).mono ?_
    rintro _ w ⟨rfl, rfl⟩
    have hrl : runL s ≤ s.length := takeWhile_le _ _
    simp [r0, hrl, cut0]
    refine (r_isWord _).mono ?_
    rintro _ w2 ⟨rfl, hE⟩
    cases hw : isWord (s.take (runL s)) with
    | true =>
      rw [hw, if_pos rfl] at hfr
      simp [hfr]; exact hE
    | false =>
      rw [hw, if_neg (by simp)] at hfr
      by_cases h12 : 12 < runL s
      · have h12' : (12 : Int) < (runL s : Int) := by omega
        rw [if_pos h12] at hfr
        simp [ir66_k1, h12', hfr]; exact hE
      · have h12' : ¬ (12 : Int) < (runL s : Int) := by omega
        rw [if_neg h12] at hfr
        simp [ir66_k1, h12', hfr, ir66_k0]; exact hE
  | false =>
    simp [ir66_k8, r0]
    refine (r_digit s[0] w).mono ?_
    rintro _ w ⟨rfl, rfl⟩
    cases hd : digit s[0] with
    | true =>
      have hfr : first s = if isNumber (s.take (digitsL s)) then (3, digitsL s, 0) else (0, 0, 11) := by
        unfold first
        rw [hg, if_neg (by rw [hl]; simp), if_pos hd]
      simp [r0]
      refine (r_digits s hs _).mono ?_
      rintro _ w ⟨rfl, rfl⟩
      have hrl : digitsL s ≤ s.length := takeWhile_le _ _
      simp [r0, hrl, cut0]
      refine (r_isNumber _ (by simp; omega) _).mono ?_
      rintro _ w ⟨rfl, rfl⟩
      cases hw : isNumber (s.take (digitsL s)) with
      | true =>
        rw [hw, if_pos rfl] at hfr
        simp [hfr, ir66_k2]; exact ext_refl _
      | false =>
        rw [hw, if_neg (by simp)] at hfr
        simp [hfr]; exact ext_refl _
    | false =>
      have hfr : first s = if 1 < s.length ∧ isSign (s.take 2) = true then (4, 2, 0) else if isSign (s.take 1) then (4, 1, 0) else (0, 0, 10) := by
        unfold first
        rw [hg, if_neg (by rw [hl]; simp), if_neg (by rw [hd]; simp)]
      simp [ir66_k7]
      have rest : ∀ (ρ' : Env) (W : World), ρ' 0 = .string (mkS s) → Ext w W → ¬ (1 < s.length ∧ isSign (s.take 2) = true) → ir66_k5.wp ⟨Tryz.prog, 45, ir66_V, []⟩ (retK [.tmp 2, .tmp 3, .tmp 4] fun e w' => e = .returned (.tuple #[.int .u8 ((first s).1 : Int), .int .i64 ((first s).2.1 : Int), .int .i64 (first s).2.2]) ∧ Ext w w') (ksOf [.tmp 2, .tmp 3, .tmp 4] fun e w' => e = .returned (.tuple #[.int .u8 ((first s).1 : Int), .int .i64 ((first s).2.1 : Int), .int .i64 (first s).2.2]) ∧ Ext w w') ρ' W := by
        intro ρ' W r0 hE h2
        rw [if_neg h2] at hfr
        simp [ir66_k5]
        refine raw_ord ir66_o16_ok (Ext W) fun W1 hE1 _ => ⟨hE1, ?_⟩
        have h1l : (1 : Int) ≤ s.length := by omega
        simp -implicitDefEqProofs [ir66_o16, r0, h1l, cut0]
        refine r_signs.mono ?_
        rintro _ W2 ⟨v, rfl, hN⟩
        have hE2 := (hE.trans' hE1).trans' hN.2
        refine ⟨hE1.trans' hN.2, ?_⟩
        simp -implicitDefEqProofs
        refine (r_in (s.take 1) (hN.sl (by decide))).mono ?_
        rintro _ W2 ⟨rfl, rfl⟩
        have hsg : isSign (s.take 1) = signsL.contains (s.take 1) := rfl
        cases hc : signsL.contains (s.take 1) with
        | true =>
          rw [hsg, hc, if_pos rfl] at hfr
          simp [hc, ir66_k4, hfr]; exact hE2
        | false =>
          rw [hsg, hc, if_neg (by simp)] at hfr
          simp [hc, ir66_k4, ir66_k3, hfr]; exact hE2
      refine raw_ord ir66_o14_ok (Ext w) fun W1 hE1 _ => ⟨hE1, ?_⟩
      by_cases h1 : 1 < s.length
      · have h1' : (1 : Int) < s.length := by omega
        have h1'' : (2 : Int) ≤ s.length := by omega
        simp -implicitDefEqProofs [ir66_o14, r0, h1, h1', h1'', cut0]
        refine r_signs.mono ?_
        rintro _ W2 ⟨v, rfl, hN⟩
        have hE2 := hE1.trans' hN.2
        refine ⟨hE2, ?_⟩
        simp -implicitDefEqProofs
        refine (r_in (s.take 2) (hN.sl (by decide))).mono ?_
        rintro _ W2 ⟨rfl, rfl⟩
        have hsg : isSign (s.take 2) = signsL.contains (s.take 2) := rfl
        cases hc : signsL.contains (s.take 2) with
        | true =>
          rw [hsg, hc, if_pos ⟨h1, rfl⟩] at hfr
          simp [hc, ir66_k6, hfr]; exact hE2
        | false =>
          simp [hc, ir66_k6]
          exact rest _ _ (by simp [r0]) hE2 (by rw [hsg, hc]; simp)
      · have h1' : ¬ (1 : Int) < s.length := by omega
        simp -implicitDefEqProofs [ir66_o14, r0, h1, h1']
        simp [ir66_k6]
        refine ⟨hE1, rest _ _ ?_ hE1 (fun h => h1 h.1)⟩
        simp [r0]

theorem bu38 (k l : Int) (s : Bs) : Tryz.prog.built 38 [(0, .int .u8 k), (1, .string (mkS s)), (2, .int .i64 l)] = some #[.int .u8 k, .string (mkS s), .int .i64 l] := by kernel_rfl
def ReadR (w : World) (src : Bs) : Ending → World → Prop := fun e w' => ∃ v c, e = .returned (.tuple #[v, c, fV src]) ∧ Own w.heap.size 38 3 w' v (toksV (scan src).toks) ∧ Own w.heap.size 9 1 w' c ((scan src).coms.map encT) ∧ Ext w w'
theorem retTT {t u z C : Nat} {x y : Value} {cs : Array Value} {V : TypeId} {R : Ending → World → Prop} {ρ : Env} {w : World} (hp : ρ t = x) (hu : ρ u = y) (hz : ρ z = .pointer (some ⟨C, 0, none⟩)) (hd : Blk w C cs V) (hn : cs.size = 2) (h : R (.returned (.tuple #[x, y, .agg cs])) w) : retK [.tmp t, .tmp u, .cellN z 2] R ρ w := by
  have h3 : pv1 w (.loadN 2) (.pointer (some ⟨C, 0, none⟩)) = some (.agg cs) := by rw [pv1_loadN, ← hn, row_blk hd]; rfl
  simp only [retK, resVals, RV.val, hp, hu, hz, h3, Option.map_some, Option.bind_some]
  exact h
/-- The state of read's loop. -/
structure RdI (w : World) (src : Bs) (B : Nat) (ρ : Env) (W : World) (k : Nat) (line : Int) (ts : List Tok) (cs : List Bs) (tv cv : Value) : Prop where
  r0 : ρ 0 = .string (mkS src)
  r4 : ρ 4 = .pointer (some ⟨B, 0, none⟩)
  r5 : ρ 5 = tv
  r6 : ρ 6 = cv
  r7 : ρ 7 = .int .i64 line
  r8 : ρ 8 = .int .i64 (k : Int)
  kl : k ≤ src.length
  l0 : 1 ≤ line ∧ line ≤ (k : Int) + 1
  tl : ts.length ≤ k ∧ cs.length ≤ k
  ext : Ext w W
  blk : Blk W B #[.int .i64 0, .int .i64 0] 31
  o1 : Own w.heap.size 38 3 W tv (toksV ts)
  o2 : Own w.heap.size 9 1 W cv (cs.map encT)
  ap : ∀ k, tv.ownBlock = some k → cv.ownBlock ≠ some k
  nb : tv.ownBlock ≠ some B ∧ cv.ownBlock ≠ some B
  eq : scanAt src 1 = (scanAt (src.drop k) line).add ts cs
def kOf (ρ : Env) : Nat := (RowKit.intOf (ρ 8)).toNat
theorem r_read {w : World} (src : Bs) (hs : src.length < 4611686018427387904) : Calls Tryz.prog 49 #[.string (mkS src)] w (ReadR w src) := by
  refine ir49_calls fun ρ r0 => ?_
  simp [ir49, r0]
  refine eff_alloc z31 fun B W hB hE hb hsz => ?_
  by_cases hlen : 20000 < src.length
  · have hlI : (20000 : Int) < src.length := by omega
    have hsc : scan src = .bad 2 0 := by rw [scan, if_pos hlen]
    simp [hlI, bu31a, r0]
    refine eff_storeN (B := B) (by simp) hb (by simp [Value.cells]) (by simp [Value.cells]) (by simpa [Value.cells] using sz31) fun W3 hO3 hb3 => ?_
    simp [Value.cells] at hb3 ⊢
    refine retTT (x := .slice none 0 0) (y := .slice none 0 0) (by simp) (by simp) (by simp) hb3 rfl ?_
    exact ⟨_, _, by rw [fV, hsc]; rfl, by rw [hsc]; exact Own.nil _ _ _ _, by rw [hsc]; exact Own.nil _ _ _ _, hO3.ext hE hB⟩
  · have hlI : ¬ (20000 : Int) < src.length := by omega
    have hscn : scan src = scanAt src 1 := by rw [scan, if_neg hlen]
    simp [hlI, ir49_k5, r0]
    have hBn : ∀ (W' : World), Ext W W' → B < W'.heap.size := fun W' h => by have := h.size; omega
    refine loopI (fun ρ' W' => ∃ k line ts cs tv cv, RdI w src B ρ' W' k line ts cs tv cv) (fun ρ' _ => src.length - kOf ρ')
      ⟨0, 1, [], [], .slice none 0 0, .slice none 0 0, by simp [r0], by simp, by simp, by simp, by simp, by simp, Nat.zero_le _, by omega, by simp, hE, hb, Own.nil _ _ _ _, Own.nil _ _ _ _, by simp [Value.ownBlock], by simp [Value.ownBlock], by simp⟩ ?_
    rintro ρ' W' ⟨k, line, ts, cs, tv, cv, h⟩
    have hkO : kOf ρ' = k := by simp [kOf, h.r8]
    have hkl := h.kl
    have hl0 := h.l0
    have htl := h.tl
    have hb20 : src.length ≤ 20000 := by omega
    by_cases hlt : k < src.length
    · have hx := str_ix hlt
      have hu10 := u8_eq src[k] 10 (by decide)
      have hu32 := u8_eq src[k] 32 (by decide)
      have hu9 := u8_eq src[k] 9 (by decide)
      have hu37 := u8_eq src[k] 37 (by decide)
      have hsc := scanAt_cons src[k] (src.drop (k + 1)) line
      rw [← drop_at hlt] at hsc
      simp [ir49_l3, h.r8, h.r0, hlt, ir49_k2, hx]
      by_cases e10 : src[k] = 10
      · have e10' : (src[k].toNat : Int) = 10 := hu10.2 e10
        rw [if_pos e10] at hsc
        simp [e10', h.r7, h.r8, i64w (n := (k : Int) + 1) (by omega), i64w (n := line + 1) (by omega)]
        refine ⟨⟨k + 1, line + 1, ts, cs, tv, cv, by simp [h.r0], by simp [h.r4], by simp [h.r5], by simp [h.r6], by simp, by simp, by omega, by omega, by omega, h.ext, h.blk, h.o1, h.o2, h.ap, h.nb, by rw [h.eq, hsc]⟩, ?_⟩
        rw [hkO]; simp [kOf]; omega
      · have e10' : ¬ (src[k].toNat : Int) = 10 := fun x => e10 (hu10.1 x)
        rw [if_neg e10] at hsc
        simp [e10']
        have blk : ∀ (ρ2 : Env), (src[k] = 32 ∨ src[k] = 9) → ρ2 0 = ρ' 0 → ρ2 4 = ρ' 4 → ρ2 5 = ρ' 5 → ρ2 6 = ρ' 6 → ρ2 7 = ρ' 7 → ρ2 8 = .int .i64 ((k : Int) + 1) → (∃ k line ts cs tv cv, RdI w src B ρ2 W' k line ts cs tv cv) ∧ src.length - kOf ρ2 < src.length - kOf ρ' := by
          intro ρ2 hb a0 a4 a5 a6 a7 a8
          rw [if_pos hb] at hsc
          refine ⟨⟨k + 1, line, ts, cs, tv, cv, a0.trans h.r0, a4.trans h.r4, a5.trans h.r5, a6.trans h.r6, a7.trans h.r7, by simp [a8], by omega, by omega, by omega, h.ext, h.blk, h.o1, h.o2, h.ap, h.nb, by rw [h.eq, hsc]⟩, ?_⟩
          rw [hkO]; simp [kOf, a8]; omega
        by_cases e32 : src[k] = 32
        · have e32' : (src[k].toNat : Int) = 32 := hu32.2 e32
          simp [e32', ir49_k1, h.r8, i64w (n := (k : Int) + 1) (by omega)]
          exact blk _ (.inl e32) (by simp) (by simp) (by simp) (by simp) (by simp) (by simp)
        have e32' : ¬ (src[k].toNat : Int) = 32 := fun x => e32 (hu32.1 x)
        by_cases e9 : src[k] = 9
        · have e9' : (src[k].toNat : Int) = 9 := hu9.2 e9
          simp [e32', e9', ir49_k1, h.r8, i64w (n := (k : Int) + 1) (by omega)]
          exact blk _ (.inr e9) (by simp) (by simp) (by simp) (by simp) (by simp) (by simp)
        have e9' : ¬ (src[k].toNat : Int) = 9 := fun x => e9 (hu9.1 x)
        rw [if_neg (by rintro (x | x) <;> contradiction)] at hsc
        have hdl : (src.drop k).length = src.length - k := by simp
        by_cases e37 : src[k] = 37
        · have e37' : (src[k].toNat : Int) = 37 := hu37.2 e37
          rw [if_pos e37] at hsc
          have hn1 : 1 ≤ comLen (src.drop k) := by rw [drop_at hlt, e37]; exact comLen_pos _
          have hn2 : comLen (src.drop k) ≤ src.length - k := by have := comLen_le (src.drop k); omega
          have hkI : (k : Int) ≤ src.length := by omega
          simp [e32', e9', e37', ir49_k1, h.r0, h.r8, hkI, hkl, drop_ext]
          refine (r_comment (src.drop k) (by omega) W').mono ?_
          rintro _ W' ⟨rfl, rfl⟩
          have hI1 : (k : Int) ≤ (k : Int) + (comLen (src.drop k) : Int) := by omega
          have hI2 : (k : Int) + (comLen (src.drop k) : Int) ≤ src.length := by omega
          have hI3 : ((k : Int) + (comLen (src.drop k) : Int)).toNat = k + comLen (src.drop k) := by omega
          simp [h.r0, h.r6, h.r8, i64w (n := (k : Int) + (comLen (src.drop k) : Int)) (by omega), hI1, hI2, hI3, cut_ext]
          refine eff_lit si25 (by decide) (by decide) (by simp [Value.cells]) fun B9 W9 hB9 hE9 hb9 _ => ?_
          simp [Value.cells] at hb9
          have hO9 : Own w.heap.size 9 1 W9 (.slice (some ⟨B9, 0, none⟩) 1 1) [encT ((src.drop k).take (comLen (src.drop k)))] := Own.lit (cs := [encT ((src.drop k).take (comLen (src.drop k)))]) hb9 rfl (by have := h.ext.size; omega) (by decide)
          have ho2 := h.o2.ext hE9
          simp
          refine eff_appendG ri25 (by have := h.ext.size; have := hE9.size; omega) (by simp) (by simp) ho2 (own_cells hO9) (by simp [encT]; rfl) (by simp; omega) (by simp; omega) fun v' W10 ho10 hg10 hf10 => ?_
          have hb10 : Blk W10 B #[.int .i64 0, .int .i64 0] 31 := ⟨(hg10.block B (by have := h.blk.lt; have := hE9.size; omega) (fun e => h.nb.2 e.symm)).trans (h.blk.ext hE9).heap⟩
          simp [h.r8, i64w (n := (k : Int) + (comLen (src.drop k) : Int)) (by omega)]
          refine ⟨⟨k + comLen (src.drop k), line, ts, cs ++ [(src.drop k).take (comLen (src.drop k))], tv, v', by simp [h.r0], by simp [h.r4], by simp [h.r5], by simp, by simp [h.r7], by simp, by omega, by omega, by simp; omega, ?_, hb10, ?_, by simpa using ho10, ?_, ⟨h.nb.1, ?_⟩, ?_⟩, ?_⟩
          · exact (h.ext.trans' hE9).grown hg10 (by have := h.ext.size; have := hE9.size; omega) fun k hk => (ho2.blk k hk).1
          · refine (h.o1.ext hE9).kept hg10 ?_
            cases hk : tv.ownBlock with
            | none => exact .inl rfl
            | some q => exact .inr fun e => h.ap q hk e.symm
          · intro q hq
            rcases hf10 with e | e
            · rw [e]; exact h.ap q hq
            · rw [e]; intro e2; cases e2
              have := (h.o1.blk _ hq).2; have := hE9.size; omega
          · rcases hf10 with e | e
            · rw [e]; exact h.nb.2
            · rw [e]; intro e2; cases e2
              have := h.blk.lt; have := hE9.size; omega
          · rw [h.eq, hsc, List.drop_drop, Res.add_add]; simp
          · rw [hkO]; simp [kOf]; omega
        have e37' : ¬ (src[k].toNat : Int) = 37 := fun x => e37 (hu37.1 x)
        rw [if_neg e37] at hsc
        have hkI : (k : Int) ≤ src.length := by omega
        have hdne : src.drop k ≠ [] := by rw [drop_at hlt]; exact List.cons_ne_nil _ _
        simp [e32', e9', e37', ir49_k1, h.r0, h.r8, hkI, hkl, drop_ext]
        have hpos0 : (first (src.drop k)).2.2 = 0 → 0 < (first (src.drop k)).2.1 ∧ (first (src.drop k)).2.1 ≤ (src.drop k).length := fun hh => first_len hh hdne
        have hrf := r_first (w := W') (src.drop k) hdne (by omega)
        generalize first (src.drop k) = p at hsc hpos0 hrf
        obtain ⟨fk, fn, fe⟩ := p
        refine hrf.mono ?_
        rintro _ W2 ⟨rfl, hE2⟩
        have hx2 := h.ext.trans' hE2
        by_cases hf : fe = 0
        · rw [if_neg (by simpa using hf)] at hsc
          have hpos := hpos0 hf
          simp only at hpos
          have hI1 : (k : Int) ≤ (k : Int) + (fn : Int) := by omega
          have hI2 : (k : Int) + (fn : Int) ≤ src.length := by omega
          have hI3 : ((k : Int) + (fn : Int)).toNat = k + fn := by omega
          simp -implicitDefEqProofs [hf, ir49_k0, h.r0, h.r5, h.r7, h.r8, i64w (n := (k : Int) + (fn : Int)) (by omega), hI1, hI2, hI3, cut_ext, bu38]
          refine eff_lit si28 (by decide) (by decide) (by simp [Value.cells]) fun B9 W9 hB9 hE9 hb9 _ => ?_
          simp [Value.cells] at hb9
          have hO9 : Own w.heap.size 38 3 W9 (.slice (some ⟨B9, 0, none⟩) 1 1) [.int .u8 (fk : Int), .string (mkS ((src.drop k).take fn)), .int .i64 line] := Own.lit hb9 rfl (by have := hx2.size; omega) (by decide)
          have ho1 := (h.o1.ext hE2).ext hE9
          obtain ⟨bb, ri, hbb⟩ := ri28
          simp
          refine eff_appendG ri (by have := hx2.size; have := hE9.size; omega) (by simp) (by simp) ho1 (own_cells hO9) (by simp; exact ⟨rfl, rfl, rfl⟩) (by rw [toksV_len]; simp; omega) (by
            rw [toksV_len]
            have : (ts.length * 3 + 3) * bb ≤ (ts.length * 3 + 3) * 64 := Nat.mul_le_mul_left _ hbb
            simp; omega) fun v' W10 ho10 hg10 hf10 => ?_
          have hb10 : Blk W10 B #[.int .i64 0, .int .i64 0] 31 := ⟨(hg10.block B (by have := h.blk.lt; have := hE2.size; have := hE9.size; omega) (fun e => h.nb.1 e.symm)).trans ((h.blk.ext hE2).ext hE9).heap⟩
          simp [h.r8, i64w (n := (k : Int) + (fn : Int)) (by omega)]
          refine ⟨⟨k + fn, line, ts ++ [⟨fk, (src.drop k).take fn, line⟩], cs, v', cv, by simp [h.r0], by simp [h.r4], by simp, by simp [h.r6], by simp [h.r7], by simp, by omega, by omega, by simp; omega, ?_, hb10, by rw [toksV_snoc]; exact ho10, ?_, ?_, ⟨?_, h.nb.2⟩, ?_⟩, ?_⟩
          · exact (hx2.trans' hE9).grown hg10 (by have := hx2.size; have := hE9.size; omega) fun k hk => (ho1.blk k hk).1
          · refine ((h.o2.ext hE2).ext hE9).kept hg10 ?_
            cases hk : cv.ownBlock with
            | none => exact .inl rfl
            | some q => exact .inr fun e => h.ap q e.symm hk
          · intro q hq
            rcases hf10 with e | e
            · exact h.ap q (e ▸ hq)
            · rw [e] at hq; cases hq
              intro e2
              have := (h.o2.blk _ e2).2; have := hE9.size; have := hE2.size; omega
          · rcases hf10 with e | e
            · rw [e]; exact h.nb.1
            · rw [e]; intro e2; cases e2
              have := h.blk.lt; have := hE9.size; have := hE2.size; omega
          · rw [h.eq, hsc, List.drop_drop, Res.add_add]; simp
          · rw [hkO]; simp [kOf]; omega
        · rw [if_pos hf] at hsc
          have hscan : scan src = .bad fe line := by
            rw [hscn, h.eq, hsc]; rfl
          simp -implicitDefEqProofs [hf, h.r7, bu31]
          refine eff_storeN (B := B) (by simp [h.r4]) (h.blk.ext hE2) (by simp [Value.cells]) (by simp [Value.cells]) (by simpa [Value.cells] using sz31) fun W3 hO3 hb3 => ?_
          simp [Value.cells] at hb3 ⊢
          refine retTT (x := .slice none 0 0) (y := .slice none 0 0) (by simp) (by simp) (by simp [h.r4]) hb3 rfl ?_
          exact ⟨_, _, by rw [fV, hscan]; rfl, by rw [hscan]; exact Own.nil _ _ _ _, by rw [hscan]; exact Own.nil _ _ _ _, hO3.ext hx2 hB⟩
    · have hk : k = src.length := by omega
      subst hk
      have hscan : scan src = .ok ts cs := by
        rw [hscn, h.eq, List.drop_length, scanAt_nil]; simp [Res.add]
      simp [ir49_l3, h.r8, h.r0, ir49_k4, h.r5, h.r6, bu31z]
      refine eff_storeN (B := B) (by simp [h.r4]) h.blk (by simp [Value.cells]) (by simp [Value.cells]) (by simpa [Value.cells] using sz31) fun W3 hO3 hb3 => ?_
      simp [Value.cells] at hb3 ⊢
      refine retTT (x := tv) (y := cv) (by simp) (by simp) (by simp [h.r4]) hb3 rfl ?_
      refine ⟨_, _, by rw [fV, hscan]; rfl, ?_, ?_, hO3.ext h.ext hB⟩
      · rw [hscan]; exact Own.same h.o1 fun q hq => hO3.block q fun e => h.nb.1 (by rw [hq, e])
      · rw [hscan]; exact Own.same h.o2 fun q hq => hO3.block q fun e => h.nb.2 (by rw [hq, e])
end Go.L01
/- Layer 1: contracts: the reference's Scan, Comments; lists of tokens compared. -/
namespace Go.L01
open Go Go.Eng Go.RowKit Go.Proofs
set_option maxRecDepth 100000
set_option maxHeartbeats 2000000

theorem r_Scan {w : World} (src : Bs) (hs : src.length < 4611686018427387904) : Calls Tryz.prog 24 #[.string (mkS src)] w (ScanR w src) := by
  refine ir24_calls fun ρ r0 => ?_
  simp [ir24, r0]
  refine eff_alloc z31 fun B W hB hE hb _ => ?_
  simp [r0]
  refine (r_read (w := W) src hs).mono ?_
  rintro _ W1 ⟨v, c, rfl, ho, _, hE1⟩
  simp [fV]
  refine eff_alloc z31 fun B2 W2 hB2 hE2 hb2 _ => ?_
  simp [fV]
  refine eff_storeN (B := B2) (by simp) hb2 (by simp [Value.cells]) (by simp [Value.cells]) (by simpa [Value.cells] using sz31) fun W3 hO3 hb3 => ?_
  simp [Value.cells] at hb3 ⊢
  have hbB := hO3.blk ((hb.ext hE1).ext hE2) (by have := hb.lt; have := hE1.size; omega)
  refine raw_ord ir24_o2_ok (fun W => Blk W B2 #[.int .i64 (scan src).err, .int .i64 (scan src).at] 31) fun W4 hE4 _ => ⟨hb3.ext hE4, ?_⟩
  have hc : ∀ W, Blk W B2 #[.int .i64 (scan src).err, .int .i64 (scan src).at] 31 → ∀ i, W.cell? ⟨B2, i, none⟩ = #[Value.int .i64 (scan src).err, .int .i64 (scan src).at][i]? := fun W h => h.cell
  simp +contextual -implicitDefEqProofs [ir24_o2, hc, hb3.ext hE4]
  refine eff_storeN (B := B) (by simp) (hbB.ext hE4) (by simp [Value.cells]) (by simp [Value.cells]) (by simpa [Value.cells] using sz31) fun W5 hO5 hb5 => ?_
  simp [Value.cells] at hb5
  simp [ir24_k0]
  refine retT (x := v) (by simp) (by simp) hb5 rfl ?_
  have hsz := hE.size
  have hE14 : Ext W1 W4 := (hO3.ext hE2 (by omega)).trans' hE4
  have h5 : Own w.heap.size 38 3 W5 v (toksV (scan src).toks) := by
    refine Own.same (w := W4) ?_ fun k hk => hO5.block k fun e => ?_
    · have h1 : Own W.heap.size 38 3 W4 v (toksV (scan src).toks) := ho.ext hE14
      exact ownMono hsz h1
    · have := (ho.blk k hk).1
      have := hb.lt
      omega
  exact ⟨v, rfl, h5, hO5.ext ((hE.trans' hE1).trans' hE14) hB⟩
theorem r_Comments {w : World} (src : Bs) (hs : src.length < 4611686018427387904) : Calls Tryz.prog 26 #[.string (mkS src)] w (ComsR w src) := by
  refine ir26_calls fun ρ r0 => ?_
  simp [ir26, r0]
  refine eff_alloc z31 fun B W hB hE hb _ => ?_
  simp [r0]
  refine (r_read (w := W) src hs).mono ?_
  rintro _ W1 ⟨c, v, rfl, _, ho, hE1⟩
  simp [fV]
  refine eff_alloc z31 fun B2 W2 hB2 hE2 hb2 _ => ?_
  simp [fV]
  refine eff_storeN (B := B2) (by simp) hb2 (by simp [Value.cells]) (by simp [Value.cells]) (by simpa [Value.cells] using sz31) fun W3 hO3 hb3 => ?_
  simp [Value.cells] at hb3 ⊢
  have hbB := hO3.blk ((hb.ext hE1).ext hE2) (by have := hb.lt; have := hE1.size; omega)
  refine raw_ord ir26_o2_ok (fun W => Blk W B2 #[.int .i64 (scan src).err, .int .i64 (scan src).at] 31) fun W4 hE4 _ => ⟨hb3.ext hE4, ?_⟩
  have hc : ∀ W, Blk W B2 #[.int .i64 (scan src).err, .int .i64 (scan src).at] 31 → ∀ i, W.cell? ⟨B2, i, none⟩ = #[Value.int .i64 (scan src).err, .int .i64 (scan src).at][i]? := fun W h => h.cell
  simp +contextual -implicitDefEqProofs [ir26_o2, hc, hb3.ext hE4]
  refine eff_storeN (B := B) (by simp) (hbB.ext hE4) (by simp [Value.cells]) (by simp [Value.cells]) (by simpa [Value.cells] using sz31) fun W5 hO5 hb5 => ?_
  simp [Value.cells] at hb5
  simp [ir26_k0]
  refine retT (x := v) (by simp) (by simp) hb5 rfl ?_
  have hsz := hE.size
  have hE14 : Ext W1 W4 := (hO3.ext hE2 (by omega)).trans' hE4
  have h5 : Own w.heap.size 9 1 W5 v ((scan src).coms.map encT) := by
    refine Own.same (w := W4) ?_ fun k hk => hO5.block k fun e => ?_
    · have h1 : Own W.heap.size 9 1 W4 v ((scan src).coms.map encT) := ho.ext hE14
      exact ownMono hsz h1
    · have := (ho.blk k hk).1
      have := hb.lt
      omega
  exact ⟨v, rfl, h5, hO5.ext ((hE.trans' hE1).trans' hE14) hB⟩

end Go.L01
/- Layer 1: contracts: short, few. -/
namespace Go.L01
open Go Go.Eng Go.RowKit Go.Proofs
set_option maxRecDepth 100000
set_option maxHeartbeats 2000000

def short1 (s : Bs) : Bool := !((decide (1500 < s.length) && decide (s.length ≤ 20000)) || decide (20100 < s.length))
theorem l_short {w : World} {v : Value} {l : List Bs} (hl : SlT w v l) : Calls Tryz.prog 22 #[v] w fun e w' => e = .returned (.bool (l.all short1)) ∧ w' = w := by
  have hbd := hl.bd
  refine ir22_calls fun ρ h0 => ?_
  simp [ir22]
  refine loopC 3 l.length (fun k ρ' w' => w' = w ∧ ρ' 0 = v ∧ ∀ j (hj : j < l.length), j < k → short1 l[j] = true) (by simp) ⟨rfl, by simp [h0], by simp⟩ ?_
  rintro k ρ' w' hk h3 ⟨rfl, h0, hall⟩
  by_cases hlt : k < l.length
  · have hsz : (mkS l[k]).size = l[k].length := rfl
    simp [ir22_l2, ir22_k1, h3, h0, hl.is, hl.len, hlt, hl.cell k hlt, encT]
    have next : short1 l[k] = true → ∀ j (hj : j < l.length), j < k + 1 → short1 l[j] = true := by
      intro hs j hj hjk
      by_cases e : j = k
      · subst e; exact hs
      · exact hall j hj (by omega)
    by_cases a : 1500 < l[k].length
    · have a' : (1500 : Int) < l[k].length := by omega
      by_cases b : l[k].length ≤ 20000
      · have b' : (l[k].length : Int) ≤ 20000 := by omega
        simp [a', b']
        exact ⟨l[k], List.getElem_mem _, by simp [short1, a, b]⟩
      · have b' : ¬ (l[k].length : Int) ≤ 20000 := by omega
        by_cases c : 20100 < l[k].length
        · have c' : (20100 : Int) < l[k].length := by omega
          simp [a', b', c']
          exact ⟨l[k], List.getElem_mem _, by simp [short1, c]⟩
        · have c' : ¬ (20100 : Int) < l[k].length := by omega
          simp [a', b', c', ir22_k0, h3, i64w (n := (k : Int) + 1) (by omega), h0]
          exact next (by simp [short1, b, c])
    · have a' : ¬ (1500 : Int) < l[k].length := by omega
      have c' : ¬ (20100 : Int) < l[k].length := by omega
      simp [a', c', ir22_k0, h3, i64w (n := (k : Int) + 1) (by omega), h0]
      exact next (by simp [short1, a]; omega)
  · have hk' : k = l.length := by omega
    subst hk'
    have hall' : l.all short1 = true := by
      rw [List.all_eq_true]
      intro s hs
      obtain ⟨j, hj, rfl⟩ := List.getElem_of_mem hs
      exact hall j hj hj
    simp [ir22_l2, h3, h0, hl.is, hl.len, ir22_k3, hall']

def few (l : List Tok) : Bool := ((l.take 400).all fun t => decide (t.text.length ≤ 40)) && decide (l.length ≤ 300)
theorem l_few {w : World} {v : Value} {l : List Tok} (hl : SlK w v l) : Calls Tryz.prog 28 #[v] w fun e w' => e = .returned (.bool (few l)) ∧ w' = w := by
  have hbd := hl.bd
  refine ir28_calls fun ρ h0 => ?_
  simp [ir28]
  refine loopC 3 l.length (fun k ρ' w' => w' = w ∧ ρ' 0 = v ∧ ∀ j (hj : j < l.length), j < k → j < 400 ∧ l[j].text.length ≤ 40) (by simp) ⟨rfl, by simp [h0], by simp⟩ ?_
  rintro k ρ' w' hk h3 ⟨rfl, h0, hall⟩
  have fin : (k = l.length ∨ 400 ≤ k) → few l = decide (l.length ≤ 300) := by
    intro hend
    have : ((l.take 400).all fun t => decide (t.text.length ≤ 40)) = true := by
      rw [List.all_eq_true]
      intro t ht
      obtain ⟨j, hj, rfl⟩ := List.getElem_of_mem ht
      have hj' := hj
      rw [List.length_take] at hj'
      rw [List.getElem_take]
      have := (hall j (by omega) (by omega)).2
      simpa using this
    unfold few; rw [this]; simp
  by_cases hlt : k < l.length
  · by_cases h400 : k < 400
    · have h400' : (k : Int) < 400 := by omega
      obtain ⟨c0, c1, c2⟩ := hl.cell k hlt
      have hsz : (mkS l[k].text).size = l[k].text.length := rfl
      simp [ir28_l2, ir28_k1, h3, h0, hl.is, hl.len, hlt, h400', c1]
      by_cases h40 : 40 < l[k].text.length
      · have h40' : (40 : Int) < l[k].text.length := by omega
        have hf : few l = false := by
          have : ((l.take 400).all fun t => decide (t.text.length ≤ 40)) = false := by
            rw [List.all_eq_false]
            refine ⟨l[k], ?_, by simp; omega⟩
            have hk2 : k < (l.take 400).length := by rw [List.length_take]; omega
            have := List.getElem_mem hk2
            rwa [List.getElem_take] at this
          unfold few; rw [this]; rfl
        simp [h40', hf]
      · have h40' : ¬ (40 : Int) < l[k].text.length := by omega
        simp [h40', ir28_k0, h3, i64w (n := (k : Int) + 1) (by omega), h0]
        intro j hj hjk
        by_cases e : j = k
        · subst e; exact ⟨h400, by omega⟩
        · exact hall j hj (by omega)
    · have h400' : ¬ (k : Int) < 400 := by omega
      have h300 : ¬ l.length ≤ 300 := by omega
      have h300' : ¬ (l.length : Int) ≤ 300 := by omega
      simp [ir28_l2, h3, h0, hl.is, hl.len, hlt, h400', ir28_k3, fin (.inr (by omega)), h300, h300']
  · have hk' : k = l.length := by omega
    have he := fin (.inl hk')
    subst hk'
    have e : decide (l.length ≤ 300) = decide ((l.length : Int) ≤ 300) := by rw [decide_eq_decide]; omega
    simp [ir28_l2, h3, h0, hl.is, hl.len, ir28_k3, he, e]
end Go.L01
/- Layer 1: tokens compared. -/
namespace Go.L01
open Go Go.Eng Go.RowKit Go.Proofs
set_option maxRecDepth 100000
set_option maxHeartbeats 2000000
theorem flds38 : ((Tryz.prog.fieldsOf 38).toList.map fun f => (f.name == "_", f.type, f.offset)) = [(false, 52 - 47, 0), (false, 9, 1), (false, 3, 2)] := by kernel_rfl
theorem stru38 : Tryz.prog.underlying 38 = some (.struct (Tryz.prog.fieldsOf 38)) := by kernel_rfl
theorem held38 : Tryz.prog.stoodInHeld 38 = false := by kernel_rfl
theorem eqTok (a b : Tok) (w : World) : (Op.equalIn 10000 38 (encK a) (encK b)).run Tryz.prog w = .ok (decide (a = b)) w := by
  have hf := flds38
  obtain ⟨f1, f2, f3, hfl⟩ : ∃ f1 f2 f3, (Tryz.prog.fieldsOf 38).toList = [f1, f2, f3] := by
    match h : (Tryz.prog.fieldsOf 38).toList with
    | [f1, f2, f3] => exact ⟨f1, f2, f3, rfl⟩
    | [] | [_] | [_, _] | _ :: _ :: _ :: _ :: _ => rw [h] at hf; simp at hf
  rw [hfl] at hf
  simp at hf
  obtain ⟨⟨n1, t1, o1⟩, ⟨n2, t2, o2⟩, n3, t3, o3⟩ := hf
  have e := run_equalIn_agg (P := Tryz.prog) w 9999 38 #[.int .u8 (a.kind : Int), .string (mkS a.text), .int .i64 a.line] #[.int .u8 (b.kind : Int), .string (mkS b.text), .int .i64 b.line] stru38 held38
  have p1 : ∀ (cs : Array Value) (v : Value) (off t : Nat), isAggT Tryz.prog t = some false → cs[off]? = some v → (Go.part t cs off).run Tryz.prog w = .ok v w := fun cs v off t h1 h2 => run_part1 h1 h2
  have i5 : isAggT Tryz.prog 5 = some false := by kernel_rfl
  have i9 : isAggT Tryz.prog 9 = some false := by kernel_rfl
  have i3 : isAggT Tryz.prog 3 = some false := by kernel_rfl
  have q1 := run_equalIn_int (P := Tryz.prog) w 9998 5 .u8 .u8 (a.kind : Int) (b.kind : Int) (by kernel_rfl)
  have q2 := run_equalIn_string (P := Tryz.prog) w 9998 9 (mkS a.text) (mkS b.text) (by kernel_rfl)
  have q3 := run_equalIn_int (P := Tryz.prog) w 9998 3 .i64 .i64 a.line b.line (by kernel_rfl)
  refine e.trans ?_
  rw [hfl]
  have a1 := p1 #[.int .u8 (a.kind : Int), .string (mkS a.text), .int .i64 a.line] (.int .u8 (a.kind : Int)) 0 5 i5 rfl
  have a2 := p1 #[.int .u8 (a.kind : Int), .string (mkS a.text), .int .i64 a.line] (.string (mkS a.text)) 1 9 i9 rfl
  have a3 := p1 #[.int .u8 (a.kind : Int), .string (mkS a.text), .int .i64 a.line] (.int .i64 a.line) 2 3 i3 rfl
  have b1 := p1 #[.int .u8 (b.kind : Int), .string (mkS b.text), .int .i64 b.line] (.int .u8 (b.kind : Int)) 0 5 i5 rfl
  have b2 := p1 #[.int .u8 (b.kind : Int), .string (mkS b.text), .int .i64 b.line] (.string (mkS b.text)) 1 9 i9 rfl
  have b3 := p1 #[.int .u8 (b.kind : Int), .string (mkS b.text), .int .i64 b.line] (.int .i64 b.line) 2 3 i3 rfl
  have hst : ((mkS a.text).toList == (mkS b.text).toList) = decide (a.text = b.text) := by
    rw [Bool.eq_iff_iff]
    simp only [beq_iff_eq, decide_eq_true_eq]
    constructor
    · intro h
      rw [ByteArray.toList_eq, ByteArray.toList_eq] at h
      exact mkS_inj.1 (by cases ha : mkS a.text; cases hb : mkS b.text; rw [ha, hb] at h; simp at h; congr)
    · intro h; rw [h]
  have hki : ((a.kind : Int) == (b.kind : Int)) = decide (a.kind = b.kind) := by
    rw [Bool.eq_iff_iff]; simp
  have hli : (a.line == b.line) = decide (a.line = b.line) := by
    rw [Bool.eq_iff_iff]; simp
  rw [hki] at q1
  rw [hst] at q2
  rw [hli] at q3
  have hab : (decide (a = b)) = (decide (a.kind = b.kind) && (decide (a.text = b.text) && decide (a.line = b.line))) := by
    rw [Bool.eq_iff_iff]
    obtain ⟨k, s, l⟩ := a
    obtain ⟨k', s', l'⟩ := b
    simp
  rw [hab]
  generalize decide (a.kind = b.kind) = x at q1
  generalize decide (a.text = b.text) = y at q2
  generalize decide (a.line = b.line) = z at q3
  simp only [Nat.reduceAdd] at q1 q2 q3
  cases x <;> cases y <;> cases z <;> simp [Op.eqFields, n1, n2, n3, t1, t2, t3, o1, o2, o3, a1, a2, a3, b1, b2, b3, q1, q2, q3]
end Go.L01
/- Layer 1: contracts: lists of tokens compared. -/
namespace Go.L01
open Go Go.Eng Go.RowKit Go.Proofs
set_option maxRecDepth 100000
set_option maxHeartbeats 2000000

theorem g38 : Tryz.prog.eqGuardType Tryz.prog.depth 38 = false := by kernel_rfl
theorem r_Same {w : World} {v u : Value} {l m : List Tok} (hl : SlK w v l) (hm : SlK w u m) :
    Calls Tryz.prog 27 #[v, u] w fun e w' => e = .returned (.bool (decide (l = m))) ∧ Ext w w' := by
  have hbd := hl.bd
  refine ir27_calls fun ρ h0 h1 => ?_
  simp [ir27, h0, h1, hl.is, hl.len, hm.is, hm.len]
  by_cases hlen : l.length = m.length
  · simp [hlen, ir27_k5]
    refine loopC 5 m.length (fun k ρ' w' => Ext w w' ∧ ρ' 0 = v ∧ ρ' 1 = u ∧ ∀ j (hj : j < m.length), j < k → l[j]'(by omega) = m[j]) (by simp) ⟨ext_refl _, by simp [h0], by simp [h1], by simp⟩ ?_
    rintro k ρ' w' hk h5 ⟨hE, h0, h1, hall⟩
    have hl' := hl.ext hE
    have hm' := hm.ext hE
    by_cases hlt : k < m.length
    · have hltl : k < l.length := by omega
      simp [ir27_l3, ir27_k2, h5, h0, h1, hl'.is, hl'.len, hlt, hlen]
      refine raw_ord ir27_o6_ok (Ext w) fun w2 hE2 _ => ⟨hE.trans' hE2, ?_⟩
      have a : ∀ W, Ext w W → W.cell? (slAddr v (k * 3)) = some (.int .u8 (l[k].kind : Int)) ∧ W.cell? (slAddr v (k * 3 + 1)) = some (.string (mkS l[k].text)) ∧ W.cell? (slAddr v (k * 3 + 2)) = some (.int .i64 l[k].line) := fun W h => (hl.ext h).cell k hltl
      have b : ∀ W, Ext w W → W.cell? (slAddr u (k * 3)) = some (.int .u8 (m[k].kind : Int)) ∧ W.cell? (slAddr u (k * 3 + 1)) = some (.string (mkS m[k].text)) ∧ W.cell? (slAddr u (k * 3 + 2)) = some (.int .i64 m[k].line) := fun W h => (hm.ext h).cell k hlt
      have hE3 := hE.trans' hE2
      simp +contextual -implicitDefEqProofs [ir27_o6, h5, h0, h1, hl'.is, hl'.len, hm'.is, hm'.len, hlt, hlen, a, b, hE3]
      refine eff_neqT (by simp) (by simp) g38 (eqTok l[k] m[k] _) ?_
      by_cases he : l[k] = m[k]
      · simp [he, ir27_k0, ir27_k1, h5, i64w (n := (k : Int) + 1) (by omega), h0, h1]
        refine ⟨hE3, fun j hj hjk => ?_⟩
        by_cases e : j = k
        · subst e; exact he
        · exact hall j hj (by omega)
      · simp [he, ir27_k0]
        refine ⟨fun e => he (by subst e; rfl), hE3⟩
    · have hk' : k = m.length := by omega
      subst hk'
      simp [ir27_l3, h5, h0, hl'.is, hl'.len, hlen, ir27_k4]
      exact ⟨List.ext_getElem hlen fun j h1 h2 => hall j h2 h2, hE⟩
  · have : l ≠ m := fun e => hlen (by rw [e])
    simp [hlen, this]
    exact ext_refl _

/-- Kind and text. -/
def kt (t : Tok) : Nat × Bs := (t.kind, t.text)
theorem r_Alike {w : World} {v u : Value} {l m : List Tok} (hl : SlK w v l) (hm : SlK w u m) :
    Calls Tryz.prog 37 #[v, u] w fun e w' => e = .returned (.bool (decide (l.map kt = m.map kt))) ∧ Ext w w' := by
  have hbd := hl.bd
  refine ir37_calls fun ρ h0 h1 => ?_
  simp [ir37, h0, h1, hl.is, hl.len, hm.is, hm.len]
  by_cases hlen : l.length = m.length
  · simp [hlen, ir37_k5]
    refine loopC 5 m.length (fun k ρ' w' => Ext w w' ∧ ρ' 0 = v ∧ ρ' 1 = u ∧ ∀ j (hj : j < m.length), j < k → kt (l[j]'(by omega)) = kt m[j]) (by simp) ⟨ext_refl _, by simp [h0], by simp [h1], by simp⟩ ?_
    rintro k ρ' w' hk h5 ⟨hE, h0, h1, hall⟩
    have hl' := hl.ext hE
    have hm' := hm.ext hE
    by_cases hlt : k < m.length
    · have hltl : k < l.length := by omega
      obtain ⟨a0, a1, _⟩ := hl'.cell k hltl
      obtain ⟨b0, b1, _⟩ := hm'.cell k hlt
      have bad : kt l[k] ≠ kt m[k] → ¬ l.map kt = m.map kt := fun h e => by
        have := congrArg (·[k]?) e
        simp [hltl, hlt] at this
        exact h this
      have next : kt l[k] = kt m[k] → ∀ j (hj : j < m.length), j < k + 1 → kt (l[j]'(by omega)) = kt m[j] := by
        intro h j hj hjk
        by_cases e : j = k
        · subst e; exact h
        · exact hall j hj (by omega)
      by_cases hk1 : l[k].kind = m[k].kind
      · by_cases ht : l[k].text = m[k].text
        · simp [ir37_l3, ir37_k2, h5, h0, h1, hl'.is, hl'.len, hm'.is, hm'.len, hlt, hlen, a0, a1, b0, b1, hk1, ht, ir37_k0, ir37_k1, i64w (n := (k : Int) + 1) (by omega)]
          intro w2 hE2
          exact ⟨hE.trans' hE2, next (by simp [kt, hk1, ht])⟩
        · simp [ir37_l3, ir37_k2, h5, h0, h1, hl'.is, hl'.len, hm'.is, hm'.len, hlt, hlen, a0, a1, b0, b1, hk1, ht, ir37_k0, mkS_inj, bad (by simp [kt, ht])]
          intro w2 hE2
          exact hE.trans' hE2
      · have hk1' : ¬ (l[k].kind : Int) = (m[k].kind : Int) := by omega
        simp [ir37_l3, ir37_k2, h5, h0, h1, hl'.is, hl'.len, hm'.is, hm'.len, hlt, hlen, a0, a1, b0, b1, hk1, hk1', ir37_k0, bad (by simp [kt, hk1])]
        intro w2 hE2
        exact hE.trans' hE2
    · have hk' : k = m.length := by omega
      subst hk'
      have he : l.map kt = m.map kt := List.ext_getElem (by simpa using hlen) fun j h1 h2 => by
        simp at h1 h2 ⊢
        exact hall j h2 h2
      simp [ir37_l3, h5, h0, hl'.is, hl'.len, hlen, ir37_k4, he]
      exact hE
  · have : ¬ l.map kt = m.map kt := fun e => hlen (by simpa using congrArg List.length e)
    simp [hlen, this]
    exact ext_refl _
end Go.L01
/- Layer 1: contracts: Check. -/
namespace Go.L01
open Go Go.Eng Go.RowKit Go.Proofs
set_option maxRecDepth 100000
set_option maxHeartbeats 2000000

theorem check_none {l : List Tok} (h : ∀ i, i < l.length → badT l i = 0) : check l = (0, 0) := by
  unfold check
  have : (List.range l.length).find? (fun i => decide (badT l i ≠ 0)) = none := by
    rw [List.find?_eq_none]
    intro i hi
    simp [h i (List.mem_range.1 hi)]
  rw [this]
theorem check_at {l : List Tok} {k : Nat} (hk : k < l.length) (h : ∀ i, i < k → badT l i = 0) (hb : badT l k ≠ 0) : check l = ((k : Int), badT l k) := by
  unfold check
  have : (List.range l.length).find? (fun i => decide (badT l i ≠ 0)) = some k := by
    rw [List.find?_range_eq_some]
    refine ⟨by simpa using hb, by simpa using hk, fun j hj => by simp [h j hj]⟩
  rw [this]
theorem badT_of {l : List Tok} {k : Nat} (hk : k < l.length) (h2 : k < 20000) : badT l k = if !right l[k].kind l[k].text || decide (l[k].line < 1) || decide (20000 < l[k].line) || (decide (0 < k) && decide (l[k].line < (l.getD (k - 1) ⟨0, [], 0⟩).line)) then 1 else 0 := by
  unfold badT
  rw [if_neg (by omega), List.getElem?_eq_getElem hk]
theorem badT_2 {l : List Tok} {k : Nat} (h2 : 20000 ≤ k) : badT l k = 2 := by unfold badT; rw [if_pos h2]
/-- The line ahead of token k. -/
def lineB (l : List Tok) (k : Nat) : Int := if k = 0 then 1 else (l.getD (k - 1) ⟨0, [], 0⟩).line
theorem t_Check {w : World} (hG : G w) {v : Value} {l : List Tok} (hl : SlK w v l) (hx : ∀ t ∈ l, t.text.length ≤ 281474976710656) :
    Calls Tryz.prog 29 #[v] w fun e w' => e = .returned (.tuple #[.int .i64 (check l).1, .int .i64 (check l).2]) ∧ Ext w w' := by
  have hbd := hl.bd
  refine ir29_calls fun ρ h0 => ?_
  simp [ir29, h0, hl.is, hl.len]
  refine loopC 9 l.length (fun k ρ' w' => Ext w w' ∧ ρ' 4 = .int .i64 (lineB l k) ∧ ρ' 7 = v ∧ ρ' 8 = .int .i64 l.length ∧ (∀ j, j < k → badT l j = 0)) (by simp) ⟨ext_refl _, by simp [lineB], by simp, by simp, by simp⟩ ?_
  rintro k ρ' w' hk h9 ⟨hE, h4, h7, h8, hall⟩
  have hl' := hl.ext hE
  by_cases hlt : k < l.length
  · obtain ⟨c0, c1, c2⟩ := hl'.cell k hlt
    simp [ir29_l4, ir29_k3, h9, h8, h7, hlt, hl'.is, hl'.len, c0, c1, c2]
    refine eff_alloc z38 fun B W hB hE2 hb _ => ?_
    simp
    refine eff_storeN (B := B) (by simp) hb (by simp [Value.cells]) (by simp [Value.cells]) (by simpa [Value.cells] using sz38) fun W2 hO2 hb2 => ?_
    simp [Value.cells] at hb2
    have hE3 : Ext w W2 := hO2.ext (hE.trans' hE2) (by have := hE.size; omega)
    by_cases hk2 : 20000 ≤ k
    · have hk2' : (20000 : Int) ≤ k := by omega
      have hb : badT l k = 2 := badT_2 hk2
      simp [hk2', check_at hlt hall (by rw [hb]; decide), hb]
      exact hE3
    · have hk2' : ¬ (20000 : Int) ≤ k := by omega
      have hbt := badT_of hlt (by omega)
      simp [hk2', ir29_k1, hb2.cell]
      refine (t_right (hG.ext hE3) l[k] (hx _ (List.getElem_mem _))).mono ?_
      rintro _ W3 ⟨rfl, hE4⟩
      have hb3 := hb2.ext hE4
      have hlb : 1 ≤ lineB l k ∧ (0 < k → lineB l k = (l.getD (k - 1) ⟨0, [], 0⟩).line) := by
        unfold lineB
        by_cases h0 : k = 0
        · simp [h0]
        · rw [if_neg h0]
          refine ⟨?_, fun _ => rfl⟩
          have hp := hall (k - 1) (by omega)
          rw [badT_of (by omega) (by omega)] at hp
          split at hp
          · cases hp
          · rename_i hn
            simp only [Bool.or_eq_true, not_or, decide_eq_true_eq] at hn
            have : (l.getD (k - 1) ⟨0, [], 0⟩) = l[k - 1] := by simp [List.getD_eq_getElem?_getD, show k - 1 < l.length by omega]
            rw [this]; omega
      have hiff : badT l k ≠ 0 ↔ (right l[k].kind l[k].text = false ∨ l[k].line < lineB l k ∨ 20000 < l[k].line) := by
        rw [hbt]
        have : (if (!right l[k].kind l[k].text || decide (l[k].line < 1) || decide (20000 < l[k].line) || (decide (0 < k) && decide (l[k].line < (l.getD (k - 1) ⟨0, [], 0⟩).line))) = true then (1 : Int) else 0) ≠ 0 ↔ (!right l[k].kind l[k].text || decide (l[k].line < 1) || decide (20000 < l[k].line) || (decide (0 < k) && decide (l[k].line < (l.getD (k - 1) ⟨0, [], 0⟩).line))) = true := by
          split <;> simp_all
        rw [this]
        simp only [Bool.or_eq_true, Bool.and_eq_true, Bool.not_eq_true', decide_eq_true_eq]
        by_cases h0 : 0 < k
        · have := hlb.2 h0
          rw [← this]
          constructor
          · rintro (((h | h) | h) | h)
            · exact .inl h
            · exact .inr (.inl (by omega))
            · exact .inr (.inr h)
            · exact .inr (.inl h.2)
          · rintro (h | h | h)
            · exact .inl (.inl (.inl h))
            · exact .inr ⟨h0, h⟩
            · exact .inl (.inr h)
        · have hk0 : k = 0 := by omega
          have h1 : lineB l k = 1 := by simp [lineB, hk0]
          rw [h1]
          constructor
          · rintro (((h | h) | h) | h)
            · exact .inl h
            · exact .inr (.inl h)
            · exact .inr (.inr h)
            · exact absurd h.1 h0
          · rintro (h | h | h)
            · exact .inl (.inl (.inl h))
            · exact .inl (.inl (.inr h))
            · exact .inl (.inr h)
      have bad : badT l k ≠ 0 → (check l).1 = (k : Int) ∧ (check l).2 = 1 := fun h => by
        rw [check_at hlt hall h]
        refine ⟨rfl, ?_⟩
        show badT l k = 1
        rw [hbt] at h ⊢
        split at h
        · rename_i hh; rw [if_pos hh]
        · exact absurd rfl h
      have hE5 := hE3.trans' hE4
      cases hr : right l[k].kind l[k].text with
      | false =>
        obtain ⟨x1, x2⟩ := bad (hiff.2 (.inl hr))
        simp [x1, x2]
        exact hE5
      | true =>
        by_cases a : l[k].line < lineB l k
        · obtain ⟨x1, x2⟩ := bad (hiff.2 (.inr (.inl a)))
          simp [hb3.cell, h4, a, x1, x2]
          exact hE5
        · by_cases b : 20000 < l[k].line
          · obtain ⟨x1, x2⟩ := bad (hiff.2 (.inr (.inr b)))
            simp [hb3.cell, h4, a, b, x1, x2]
            exact hE5
          · have hz : badT l k = 0 := by
              apply Classical.byContradiction
              intro hn
              rcases hiff.1 hn with h | h | h
              · rw [hr] at h; cases h
              · exact a h
              · exact b h
            have hlk : lineB l (k + 1) = l[k].line := by simp [lineB, List.getD_eq_getElem?_getD, hlt]
            simp [hb3.cell, h4, a, b, ir29_k0, ir29_k2, h9, h7, h8, i64w (n := (k : Int) + 1) (by omega), hlk]
            refine ⟨hE5, fun j hj => ?_⟩
            by_cases e : j = k
            · subst e; exact hz
            · exact hall j (by omega)
  · have hk' : k = l.length := by omega
    subst hk'
    simp [ir29_l4, h9, h8, ir29_k5, check_none hall]
    exact hE
end Go.L01
/- Layer 1: contracts: Check of the reference. -/
namespace Go.L01
open Go Go.Eng Go.RowKit Go.Proofs
set_option maxRecDepth 100000
set_option maxHeartbeats 2000000

theorem r_Check {w : World} {v : Value} {l : List Tok} (hl : SlK w v l) (hx : ∀ t ∈ l, t.text.length ≤ 281474976710656) :
    Calls Tryz.prog 30 #[v] w fun e w' => e = .returned (.tuple #[.int .i64 (check l).1, .int .i64 (check l).2]) ∧ Ext w w' := by
  have hbd := hl.bd
  refine ir30_calls fun ρ h0 => ?_
  simp [ir30]
  refine loopC 4 l.length (fun k ρ' w' => Ext w w' ∧ ρ' 0 = v ∧ (∀ j, j < k → badT l j = 0)) (by simp) ⟨ext_refl _, by simp [h0], by simp⟩ ?_
  rintro k ρ' w' hk h4 ⟨hE, h0, hall⟩
  have hl' := hl.ext hE
  by_cases hlt : k < l.length
  · obtain ⟨c0, c1, c2⟩ := hl'.cell k hlt
    by_cases hk2 : 20000 ≤ k
    · have hk2' : (20000 : Int) ≤ k := by omega
      have hb : badT l k = 2 := badT_2 hk2
      simp [ir30_l4, ir30_k3, h4, h0, hlt, hl'.is, hl'.len, hk2', check_at hlt hall (by rw [hb]; decide), hb]
      exact hE
    · have hk2' : ¬ (20000 : Int) ≤ k := by omega
      have hbt := badT_of hlt (by omega)
      simp [ir30_l4, ir30_k3, h4, h0, hlt, hl'.is, hl'.len, hk2', ir30_k1, c0, c1, c2]
      refine eff_alloc z38 fun B W hB hE2 hb _ => ?_
      simp
      refine eff_storeN (B := B) (by simp) hb (by simp [Value.cells]) (by simp [Value.cells]) (by simpa [Value.cells] using sz38) fun W2 hO2 hb2 => ?_
      simp [Value.cells] at hb2
      have hE3 : Ext w W2 := hO2.ext (hE.trans' hE2) (by have := hE.size; omega)
      have hl3 := hl.ext hE3
      simp [hb2.cell]
      refine ⟨.bool (right l[k].kind l[k].text), fun W5 hW => (r_right l[k].kind l[k].text (by have := hx _ (List.getElem_mem hlt); omega)).mono fun e w' h => ⟨h.1, hW.trans' h.2⟩, ?_⟩
      have fin : ∀ (x : Bool) (ρ2 : Env) (W6 : World), Ext W2 W6 → x = (!right l[k].kind l[k].text || decide (l[k].line < 1) || decide (20000 < l[k].line) || (decide (0 < k) && decide (l[k].line < (l.getD (k - 1) ⟨0, [], 0⟩).line))) → ρ2 49 = .bool x → ρ2 4 = .int .i64 (k : Int) → ρ2 0 = v →
          ∀ {KK : Env → World → Prop} {Q : Ks}, (∀ ρ w', Q.rt ρ w' = retK [.tmp 2, .tmp 3] (fun e w' => e = .returned (.tuple #[.int .i64 (check l).1, .int .i64 (check l).2]) ∧ Ext w w') ρ w') → (badT l k = 0 → KK ρ2 W6) → ir30_k0.wp ⟨Tryz.prog, 51, ir30_V, []⟩ KK Q ρ2 W6 := by
        intro x ρ2 W6 hE6 hxe h49 h4 h0 KK Q hQ hK
        rw [← hxe] at hbt
        cases x with
        | true =>
          have hb : badT l k = 1 := by simpa using hbt
          simp [ir30_k0, h49, hQ, h4, check_at hlt hall (by rw [hb]; decide), hb]
          exact hE3.trans' hE6
        | false =>
          simp [ir30_k0, h49]
          exact hK (by simpa using hbt)
      have nxt : badT l k = 0 → ∀ j, j < k + 1 → badT l j = 0 := fun h j hj => by
        by_cases e : j = k
        · subst e; exact h
        · exact hall j (by omega)
      by_cases hk0 : 0 < k
      · have hk0' : (0 : Int) < k := by omega
        have he : (k : Int) - 1 = ((k - 1 : Nat) : Int) := by omega
        have hlt1 : k - 1 < l.length := by omega
        obtain ⟨_, _, d2⟩ := hl3.cell (k - 1) hlt1
        have hgd : (l.getD (k - 1) ⟨0, [], 0⟩) = l[k - 1] := by simp [List.getD_eq_getElem?_getD, hlt1]
        have hI : ((k - 1 : Nat) : Int) < (l.length : Int) := by omega
        simp [h4, h0, hk0, hk0', he, i64w (n := ((k - 1 : Nat) : Int)) (by omega), hl3.is, hl3.len, hlt1, hI, d2]
        intro W6 hE6
        refine fin _ _ W6 hE6 ?_ rfl (by simp [h4]) (by simp [h0]) (fun _ _ => rfl) fun hz => ?_
        · rw [hgd, Bool.eq_iff_iff]; simp [hk0]
        · simp [ir30_k2, h4, i64w (n := (k : Int) + 1) (by omega), h0]
          exact ⟨hE3.trans' hE6, nxt hz⟩
      · have hk0' : ¬ (0 : Int) < k := by omega
        simp [h4, hk0, hk0']
        intro W6 hE6
        refine fin _ _ W6 hE6 ?_ rfl (by simp [h4]) (by simp [h0]) (fun _ _ => rfl) fun hz => ?_
        · rw [Bool.eq_iff_iff]; simp [hk0]
        · simp [ir30_k2, h4, i64w (n := (k : Int) + 1) (by omega), h0]
          exact ⟨hE3.trans' hE6, nxt hz⟩
  · have hk' : k = l.length := by omega
    subst hk'
    simp [ir30_l4, h4, h0, hl'.is, hl'.len, ir30_k5, check_none hall]
    exact hE
end Go.L01
/- Layer 1: faults compared. -/
namespace Go.L01
open Go Go.Eng Go.RowKit Go.Proofs
set_option maxRecDepth 100000
set_option maxHeartbeats 2000000
theorem flds31 : ((Tryz.prog.fieldsOf 31).toList.map fun f => (f.name == "_", f.type, f.offset)) = [(false, 29, 0), (false, 3, 1)] := by kernel_rfl
theorem stru31 : Tryz.prog.underlying 31 = some (.struct (Tryz.prog.fieldsOf 31)) := by kernel_rfl
theorem held31 : Tryz.prog.stoodInHeld 31 = false := by kernel_rfl
theorem g31 : Tryz.prog.eqGuardType Tryz.prog.depth 31 = false := by kernel_rfl
/-- A fault's value. -/
def encF (e l : Int) : Value := .agg #[.int .i64 e, .int .i64 l]
theorem eqFault (a b c d : Int) (w : World) : (Op.equalIn 10000 31 (encF a b) (encF c d)).run Tryz.prog w = .ok (decide (a = c) && decide (b = d)) w := by
  have hf := flds31
  obtain ⟨f1, f2, hfl⟩ : ∃ f1 f2, (Tryz.prog.fieldsOf 31).toList = [f1, f2] := by
    match h : (Tryz.prog.fieldsOf 31).toList with
    | [f1, f2] => exact ⟨f1, f2, rfl⟩
    | [] | [_] | _ :: _ :: _ :: _ => rw [h] at hf; simp at hf
  rw [hfl] at hf
  simp at hf
  obtain ⟨⟨n1, t1, o1⟩, n2, t2, o2⟩ := hf
  have e := run_equalIn_agg (P := Tryz.prog) w 9999 31 #[.int .i64 a, .int .i64 b] #[.int .i64 c, .int .i64 d] stru31 held31
  have p1 : ∀ (cs : Array Value) (v : Value) (off t : Nat), isAggT Tryz.prog t = some false → cs[off]? = some v → (Go.part t cs off).run Tryz.prog w = .ok v w := fun cs v off t h1 h2 => run_part1 h1 h2
  have i29 : isAggT Tryz.prog 29 = some false := by kernel_rfl
  have i3 : isAggT Tryz.prog 3 = some false := by kernel_rfl
  have q1 := run_equalIn_int (P := Tryz.prog) w 9998 29 .i64 .i64 a c (by kernel_rfl)
  have q3 := run_equalIn_int (P := Tryz.prog) w 9998 3 .i64 .i64 b d (by kernel_rfl)
  refine e.trans ?_
  rw [hfl]
  have a1 := p1 #[.int .i64 a, .int .i64 b] (.int .i64 a) 0 29 i29 rfl
  have a2 := p1 #[.int .i64 a, .int .i64 b] (.int .i64 b) 1 3 i3 rfl
  have b1 := p1 #[.int .i64 c, .int .i64 d] (.int .i64 c) 0 29 i29 rfl
  have b2 := p1 #[.int .i64 c, .int .i64 d] (.int .i64 d) 1 3 i3 rfl
  have hki : (a == c) = decide (a = c) := by rw [Bool.eq_iff_iff]; simp
  have hli : (b == d) = decide (b = d) := by rw [Bool.eq_iff_iff]; simp
  rw [hki] at q1
  rw [hli] at q3
  generalize decide (a = c) = x at q1
  generalize decide (b = d) = z at q3
  simp only [Nat.reduceAdd] at q1 q3
  cases x <;> cases z <;> simp [Op.eqFields, n1, n2, t1, t2, o1, o2, a1, a2, b1, b2, q1, q3]
end Go.L01
/- Layer 1: contracts: Apart. -/
namespace Go.L01
open Go Go.Eng Go.RowKit Go.Proofs
set_option maxRecDepth 100000
set_option maxHeartbeats 2000000

theorem err_of (s : Bs) (l : Int) : (∃ ts cs, scanAt s l = .ok ts cs) ∨ (∃ e x, scanAt s l = .bad e x ∧ e ≠ 0) := by
  refine scan_cases (P := fun s l => (∃ ts cs, scanAt s l = .ok ts cs) ∨ (∃ e x, scanAt s l = .bad e x ∧ e ≠ 0)) ?_ ?_ ?_ ?_ ?_ ?_ s l
  · intro l; exact .inl ⟨_, _, scanAt_nil l⟩
  · intro r l h; rw [scanAt_nl]; exact h
  · intro c r l hc h; rw [scanAt_sp r l hc]; exact h
  · intro a r l ha hr h
    rw [scanAt_com l ha hr]
    rcases h with ⟨ts, cs, h⟩ | ⟨e, x, h, he⟩
    · rw [h]; exact .inl ⟨_, _, rfl⟩
    · rw [h]; exact .inr ⟨e, x, rfl, he⟩
  · intro c r l h1 h2 h3 h4 h; rw [scanAt_err l h1 h2 h3 h4 h]; exact .inr ⟨_, _, rfl, h⟩
  · intro k s r l hr hf h
    rw [scanAt_tok (first_alone hr).1 hf (right_bytes hr)]
    rcases h with ⟨ts, cs, h⟩ | ⟨e, x, h, he⟩
    · rw [h]; exact .inl ⟨_, _, rfl⟩
    · rw [h]; exact .inr ⟨e, x, rfl, he⟩
theorem scan_ok (s : Bs) : (∃ ts cs, scan s = .ok ts cs) ∨ (∃ e x, scan s = .bad e x ∧ e ≠ 0) := by
  unfold scan
  split
  · exact .inr ⟨2, 0, rfl, by decide⟩
  · exact err_of s 1
theorem coms_none (s : Bs) (l : Int) (h : ∀ c ∈ s, c ≠ 37) : (scanAt s l).coms = [] := by
  have key : (∀ c ∈ s, c ≠ 37) → (scanAt s l).coms = [] := by
    refine scan_cases (P := fun s l => (∀ c ∈ s, c ≠ 37) → (scanAt s l).coms = []) ?_ ?_ ?_ ?_ ?_ ?_ s l
    · intro l _; rfl
    · intro r l h hc; rw [scanAt_nl]; exact h fun c hm => hc c (by simp [hm])
    · intro c r l hb h hc; rw [scanAt_sp r l hb]; exact h fun c hm => hc c (by simp [hm])
    · intro a r l ha hr h hc; exact absurd rfl (hc 37 (by simp))
    · intro c r l h1 h2 h3 h4 h hc; rw [scanAt_err l h1 h2 h3 h4 h]; rfl
    · intro k s r l hr hf h hc
      rw [scanAt_tok (first_alone hr).1 hf (right_bytes hr)]
      have := h fun c hm => hc c (by simp [hm])
      cases hx : scanAt r l with
      | bad e x => rfl
      | ok ts cs => rw [hx] at this; simpa [Res.add, Res.coms] using this
  exact key h
theorem apart_eq {a b : Tok} (h : rights a b = true) : apart a b = !(decide ((scan (a.text ++ b.text)).err = 0) && decide ((scan (a.text ++ b.text)).toks = [⟨a.kind, a.text, 1⟩, ⟨b.kind, b.text, 1⟩])) := by
  simp only [rights, Bool.and_eq_true] at h
  have hb : ∀ c ∈ a.text ++ b.text, c ≠ 37 := by
    intro c hc
    rcases List.mem_append.1 hc with hc | hc
    · exact (right_bytes h.1 c hc).2.1
    · exact (right_bytes h.2 c hc).2.1
  have hcm : (scan (a.text ++ b.text)).coms = [] := by
    unfold scan
    split
    · rfl
    · exact coms_none _ _ hb
  unfold apart
  congr 1
  rw [Bool.eq_iff_iff]
  simp only [Bool.and_eq_true, decide_eq_true_eq]
  rcases scan_ok (a.text ++ b.text) with ⟨ts, cs, hx⟩ | ⟨e, x, hx, he⟩
  · rw [hx] at hcm ⊢
    simp only [Res.coms] at hcm
    subst hcm
    simp [Res.err, Res.toks]
  · rw [hx]
    simp [Res.err, Res.toks, he]

@[simp] theorem cb23 : callB Tryz.prog 23 = true := by kernel_rfl
@[simp] theorem cb24 : callB Tryz.prog 24 = true := by kernel_rfl
def ApR (w : World) (a b : Tok) : Ending → World → Prop := fun e w' => e = .returned (.tuple #[.bool (rights a b && apart a b), .int .i64 (if rights a b then 0 else 1)]) ∧ Ext w w'
theorem t_Apart {w : World} (hG : G w) (a b : Tok) (ha : a.text.length ≤ 281474976710656) (hb : b.text.length ≤ 281474976710656) : Calls Tryz.prog 33 #[encK a, encK b] w (ApR w a b) := by
  refine ir33_calls fun ρ h0 h1 => ?_
  simp [ir33]
  refine eff_box fun B W hB hE hbk _ => ?_
  simp [h0, encK, Value.cells] at hbk
  simp
  refine eff_box fun B2 W2 hB2 hE2 hbk2 _ => ?_
  simp [h1, encK, Value.cells] at hbk2
  have hb1 := hbk.ext hE2
  have hE12 := hE.trans' hE2
  simp [hb1.cell]
  refine (t_right (hG.ext hE12) a ha).mono ?_
  rintro _ W3 ⟨rfl, hE3⟩
  have hE13 := hE12.trans' hE3
  cases hra : right a.kind a.text with
  | false =>
    simp [hra, rights, ApR]
    exact hE13
  | true =>
    simp [hra, (hbk2.ext hE3).cell]
    refine (t_right (hG.ext hE13) b hb).mono ?_
    rintro _ W4 ⟨rfl, hE4⟩
    have hE14 := hE13.trans' hE4
    cases hrb : right b.kind b.text with
    | false =>
      simp [hra, hrb, rights, ApR]
      exact hE14
    | true =>
      have hrt : rights a b = true := by simp [rights, hra, hrb]
      simp [hra, hrb, ir33_k1]
      have hb4 := (hb1.ext hE3).ext hE4
      have hb24 := (hbk2.ext hE3).ext hE4
      have hlt := hbk.lt
      refine eff_store1 (B := B) (i := 2) (by simp) hb4 (by simp) rfl rfl sz3 fun W5 hO5 hb5 => ?_
      simp at hb5
      simp
      refine eff_store1 (B := B2) (i := 2) (by simp) (hO5.blk hb24 (by omega)) (by simp) rfl rfl sz3 fun W6 hO6 hb6 => ?_
      simp at hb6
      have hb56 := hO6.blk hb5 (by omega)
      have hE16 : Ext w W6 := hO6.ext (hO5.ext hE14 hB) (by have := hE.size; omega)
      have happ : mkS a.text ++ mkS b.text = mkS (a.text ++ b.text) := by
        apply ByteArray.ext; apply Array.ext'; simp [mkS]
      have hml : a.text.length + b.text.length ≤ maxLen := by simp only [maxLen]; omega
      simp [hb56.cell, hb6.cell, happ, hml]
      refine (t_Scan (hG.ext hE16) (a.text ++ b.text) (by simp; omega)).mono ?_
      rintro _ W7 ⟨v, rfl, ho, hE7⟩
      have hK := SlK.own ho (by have := (scan_le (a.text ++ b.text)).1; omega)
      simp [fV]
      refine eff_alloc z31 fun B3 W8 hB3 hE8 hb8 _ => ?_
      simp
      refine eff_storeN (B := B3) (by simp) hb8 (by simp [Value.cells]) (by simp [Value.cells]) (by simpa [Value.cells] using sz31) fun W9 hO9 hb9 => ?_
      simp [Value.cells] at hb9
      have z6 := hE7.size
      have hl6 := hb6.lt
      have hl5 := hb56.lt
      have hE69 : Ext W6 W9 := hO9.ext (hE7.trans' hE8) (by omega)
      have hE79 : Ext W7 W9 := hO9.ext hE8 hB3
      have hE19 := hE16.trans' hE69
      have hb19 := hb56.ext hE69
      have hb29 := hb6.ext hE69
      have hK9 := hK.ext hE79
      have hap := apart_eq hrt
      generalize hsc : scan (a.text ++ b.text) = sc at *
      simp
      refine raw_ord ir33_o5_ok (Ext W9) fun W10 hE10 _ => ⟨hE10, ?_⟩
      have f9 : ∀ W, Ext W9 W → ∀ i, W.cell? ⟨B3, i, none⟩ = #[Value.int .i64 sc.err, .int .i64 sc.at][i]? := fun W h => (hb9.ext h).cell
      have fa : ∀ W, Ext W9 W → ∀ i, W.cell? ⟨B, i, none⟩ = #[Value.int .u8 (a.kind : Int), .string (mkS a.text), .int .i64 1][i]? := fun W h => (hb19.ext h).cell
      have fb : ∀ W, Ext W9 W → ∀ i, W.cell? ⟨B2, i, none⟩ = #[Value.int .u8 (b.kind : Int), .string (mkS b.text), .int .i64 1][i]? := fun W h => (hb29.ext h).cell
      simp (maxSteps := 2000000) +contextual -implicitDefEqProofs [ir33_o5, f9, fa, fb, hE10, bu31z]
      have hok := scan_ok (a.text ++ b.text)
      rw [hsc] at hok
      refine eff_neqT (xs := #[.int .i64 sc.err, .int .i64 sc.at]) (ys := #[.int .i64 0, .int .i64 0]) (by simp) (by simp) g31 (eqFault sc.err sc.at 0 0 _) ?_
      rcases hok with ⟨ts, cs, rfl⟩ | ⟨e, x, rfl, he⟩
      · simp only [Res.toks, Res.err, Res.at] at *
        have hE110 := hE19.trans' hE10
        by_cases h2 : ts.length = 2
        · obtain ⟨t0, t1, rfl⟩ : ∃ t0 t1, ts = [t0, t1] := by
            match ts, h2 with
            | [t0, t1], _ => exact ⟨t0, t1, rfl⟩
          have k0 : ∀ W, Ext W9 W → W.cell? (slAddr v 0) = some (.int .u8 (t0.kind : Int)) ∧ W.cell? (slAddr v 1) = some (.string (mkS t0.text)) ∧ W.cell? (slAddr v 2) = some (.int .i64 t0.line) := fun W h => by simpa using (hK9.ext h).cell 0 (by simp)
          have k1 : ∀ W, Ext W9 W → W.cell? (slAddr v 3) = some (.int .u8 (t1.kind : Int)) ∧ W.cell? (slAddr v 4) = some (.string (mkS t1.text)) ∧ W.cell? (slAddr v 5) = some (.int .i64 t1.line) := fun W h => by simpa using (hK9.ext h).cell 1 (by simp)
          simp (maxSteps := 2000000) +contextual -implicitDefEqProofs [hE10, hK9.is, hK9.len, k0, k1, fa, fb]
          refine eff_neqT (xs := #[.int .u8 (t0.kind : Int), .string (mkS t0.text), .int .i64 t0.line]) (ys := #[.int .u8 (a.kind : Int), .string (mkS a.text), .int .i64 1]) (by simp) (by simp) g38 (eqTok t0 ⟨a.kind, a.text, 1⟩ _) ?_
          by_cases e0 : t0 = ⟨a.kind, a.text, 1⟩
          · simp (maxSteps := 2000000) +contextual -implicitDefEqProofs [e0, hE10, hK9.is, hK9.len, k1, fa, fb]
            refine eff_neqT (xs := #[.int .u8 (t1.kind : Int), .string (mkS t1.text), .int .i64 t1.line]) (ys := #[.int .u8 (b.kind : Int), .string (mkS b.text), .int .i64 1]) (by simp) (by simp) g38 (eqTok t1 ⟨b.kind, b.text, 1⟩ _) ?_
            by_cases e1 : t1 = ⟨b.kind, b.text, 1⟩
            · simp [e1, ir33_k0, ApR, hrt, hap, e0]
              exact hE110
            · simp [e1, ir33_k0, ApR, hrt, hap, e0]
              exact hE110
          · simp [e0, hE10, ir33_k0, ApR, hrt, hap]
            exact hE110
        · have h2' : ¬ (ts.length : Int) = 2 := by omega
          have hne : ¬ ts = [⟨a.kind, a.text, 1⟩, ⟨b.kind, b.text, 1⟩] := fun e => h2 (by rw [e]; rfl)
          simp [hE10, hK9.is, hK9.len, h2, h2', ir33_k0, ApR, hrt, hap, hne]
          exact hE110
      · simp only [Res.toks, Res.err, Res.at] at *
        simp [he, hE10, ir33_k0, ApR, hrt, hap]
        exact hE19.trans' hE10
end Go.L01
/- Layer 1: contracts: Print. -/
namespace Go.L01
open Go Go.Eng Go.RowKit Go.Proofs
set_option maxRecDepth 100000
set_option maxHeartbeats 2000000

/-! ### The Builder, and what it leaves -/
/-- Blocks that are not of bytes, and not b, stay. -/
def Kp (b : Nat) (w w' : World) : Prop := ∀ k cs T, T ≠ 5 → k ≠ b → Blk w k cs T → Blk w' k cs T
theorem b_checkK {w : World} {B b : Nat} {bs : List Value} (h : Lib.IsBuilder 69 5 B b bs w) :
    Calls Tryz.prog 70 #[.pointer (some ⟨b, 0, none⟩)] w fun e w' => e = .returned (.tuple #[]) ∧ Lib.BuilderAt 69 5 B b (.pointer (some ⟨b, 0, none⟩)) bs w' ∧ Below B w w' ∧ Kp b w w' := by
  rcases h with h | h
  · refine (b_fresh b w h.cell0 h.shape h.frozen0).mono ?_
    rintro _ _ ⟨rfl, rfl⟩
    exact ⟨rfl, h.used _, (Below.refl B w).setCell (p := ⟨b, 0, none⟩) h.1 _, fun k cs T _ hk hb => (only_setCell w b 0 _).blk hb hk⟩
  · refine (b_used b w h.cell0).mono ?_
    rintro _ _ ⟨rfl, rfl⟩
    exact ⟨rfl, h, Below.refl B _, fun k cs T _ _ hb => hb⟩
theorem Bd.ext {B b : Nat} {bs : Bs} {w w' : World} (h : Bd B b bs w) (hE : Ext w w') : Bd B b bs w' := by
  rcases h with h | h
  all_goals
    have hlt := h.lt
    obtain ⟨hB, v, hb, hown, hne⟩ := h
    have hr : w'.ownsRow B 5 1 v (bs.map encB).length (bs.map encB) := by
      have := hown.kept (w' := w') (row := none) ⟨hE.os, hE.tape, hE.output, hE.size, fun k hk _ => hE.block k hk⟩ (by cases v.ownBlock <;> simp)
      simpa using this
  · exact .inl ⟨hB, v, (hE.block b hlt).trans hb, hr, hne⟩
  · exact .inr ⟨hB, v, (hE.block b hlt).trans hb, hr, hne⟩
theorem Bd.lt {B b : Nat} {bs : Bs} {w : World} (h : Bd B b bs w) : b < w.heap.size := by
  rcases h with h | h <;> exact h.lt
theorem b_byteK {w : World} {B b : Nat} {bs : Bs} (c : UInt8) (h : Bd B b bs w) (hlen : bs.length ≤ 100000000) (hBw : B ≤ w.heap.size) :
    Calls Tryz.prog 52 #[.pointer (some ⟨b, 0, none⟩), encB c] w fun e w' => e = .returned .nilIface ∧ Bd B b (bs ++ [c]) w' ∧ Below B w w' ∧ Kp b w w' := by
  refine ir52_calls fun ρ h0 h1 => ?_
  simp [ir52, h0, cb70]
  refine (b_checkK h).mono ?_
  rintro _ w1 ⟨rfl, ⟨hB, v, hbk, hown, hne⟩, hb1, hkp⟩
  have hb : Blk w1 b #[.pointer (some ⟨b, 0, none⟩), v] 69 := ⟨hbk⟩
  simp [h0, h1, hb.cell]
  refine eff_lit si67 (by decide) (by decide) (by simp [Value.cells, encB]) fun B2 W2 hB2 hE2 hb2 _ => ?_
  simp [Value.cells, encB] at hb2
  obtain ⟨i, hi, hz, hs, hby⟩ := info5
  have hBs := hb1.size
  have hlt := hb.lt
  obtain ⟨v', W3, hr, hown3, hg3, _⟩ := run_append_own (P := Tryz.prog) W2 B 67 67 5 i (.int .u8 0) 1 1 Tryz.underlying67 hi hz hs hby rfl (by decide) v bs.length (bs.map encB) (by
    have := hown.kept (w' := W2) (row := none) ⟨hE2.os, hE2.tape, hE2.output, hE2.size, fun k hk _ => hE2.block k hk⟩ (by cases v.ownBlock <;> simp)
    simpa using this) ⟨B2, 0, none⟩ 1 1 [.int .u8 c.toNat] rfl (fun j u hj => by
      match j, hj with
      | 0, hj => simp at hj; subst hj; simp [hb2.cell]) (fun u hu => by simp at hu; subst hu; rfl) (by simp only [maxLen]; omega) (by omega) (by have := hE2.size; omega)
  have hown3' : W3.ownsRow B 5 1 v' ((bs ++ [c]).map encB).length ((bs ++ [c]).map encB) := by simpa [encB] using hown3
  have hb3 : Blk W3 b #[.pointer (some ⟨b, 0, none⟩), v] 69 := ⟨(hg3.block b (by have := hE2.size; omega) (fun e => hne e.symm)).trans ((hE2.block b hlt).trans hbk)⟩
  refine effE_ok (v := v') (w' := W3) (by simp [execOp, effOp, resolve, invoke, builtin, hr]) ?_
  have hv1 : v'.cells = #[v'] ∧ v'.oneCell = true := by
    rcases hown3'.2 with ⟨rfl, _⟩ | ⟨g, cap, cur, rfl, _⟩ <;> exact ⟨rfl, rfl⟩
  simp
  refine eff_store1 (B := b) (i := 1) (by simp) hb3 (by simp) (by simp; exact hv1.1) (by simp; exact hv1.2) sz67 fun W4 hO4 hb4 => ?_
  simp at hb4 ⊢
  refine ⟨.inr (put_at hB hb3 hown3' W4 hO4 hb4), ?_, ?_⟩
  · have h2 : Below B w W2 := Below.trans hb1 (hE2.mono (by omega))
    have h3 : Below B w W3 := h2.grown hg3 (by have := hE2.size; omega) fun k hk => (hown.lt k hk).1
    exact Below.trans h3 (only_below hO4 hB)
  · intro k cs T hT hk hbk0
    have g1 := hkp k cs T hT hk hbk0
    have g2 := g1.ext hE2
    have hnk : v.ownBlock ≠ some k := Lib.ownBlock_ne hown g1.heap hT
    have g3 : Blk W3 k cs T := ⟨(hg3.block k g2.lt (fun e => hnk e.symm)).trans g2.heap⟩
    exact hO4.blk g3 hk

/-! ### Printing, plainly -/
theorem check_zero {l : List Tok} (h : (check l).2 = 0) : ∀ i, i < l.length → badT l i = 0 := by
  intro i hi
  unfold check at h
  split at h
  · rename_i j hj
    have := List.find?_some hj
    simp at this h
    exact absurd h this
  · rename_i hn
    rw [List.find?_eq_none] at hn
    have := hn i (List.mem_range.2 hi)
    simpa using this
theorem right_len {k : Nat} {s : Bs} (h : right k s = true) : s.length ≤ 12 := by
  unfold right at h
  split at h
  · simp only [isName, Bool.and_eq_true, decide_eq_true_eq] at h; omega
  · split at h
    · exact (show ∀ s ∈ wordsL, s.length ≤ 12 by decide) s (by simpa [isWord] using h)
    · split at h
      · simp only [isNumber, Bool.and_eq_true, Bool.not_eq_true', Bool.or_eq_false_iff, decide_eq_false_iff_not] at h; omega
      · split at h
        · exact (show ∀ s ∈ signsL, s.length ≤ 12 by decide) s (by simpa [isSign] using h)
        · cases h
/-- What a token of a list without fault is. -/
theorem tok_ok {l : List Tok} (h : ∀ i, i < l.length → badT l i = 0) {k : Nat} (hk : k < l.length) : k < 20000 ∧ right l[k].kind l[k].text = true ∧ 1 ≤ l[k].line ∧ l[k].line ≤ 20000 ∧ lineB l k ≤ l[k].line := by
  have hb := h k hk
  have h2 : k < 20000 := by
    apply Classical.byContradiction
    intro hn
    rw [badT_2 (by omega)] at hb; cases hb
  rw [badT_of hk h2] at hb
  split at hb
  · cases hb
  · rename_i hn
    simp only [Bool.or_eq_true, not_or, decide_eq_true_eq, Bool.and_eq_true, not_and, Bool.not_eq_true', Bool.not_eq_false] at hn
    obtain ⟨⟨⟨h3, h4⟩, h5⟩, h6⟩ := hn
    refine ⟨h2, h3, by omega, by omega, ?_⟩
    unfold lineB
    split
    · omega
    · have := h6 (by omega); omega
theorem lineB_succ {l : List Tok} {k : Nat} (hk : k < l.length) : lineB l (k + 1) = l[k].line := by simp [lineB, List.getD_eq_getElem?_getD, hk]
theorem printFrom_snoc (t : Tok) : ∀ (a : List Tok) (i : Nat) (last : Int), printFrom i last (a ++ [t]) = printFrom i last a ++ (sepL (i + a.length) (a.foldl (fun m x => max m x.line) last) t.line ++ t.text)
  | [], i, last => by simp [printFrom]
  | x :: a, i, last => by
    rw [List.cons_append, printFrom, printFrom, printFrom_snoc t a]
    simp [Nat.add_assoc, Nat.add_comm 1]
theorem fold_lineB {l : List Tok} (h : ∀ i, i < l.length → badT l i = 0) : ∀ k, k ≤ l.length → (l.take k).foldl (fun m x => max m x.line) 1 = lineB l k
  | 0, _ => by simp [lineB]
  | k + 1, hk => by
    have hlt : k < l.length := by omega
    rw [List.take_add_one, List.getElem?_eq_getElem hlt, Option.toList_some, List.foldl_append, fold_lineB h k (by omega), lineB_succ hlt]
    have := (tok_ok h hlt).2.2.2.2
    simp only [List.foldl_cons, List.foldl_nil]
    omega
/-- What is printed of the first k tokens. -/
def preP (l : List Tok) (k : Nat) : Bs := printFrom 0 1 (l.take k)
theorem preP_succ {l : List Tok} (h : ∀ i, i < l.length → badT l i = 0) {k : Nat} (hk : k < l.length) : preP l (k + 1) = preP l k ++ (sepL k (lineB l k) l[k].line ++ l[k].text) := by
  unfold preP
  rw [List.take_add_one, List.getElem?_eq_getElem hk, Option.toList_some, printFrom_snoc, fold_lineB h k (by omega), List.length_take, Nat.min_eq_left (by omega), Nat.zero_add]
theorem preP_le {l : List Tok} (h : ∀ i, i < l.length → badT l i = 0) : ∀ k, k ≤ l.length → ((preP l k).length : Int) ≤ 13 * k + lineB l k
  | 0, _ => by simp [preP, printFrom, lineB]
  | k + 1, hk => by
    have hlt : k < l.length := by omega
    have ih := preP_le h k (by omega)
    obtain ⟨_, h2, h3, h4, h5⟩ := tok_ok h hlt
    have h6 := right_len h2
    rw [preP_succ h hlt, lineB_succ hlt]
    simp only [List.length_append, sepL, List.length_replicate]
    have : ((if 0 < k ∧ l[k].line = lineB l k then [32] else [] : Bs).length : Int) ≤ 1 := by split <;> simp
    omega
def prE (l : List Tok) : Int := if (check l).2 = 0 then (if 20000 < (printL l).length then 2 else 0) else (check l).2
def prS (l : List Tok) : Bs := if prE l = 0 then printL l else []
def PrR (w : World) (l : List Tok) : Ending → World → Prop := fun e w' => e = .returned (.tuple #[.string (mkS (prS l)), .int .i64 (prE l)]) ∧ Ext w w'

/-! ### Print -/
@[simp] theorem cb29 : callB Tryz.prog 29 = true := by kernel_rfl
@[simp] theorem cb30 : callB Tryz.prog 30 = true := by kernel_rfl
@[simp] theorem cb52 : callB Tryz.prog 52 = true := by kernel_rfl
@[simp] theorem cb53 : callB Tryz.prog 53 = true := by kernel_rfl
@[simp] theorem cb54 : callB Tryz.prog 54 = true := by kernel_rfl
@[simp] theorem cb55 : callB Tryz.prog 55 = true := by kernel_rfl
theorem z69 : zeroCellsOf Tryz.prog 69 = some #[.pointer none, .slice none 0 0] := by kernel_rfl
theorem pr_tail {b B9 : Nat} {W w : World} {ρ : Env} {acc : Bs} {t : Tok} {line : Int} {KK : Env → World → Prop} {Q : Ks} (hW : Below b W w) (hsz : b ≤ W.heap.size) (hb : Bd b b acc w) (h9b : Blk w B9 #[.int .u8 (t.kind : Int), .string (mkS t.text), .int .i64 t.line] 38) (hne : B9 ≠ b)
    (hp6 : ρ 6 = .pointer (some ⟨b, 0, none⟩)) (h9 : ρ 9 = .pointer (some ⟨B9, 0, none⟩)) (h7 : ρ 7 = .int .i64 line) (hl1 : 0 ≤ line) (hl : line ≤ t.line) (ht : t.line ≤ 20000) (hlen : (acc.length : Int) + (t.line - line) + t.text.length ≤ 1000000)
    (hK : ∀ ρ3 W3, Below b W W3 → Bd b b (acc ++ List.replicate (t.line - line).toNat 10 ++ t.text) W3 → (∀ s, s = 0 ∨ s = 6 ∨ s = 18 ∨ s = 19 ∨ s = 20 → ρ3 s = ρ s) → ρ3 7 = .int .i64 t.line → KK ρ3 W3) : ir31_k4.wp ⟨Tryz.prog, 52, ir31_V, []⟩ KK Q ρ w := by
  simp [ir31_k4]
  refine loopI (fun ρ' w' => ∃ n : Nat, line + n ≤ t.line ∧ ρ' 7 = .int .i64 (line + n) ∧ Below b W w' ∧ Bd b b (acc ++ List.replicate n 10) w' ∧ Blk w' B9 #[.int .u8 (t.kind : Int), .string (mkS t.text), .int .i64 t.line] 38 ∧ ρ' 9 = ρ 9 ∧ ∀ s, s = 0 ∨ s = 6 ∨ s = 18 ∨ s = 19 ∨ s = 20 → ρ' s = ρ s) (fun ρ' _ => (t.line - RowKit.intOf (ρ' 7)).toNat) ⟨0, by simpa using hl, by simpa using h7, hW, by simpa using hb, h9b, rfl, fun _ _ => rfl⟩ ?_
  rintro ρ' w' ⟨n, hn, h7', hW', hb', h9b', h9', hfr⟩
  have h6' : ρ' 6 = .pointer (some ⟨b, 0, none⟩) := (hfr 6 (by simp)).trans hp6
  simp [ir31_l2, h7', h9', h9, h9b'.cell]
  have hlt := hb'.lt
  by_cases hlt : line + n < t.line
  · simp [hlt, ir31_k1, h6']
    refine (b_byteK 10 hb' (by simp; omega) (by omega)).mono ?_
    rintro _ w2 ⟨rfl, hb2, hB2, hkp⟩
    simp [ir31_k0, h7', i64w (n := line + (n : Int) + 1) (by omega)]
    refine ⟨⟨n + 1, by omega, by simp; omega, Below.trans hW' hB2, ?_, hkp _ _ _ (by decide) hne h9b', h9'.trans h9, ⟨hfr 0 (by simp), hfr 6 (by simp), hfr 18 (by simp), hfr 19 (by simp), hfr 20 (by simp)⟩⟩, by omega⟩
    rw [List.replicate_succ', ← List.append_assoc]; exact hb2
  · have hn' : n = (t.line - line).toNat := by omega
    simp [hlt, ir31_k3, h9', h9, h9b'.cell, h6']
    refine (b_str t.text hb' (by simp; omega) (by omega)).mono ?_
    rintro _ w2 ⟨rfl, hb2, hB2⟩
    simp
    refine hK _ _ (Below.trans hW' hB2) (by rw [← hn']; exact hb2) ?_ ?_
    · rintro s (rfl | rfl | rfl | rfl | rfl) <;> simp [hfr]
    · simp [h7']; omega
theorem t_Print {w : World} (hG : G w) {v : Value} {l : List Tok} (hl : SlK w v l) (hx : ∀ t ∈ l, t.text.length ≤ 281474976710656) : Calls Tryz.prog 31 #[v] w (PrR w l) := by
  have hbd := hl.bd
  refine ir31_calls fun ρ h0 => ?_
  simp [ir31, h0]
  refine (t_Check hG hl hx).mono ?_
  rintro _ w1 ⟨rfl, hE1⟩
  simp
  by_cases he : ¬ (check l).2 = 0
  · simp [he, PrR, prE, prS]; exact ⟨rfl, hE1⟩
  replace he : (check l).2 = 0 := Decidable.not_not.1 he
  have hall := check_zero he
  simp [he, ir31_k11, h0]
  refine eff_alloc z69 fun b W hb0 hE2 hb _ => ?_
  have hbW := hb.lt
  have hEW := hE1.trans' hE2
  have hfresh : Bd b b [] W := .inl ⟨Nat.le_refl _, .slice none 0 0, hb.heap, World.ownsRow_nil _ _ _ _, by simp [Value.ownBlock]⟩
  have hl2 := hl.ext hEW
  have hEx : ∀ {w'}, Below b W w' → Ext w w' := fun h => hE1.trans' (Below.trans hE2 (h.mono hb0))
  simp [h0, hl2.is, hl2.len]
  refine loopC 20 l.length (fun k ρ' w' => Below b W w' ∧ Bd b b (preP l k) w' ∧ ρ' 0 = v ∧ ρ' 6 = .pointer (some ⟨b, 0, none⟩) ∧ ρ' 7 = .int .i64 (lineB l k) ∧ ρ' 18 = v ∧ ρ' 19 = .int .i64 l.length) (by simp) ⟨Below.refl _ _, by simpa [preP, printFrom] using hfresh, by simp [h0], by simp, by simp [lineB], by simp, by simp⟩ ?_
  rintro k ρ' w' hk h20 ⟨hB', hb', h0', h6', h7', h18', h19'⟩
  have hE' := hEx hB'
  have hl' := hl.ext hE'
  have hple := preP_le hall k hk
  by_cases hlt : k < l.length
  · obtain ⟨c0, c1, c2⟩ := hl'.cell k hlt
    obtain ⟨hk2, hr, hln1, hln2, hln3⟩ := tok_ok hall hlt
    have hrl := right_len hr
    have hlb1 : 1 ≤ lineB l k := by
      unfold lineB
      split
      · omega
      · rename_i hk0
        have := (tok_ok hall (show k - 1 < l.length by omega)).2.2.1
        have e : l.getD (k - 1) ⟨0, [], 0⟩ = l[k - 1] := by simp [List.getD_eq_getElem?_getD, show k - 1 < l.length by omega]
        rw [e]; omega
    simp [ir31_l7, ir31_k6, h20, h18', h19', hlt, hl'.is, hl'.len, c0, c1, c2]
    refine eff_alloc z38 fun B9 W9 hB9 hE9 hb9 _ => ?_
    simp
    refine eff_storeN (B := B9) (by simp) hb9 (by simp [Value.cells]) (by simp [Value.cells]) (by simpa [Value.cells] using sz38) fun W10 hO10 hb10 => ?_
    simp [Value.cells] at hb10
    have hlt' := hb'.lt
    have hE10 : Ext w' W10 := hO10.ext hE9 (by omega)
    have hB10 : Below b W W10 := Below.trans hB' (hE10.mono (by omega))
    have hbd10 := hb'.ext hE10
    have hs10 := hE10.size
    simp [h20, h7', hb10.cell]
    have step : ∀ ρ3 W3, Below b W W3 → Bd b b (preP l (k + 1)) W3 → ρ3 0 = v → ρ3 6 = .pointer (some ⟨b, 0, none⟩) → ρ3 18 = v → ρ3 19 = .int .i64 (l.length : Int) → ρ3 20 = .int .i64 (k : Int) → ρ3 7 = .int .i64 (lineB l (k + 1)) →
        ∀ {Q : Ks}, ir31_k5.wp ⟨Tryz.prog, 52, ir31_V, []⟩ (fun ρ'' w'' => ρ'' 20 = .int .i64 ((k : Int) + 1) ∧ Below b W w'' ∧ Bd b b (preP l (k + 1)) w'' ∧ ρ'' 0 = v ∧ ρ'' 6 = .pointer (some ⟨b, 0, none⟩) ∧ ρ'' 7 = .int .i64 (lineB l (k + 1)) ∧ ρ'' 18 = v ∧ ρ'' 19 = .int .i64 l.length) Q ρ3 W3 := by
      intro ρ3 W3 g1 g2 g3 g4 g5 g6 g7 g8 Q
      simp [ir31_k5, g7, i64w (n := (k : Int) + 1) (by omega), g1, g2, g3, g4, g5, g6, g8]
    by_cases hsp : 0 < k ∧ l[k].line = lineB l k
    · have h0k : (0 : Int) < k := by omega
      simp [hsp.1, h0k, hsp.2, h6']
      refine (b_byteK 32 hbd10 (by omega) (by omega)).mono ?_
      rintro _ W11 ⟨rfl, hb11, hB11, hkp⟩
      simp
      refine pr_tail (b := b) (B9 := B9) (W := W) (acc := preP l k ++ [32]) (t := l[k]) (line := lineB l k) (Below.trans hB10 hB11) (by omega) hb11 (hkp _ _ _ (by decide) (by omega) hb10) (by omega) (by simp [h6']) (by simp) (by simp [h7']) (by omega) (by omega) hln2 (by simp; omega) ?_
      intro ρ3 W3 hB3 hb3 hfr h73
      refine step ρ3 W3 hB3 ?_ ?_ ?_ ?_ ?_ ?_ ?_
      · rw [preP_succ hall hlt, sepL, if_pos hsp]; simpa using hb3
      · rw [hfr 0 (by simp)]; simp [h0']
      · rw [hfr 6 (by simp)]; simp [h6']
      · rw [hfr 18 (by simp)]; simp [h18']
      · rw [hfr 19 (by simp)]; simp [h19']
      · rw [hfr 20 (by simp)]; simp [h20]
      · rw [lineB_succ hlt]; exact h73
    · have hcond : (decide (0 < k) && decide (l[k].line = lineB l k)) = false := by
        simp only [Bool.and_eq_false_iff, decide_eq_false_iff_not]
        by_cases h0k : 0 < k
        · exact .inr fun e => hsp ⟨h0k, e⟩
        · exact .inl h0k
      by_cases h0k : 0 < k
      · have h0k' : (0 : Int) < k := by omega
        have hne : ¬ l[k].line = lineB l k := fun e => hsp ⟨h0k, e⟩
        simp [h0k, h0k', hne]
        refine pr_tail (b := b) (B9 := B9) (W := W) (acc := preP l k) (t := l[k]) (line := lineB l k) hB10 (by omega) hbd10 hb10 (by omega) (by simp [h6']) (by simp) (by simp [h7']) (by omega) (by omega) hln2 (by omega) ?_
        intro ρ3 W3 hB3 hb3 hfr h73
        refine step ρ3 W3 hB3 ?_ ?_ ?_ ?_ ?_ ?_ ?_
        · rw [preP_succ hall hlt, sepL, if_neg hsp]; simpa using hb3
        · rw [hfr 0 (by simp)]; simp [h0']
        · rw [hfr 6 (by simp)]; simp [h6']
        · rw [hfr 18 (by simp)]; simp [h18']
        · rw [hfr 19 (by simp)]; simp [h19']
        · rw [hfr 20 (by simp)]; simp [h20]
        · rw [lineB_succ hlt]; exact h73
      · have h0k' : ¬ (0 : Int) < k := by omega
        simp [h0k, h0k']
        refine pr_tail (b := b) (B9 := B9) (W := W) (acc := preP l k) (t := l[k]) (line := lineB l k) hB10 (by omega) hbd10 hb10 (by omega) (by simp [h6']) (by simp) (by simp [h7']) (by omega) (by omega) hln2 (by omega) ?_
        intro ρ3 W3 hB3 hb3 hfr h73
        refine step ρ3 W3 hB3 ?_ ?_ ?_ ?_ ?_ ?_ ?_
        · rw [preP_succ hall hlt, sepL, if_neg hsp]; simpa using hb3
        · rw [hfr 0 (by simp)]; simp [h0']
        · rw [hfr 6 (by simp)]; simp [h6']
        · rw [hfr 18 (by simp)]; simp [h18']
        · rw [hfr 19 (by simp)]; simp [h19']
        · rw [hfr 20 (by simp)]; simp [h20]
        · rw [lineB_succ hlt]; exact h73
  · have hk' : k = l.length := by omega
    subst hk'
    have hpe : prE l = if 20000 < (printL l).length then 2 else 0 := by rw [prE, if_pos he]
    have hfin : preP l l.length = printFrom 0 1 l := by simp [preP]
    have h20k : l.length ≤ 20000 := by
      by_cases h0 : l.length = 0
      · omega
      · have := (tok_ok hall (show l.length - 1 < l.length by omega)).1; omega
    have hlb : lineB l l.length ≤ 20000 := by
      unfold lineB
      split
      · omega
      · have := (tok_ok hall (show l.length - 1 < l.length by omega)).2.2.2.1
        have e : l.getD (l.length - 1) ⟨0, [], 0⟩ = l[l.length - 1] := by simp [List.getD_eq_getElem?_getD, show l.length - 1 < l.length by omega]
        rw [e]; omega
    rw [hfin] at hb' hple
    have tail : ∀ ρ3 W3, Below b W W3 → Bd b b (printL l) W3 → ρ3 6 = .pointer (some ⟨b, 0, none⟩) → ir31_k9.wp ⟨Tryz.prog, 52, ir31_V, []⟩ (retK [.tmp 2, .tmp 3] (PrR w l)) (ksOf [.tmp 2, .tmp 3] (PrR w l)) ρ3 W3 := by
      intro ρ3 W3 hB3 hb3 h63
      have hlt3 := hb3.lt
      simp [ir31_k9, h63]
      refine (b_len hb3).mono ?_
      rintro _ _ ⟨rfl, rfl⟩
      by_cases hbig : 20000 < (printL l).length
      · have hbig' : (20000 : Int) < (printL l).length := by omega
        simp [hbig', PrR, prS, hpe, hbig]
        exact ⟨rfl, hEx hB3⟩
      · have hbig' : ¬ (20000 : Int) < (printL l).length := by omega
        simp [hbig', ir31_k8, h63]
        refine (b_string hb3 (by omega)).mono ?_
        rintro _ W4 ⟨rfl, hB4⟩
        simp [PrR, prS, hpe, hbig]
        exact hEx (Below.trans hB3 hB4)
    simp [ir31_l7, h20, h19', ir31_k10, h0', hl'.is, hl'.len]
    by_cases hl0 : l = []
    · subst hl0
      simp
      exact tail _ _ hB' (by simpa [printL] using hb') (by simp [h6'])
    · have hpos : 0 < l.length := List.length_pos_iff.2 hl0
      have hpos' : (0 : Int) < l.length := by omega
      simp [hl0, hpos, hpos', h6']
      have hlt' := hb'.lt
      refine (b_byteK 10 hb' (by omega) (by omega)).mono ?_
      rintro _ W11 ⟨rfl, hb11, hB11, hkp⟩
      simp
      exact tail _ _ (Below.trans hB' hB11) (by simpa [printL, hl0] using hb11) (by simp [h6'])
end Go.L01
/- Layer 1, plainly: what is printed is read again; the shortest text; comments; two tokens. -/
namespace Go.L01
open Go.Eng
set_option maxRecDepth 100000

/-! ### Lists of tokens that can be printed -/
def Srt : Int → List Tok → Prop
  | _, [] => True
  | last, t :: ts => last ≤ t.line ∧ right t.kind t.text = true ∧ Srt t.line ts
theorem Srt.mono {a b : Int} {ts : List Tok} (h : Srt b ts) (hab : a ≤ b) : Srt a ts := by
  cases ts with
  | nil => trivial
  | cons t ts => exact ⟨Int.le_trans hab h.1, h.2.1, h.2.2⟩
theorem Srt.right {a : Int} : ∀ {ts : List Tok}, Srt a ts → ∀ t ∈ ts, L01.right t.kind t.text = true ∧ a ≤ t.line
  | [], _, t, ht => by simp at ht
  | x :: xs, h, t, ht => by
    rcases List.mem_cons.1 ht with rfl | ht
    · exact ⟨h.2.1, h.1⟩
    · have := Srt.right (h.2.2.mono h.1) t ht; exact this
theorem Srt.at {a : Int} : ∀ {ts : List Tok}, Srt a ts → ∀ i (hi : i + 1 < ts.length), ts[i].line ≤ ts[i + 1].line
  | [], _, i, hi => by simp at hi
  | [x], _, i, hi => by simp at hi
  | x :: y :: xs, h, 0, hi => h.2.2.1
  | x :: y :: xs, h, i + 1, hi => by
    have := Srt.at h.2.2 i (by simpa using hi)
    simpa using this
theorem srt_of {l : List Tok} (h : ∀ i, i < l.length → badT l i = 0) : Srt 1 l := by
  have key : ∀ n k, k + n = l.length → Srt (lineB l k) (l.drop k) := by
    intro n
    induction n with
    | zero => intro k hk; rw [List.drop_eq_nil_of_le (by omega)]; trivial
    | succ n ih =>
      intro k hk
      have hlt : k < l.length := by omega
      obtain ⟨_, h2, _, _, h5⟩ := tok_ok h hlt
      rw [List.drop_eq_getElem_cons hlt]
      refine ⟨h5, h2, ?_⟩
      rw [← lineB_succ hlt]
      exact ih (k + 1) (by omega)
  have := key l.length 0 (by omega)
  simpa [lineB] using this
theorem check_srt {l : List Tok} (h : Srt 1 l) (h1 : ∀ t ∈ l, t.line ≤ 20000) (h2 : l.length ≤ 20000) : check l = (0, 0) := by
  refine check_none fun i hi => ?_
  rw [badT_of hi (by omega)]
  obtain ⟨hr, hl⟩ := h.right l[i] (List.getElem_mem hi)
  have hx := h1 l[i] (List.getElem_mem hi)
  have hp : (decide (0 < i) && decide (l[i].line < (l.getD (i - 1) ⟨0, [], 0⟩).line)) = false := by
    by_cases h0 : 0 < i
    · have e : l.getD (i - 1) ⟨0, [], 0⟩ = l[i - 1] := by simp [List.getD_eq_getElem?_getD, show i - 1 < l.length by omega]
      have := h.at (i - 1) (by omega)
      have e2 : i - 1 + 1 = i := by omega
      simp only [e2] at this
      rw [e]
      simp; omega
    · simp [h0]
  rw [hr, hp]
  simp; omega
/-- What is read is sorted and right, on lines from the first on. -/
theorem srt_scan (s : Bs) (l : Int) : Srt l (scanAt s l).toks ∧ ∀ t ∈ (scanAt s l).toks, t.line ≤ l + s.length := by
  refine scan_cases (P := fun s l => Srt l (scanAt s l).toks ∧ ∀ t ∈ (scanAt s l).toks, t.line ≤ l + s.length) ?_ ?_ ?_ ?_ ?_ ?_ s l
  · intro l; exact ⟨trivial, by simp [scanAt_nil, Res.toks]⟩
  · intro r l h
    rw [scanAt_nl]
    exact ⟨h.1.mono (by omega), fun t ht => by have := h.2 t ht; simp only [List.length_cons]; omega⟩
  · intro c r l hc h
    rw [scanAt_sp r l hc]
    exact ⟨h.1, fun t ht => by have := h.2 t ht; simp only [List.length_cons]; omega⟩
  · intro a r l ha hr h
    rw [scanAt_com l ha hr]
    cases hx : scanAt r l with
    | bad e x => exact ⟨trivial, by simp [Res.add, Res.toks]⟩
    | ok ts cs =>
      rw [hx] at h
      refine ⟨by simpa [Res.add, Res.toks] using h.1, fun t ht => ?_⟩
      have := h.2 t (by simpa [Res.add, Res.toks] using ht)
      simp only [List.length_append, List.length_cons]; omega
  · intro c r l h1 h2 h3 h4 h
    rw [scanAt_err l h1 h2 h3 h4 h]
    exact ⟨trivial, by simp [Res.toks]⟩
  · intro k s r l hr hf h
    rw [scanAt_tok (first_alone hr).1 hf (right_bytes hr)]
    cases hx : scanAt r l with
    | bad e x => exact ⟨trivial, by simp [Res.add, Res.toks]⟩
    | ok ts cs =>
      rw [hx] at h
      refine ⟨⟨Int.le_refl _, hr, by simpa [Res.toks] using h.1⟩, fun t ht => ?_⟩
      simp only [Res.add, Res.toks, List.cons_append, List.nil_append, List.mem_cons] at ht
      rcases ht with rfl | ht
      · show l ≤ _; omega
      · have := h.2 t ht
        simp only [List.length_append]; omega

/-! ### Printed, then read -/
theorem scanAt_nls (r : Bs) : ∀ (n : Nat) (l : Int), scanAt (List.replicate n 10 ++ r) l = scanAt r (l + n)
  | 0, l => by simp
  | n + 1, l => by
    rw [List.replicate_succ, List.cons_append, scanAt_nl, scanAt_nls r n]
    congr 1; omega
theorem print_scan : ∀ (ts : List Tok) (i : Nat) (last : Int), Srt last ts → scanAt (printFrom i last ts ++ [10]) last = .ok ts []
  | [], i, last, _ => rfl
  | t :: ts, i, last, h => by
    obtain ⟨h1, h2, h3⟩ := h
    have hm : max last t.line = t.line := by omega
    rw [printFrom, hm]
    have ih := print_scan ts (i + 1) t.line h3
    have hrest : ∃ c x, printFrom (i + 1) t.line ts ++ [10] = c :: x ∧ blank c = true := by
      cases ts with
      | nil => exact ⟨10, [], rfl, by decide⟩
      | cons u us =>
        rw [printFrom, sepL]
        by_cases hl : u.line = t.line
        · exact ⟨32, u.text ++ (printFrom (i + 1 + 1) (max t.line u.line) us ++ [10]), by simp [hl], by decide⟩
        · have hgt : t.line < u.line := by have := h3.1; omega
          obtain ⟨m, hm⟩ : ∃ m, (u.line - t.line).toNat = m + 1 := ⟨(u.line - t.line).toNat - 1, by omega⟩
          exact ⟨10, List.replicate m 10 ++ (u.text ++ (printFrom (i + 1 + 1) (max t.line u.line) us ++ [10])), by rw [hm]; simp [hl, List.replicate_succ], by decide⟩
    have hf := first_right (r := printFrom (i + 1) t.line ts ++ [10]) h2 (.inr hrest)
    have htok := scanAt_tok (l := t.line) (first_alone h2).1 hf (right_bytes h2)
    have hsep : scanAt (sepL i last t.line ++ (t.text ++ (printFrom (i + 1) t.line ts ++ [10]))) last = scanAt (t.text ++ (printFrom (i + 1) t.line ts ++ [10])) t.line := by
      unfold sepL
      by_cases hc : 0 < i ∧ t.line = last
      · rw [if_pos hc, hc.2]
        simp only [Int.sub_self, Int.toNat_zero, List.replicate_zero, List.append_nil, List.cons_append, List.nil_append]
        exact scanAt_sp _ _ (.inl rfl)
      · rw [if_neg hc, List.nil_append, scanAt_nls]
        congr 1; omega
    rw [List.append_assoc, List.append_assoc, hsep, htok, ih]
    rfl
theorem print_scanL {l : List Tok} (h : (check l).2 = 0) (h2 : (printL l).length ≤ 20000) : scan (printL l) = .ok l [] := by
  have hs := srt_of (check_zero h)
  unfold scan
  rw [if_neg (by omega)]
  unfold printL
  by_cases h0 : l = []
  · subst h0; rfl
  · rw [if_neg h0]; exact print_scan l 0 1 hs

/-! ### Two tokens -/
theorem kind_of {k m : Nat} {s : Bs} (h : right k s = true) (g : right m s = true) : k = m := by
  have h1 := (first_alone h).2
  rw [(first_alone g).2] at h1
  exact (Prod.mk.inj h1).1.symm
theorem scanAt_short {s : Bs} (h : s.length ≤ 20000) : scan s = scanAt s 1 := by unfold scan; rw [if_neg (by omega)]
theorem scan_two {a b : Tok} (ha : right a.kind a.text = true) (hb : right b.kind b.text = true) (hf : first (a.text ++ b.text) = (a.kind, a.text.length, 0)) (l : Int) : scanAt (a.text ++ b.text) l = .ok [⟨a.kind, a.text, l⟩, ⟨b.kind, b.text, l⟩] [] := by
  rw [scanAt_tok (first_alone ha).1 hf (right_bytes ha)]
  have h2 := scanAt_tok (r := []) (l := l) (first_alone hb).1 (by simpa using (first_alone hb).2) (right_bytes hb)
  rw [List.append_nil] at h2
  rw [h2]; rfl
theorem two_len {a b : Tok} (ha : right a.kind a.text = true) (hb : right b.kind b.text = true) : (a.text ++ b.text).length ≤ 20000 := by
  have := right_len ha; have := right_len hb
  rw [List.length_append]; omega
theorem apart_false {a b : Tok} (ha : right a.kind a.text = true) (hb : right b.kind b.text = true) (hf : first (a.text ++ b.text) = (a.kind, a.text.length, 0)) : apart a b = false := by
  unfold apart
  rw [scanAt_short (two_len ha hb), scan_two ha hb hf]
  simp
theorem first_of_apart {a b : Tok} (ha : right a.kind a.text = true) (hb : right b.kind b.text = true) (h : apart a b = false) : first (a.text ++ b.text) = (a.kind, a.text.length, 0) := by
  unfold apart at h
  rw [scanAt_short (two_len ha hb)] at h
  simp only [Bool.not_eq_false', decide_eq_true_eq] at h
  obtain ⟨c, t, hc⟩ : ∃ c t, a.text = c :: t := by
    have := (first_alone ha).1
    cases hx : a.text with
    | nil => exact absurd hx this
    | cons c t => exact ⟨c, t, rfl⟩
  obtain ⟨b1, b2, b3, b4⟩ := right_bytes ha c (by rw [hc]; simp)
  have hcons : a.text ++ b.text = c :: (t ++ b.text) := by rw [hc]; rfl
  rw [hcons, scanAt_cons, if_neg b1, if_neg (by rintro (h | h) <;> contradiction), if_neg b2] at h
  split at h
  · cases h
  · rename_i he
    have he' : (first (c :: (t ++ b.text))).2.2 = 0 := by simpa using he
    have hle := (first_len he' (by simp)).2
    cases hx : scanAt (List.drop (first (c :: (t ++ b.text))).2.1 (c :: (t ++ b.text))) 1 with
    | bad e x => rw [hx] at h; cases h
    | ok ts cs =>
      rw [hx] at h
      simp only [Res.add, List.cons_append, List.nil_append, Res.ok.injEq, List.cons.injEq, Tok.mk.injEq] at h
      obtain ⟨⟨⟨h1, h2, _⟩, _⟩, _⟩ := h
      have h3 : (first (c :: (t ++ b.text))).2.1 = a.text.length := by
        rw [← h2, List.length_take]; omega
      rw [hcons]
      exact Prod.ext h1 (Prod.ext h3 he')
theorem scan_spaced {a b : Tok} (ha : right a.kind a.text = true) (hb : right b.kind b.text = true) : scan (a.text ++ [32] ++ b.text) = .ok [⟨a.kind, a.text, 1⟩, ⟨b.kind, b.text, 1⟩] [] := by
  have := right_len ha; have := right_len hb
  rw [scanAt_short (by simp only [List.length_append, List.length_cons, List.length_nil]; omega)]
  rw [List.append_assoc, scanAt_tok (first_alone ha).1 (first_right (r := [32] ++ b.text) ha (.inr ⟨32, b.text, rfl, by decide⟩)) (right_bytes ha)]
  rw [List.cons_append, List.nil_append, scanAt_sp _ _ (.inl rfl)]
  have h2 := scanAt_tok (r := []) (l := (1 : Int)) (first_alone hb).1 (by simpa using (first_alone hb).2) (right_bytes hb)
  rw [List.append_nil] at h2
  rw [h2]; rfl
/-- The reference looks at the texts only. -/
theorem toks_line (s : Bs) (l : Int) (h : ∀ c ∈ s, c ≠ 10) : ∀ t ∈ (scanAt s l).toks, t.line = l := by
  have key : (∀ c ∈ s, c ≠ 10) → ∀ t ∈ (scanAt s l).toks, t.line = l := by
    refine scan_cases (P := fun s l => (∀ c ∈ s, c ≠ 10) → ∀ t ∈ (scanAt s l).toks, t.line = l) ?_ ?_ ?_ ?_ ?_ ?_ s l
    · intro l _ t ht; simp [scanAt_nil, Res.toks] at ht
    · intro r l h hc; exact absurd rfl (hc 10 (by simp))
    · intro c r l hb h hc; rw [scanAt_sp r l hb]; exact h fun c hm => hc c (by simp [hm])
    · intro a r l ha hr h hc
      rw [scanAt_com l ha hr]
      have h' := h fun c hm => hc c (by simp [hm])
      cases hx : scanAt r l with
      | bad e x => intro t ht; simp [Res.add, Res.toks] at ht
      | ok ts cs => rw [hx] at h'; simpa [Res.add, Res.toks] using h'
    · intro c r l h1 h2 h3 h4 h hc; rw [scanAt_err l h1 h2 h3 h4 h]; intro t ht; simp [Res.toks] at ht
    · intro k s r l hr hf h hc
      rw [scanAt_tok (first_alone hr).1 hf (right_bytes hr)]
      have h' := h fun c hm => hc c (by simp [hm])
      cases hx : scanAt r l with
      | bad e x => intro t ht; simp [Res.add, Res.toks] at ht
      | ok ts cs =>
        rw [hx] at h'
        intro t ht
        simp only [Res.add, Res.toks, List.cons_append, List.nil_append, List.mem_cons] at ht
        rcases ht with rfl | ht
        · rfl
        · exact h' t ht
  exact key h
theorem two_texts {a b t0 t1 : Tok} (h : rights a b = true) (hs : (scan (a.text ++ b.text)).toks = [t0, t1]) : (t0.text = a.text ∧ t1.text = b.text) ↔ [t0, t1] = [⟨a.kind, a.text, 1⟩, ⟨b.kind, b.text, 1⟩] := by
  simp only [rights, Bool.and_eq_true] at h
  rw [scanAt_short (two_len h.1 h.2)] at hs
  have hn : ∀ c ∈ a.text ++ b.text, c ≠ 10 := by
    intro c hc
    rcases List.mem_append.1 hc with hc | hc
    · exact (right_bytes h.1 c hc).1
    · exact (right_bytes h.2 c hc).1
  have hl := toks_line _ 1 hn
  have hr := (srt_scan (a.text ++ b.text) 1).1.right
  rw [hs] at hl hr
  constructor
  · rintro ⟨e0, e1⟩
    have r0 := (hr t0 (by simp)).1
    have r1 := (hr t1 (by simp)).1
    rw [e0] at r0
    rw [e1] at r1
    have k0 := kind_of r0 h.1
    have k1 := kind_of r1 h.2
    have l0 := hl t0 (by simp)
    have l1 := hl t1 (by simp)
    obtain ⟨k, x, l⟩ := t0
    obtain ⟨k', x', l'⟩ := t1
    simp only at k0 k1 l0 l1 e0 e1
    subst k0 k1 l0 l1 e0 e1
    rfl
  · intro e
    simp only [List.cons.injEq, and_true] at e
    obtain ⟨rfl, rfl⟩ := e
    exact ⟨rfl, rfl⟩

/-! ### The shortest text -/
theorem tightL_cons (a b : Tok) (ts : List Tok) : tightL (a :: b :: ts) = a.text ++ (if apart a b then [32] else []) ++ tightL (b :: ts) := by rw [tightL]
theorem tightL_head (b : Tok) (ts : List Tok) : ∃ x, tightL (b :: ts) = b.text ++ x := by
  cases ts with
  | nil => exact ⟨[], by simp [tightL]⟩
  | cons c ts => exact ⟨_, by rw [tightL_cons, List.append_assoc]⟩
def one1 (t : Tok) : Tok := ⟨t.kind, t.text, 1⟩
theorem apart_one (a b : Tok) : apart (one1 a) (one1 b) = apart a b := rfl
theorem tight_one : ∀ ts : List Tok, tightL (ts.map one1) = tightL ts
  | [] => rfl
  | [t] => rfl
  | a :: b :: ts => by
    have := tight_one (b :: ts)
    simp only [List.map_cons] at this ⊢
    rw [tightL_cons, tightL_cons, this, apart_one]; rfl
theorem tight_scan : ∀ ts : List Tok, (∀ t ∈ ts, right t.kind t.text = true) → scanAt (tightL ts) 1 = .ok (ts.map one1) []
  | [], _ => rfl
  | [t], h => by
    have hr := h t (by simp)
    have h2 := scanAt_tok (r := []) (l := (1 : Int)) (first_alone hr).1 (by simpa using (first_alone hr).2) (right_bytes hr)
    rw [List.append_nil] at h2
    show scanAt t.text 1 = _
    rw [h2]; rfl
  | a :: b :: ts, h => by
    have ih := tight_scan (b :: ts) fun t ht => h t (List.mem_cons_of_mem _ ht)
    have ha := h a (by simp)
    have hb := h b (by simp)
    rw [tightL_cons, List.append_assoc]
    cases hap : apart a b with
    | true =>
      rw [if_pos rfl, scanAt_tok (first_alone ha).1 (first_right (r := [32] ++ tightL (b :: ts)) ha (.inr ⟨32, tightL (b :: ts), rfl, by decide⟩)) (right_bytes ha)]
      rw [List.cons_append, List.nil_append, scanAt_sp _ _ (.inl rfl), ih]; rfl
    | false =>
      rw [if_neg (by simp), List.nil_append]
      obtain ⟨x, hx⟩ := tightL_head b ts
      obtain ⟨c, t, hc⟩ : ∃ c t, b.text = c :: t := by
        have := (first_alone hb).1
        cases hx : b.text with
        | nil => exact absurd hx this
        | cons c t => exact ⟨c, t, rfl⟩
      have hf := first_tail (r' := tightL (b :: ts)) (first_alone ha).1 (first_of_apart ha hb hap) (.inr ⟨c, t ++ x, by rw [hx, hc]; rfl, .inr ⟨t, hc⟩⟩)
      rw [scanAt_tok (first_alone ha).1 hf (right_bytes ha), ih]; rfl
/-- No text with the tokens is shorter. -/
theorem tight_least (s : Bs) (l : Int) : ∀ ts cs, scanAt s l = .ok ts cs → (tightL ts).length ≤ s.length ∧ (ts = [] ∨ (tightL ts).length + 1 ≤ s.length ∨ ∃ t us r, ts = t :: us ∧ s = t.text ++ r) := by
  refine scan_cases (P := fun s l => ∀ ts cs, scanAt s l = .ok ts cs → (tightL ts).length ≤ s.length ∧ (ts = [] ∨ (tightL ts).length + 1 ≤ s.length ∨ ∃ t us r, ts = t :: us ∧ s = t.text ++ r)) ?_ ?_ ?_ ?_ ?_ ?_ s l
  · intro l ts cs h; rw [scanAt_nil] at h; cases h; exact ⟨Nat.le_refl _, .inl rfl⟩
  · intro r l ih ts cs h
    rw [scanAt_nl] at h
    have := (ih ts cs h).1
    simp only [List.length_cons]
    exact ⟨by omega, .inr (.inl (by omega))⟩
  · intro c r l hc ih ts cs h
    rw [scanAt_sp r l hc] at h
    have := (ih ts cs h).1
    simp only [List.length_cons]
    exact ⟨by omega, .inr (.inl (by omega))⟩
  · intro a r l ha hr ih ts cs h
    rw [scanAt_com l ha hr] at h
    cases hx : scanAt r l with
    | bad e x => rw [hx] at h; cases h
    | ok ts' cs' =>
      rw [hx] at h
      simp only [Res.add, List.nil_append, Res.ok.injEq] at h
      have := (ih ts' cs' hx).1
      rw [h.1] at this
      simp only [List.length_append, List.length_cons]
      exact ⟨by omega, .inr (.inl (by omega))⟩
  · intro c r l h1 h2 h3 h4 he ts cs h
    rw [scanAt_err l h1 h2 h3 h4 he] at h; cases h
  · intro k s r l hr hf ih ts cs h
    rw [scanAt_tok (first_alone hr).1 hf (right_bytes hr)] at h
    cases hx : scanAt r l with
    | bad e x => rw [hx] at h; cases h
    | ok ts' cs' =>
      rw [hx] at h
      simp only [Res.add, List.cons_append, List.nil_append, Res.ok.injEq] at h
      obtain ⟨rfl, _⟩ := h
      obtain ⟨i1, i2⟩ := ih ts' cs' hx
      have hfin : (tightL (⟨k, s, l⟩ :: ts')).length ≤ (s ++ r).length := by
        cases ts' with
        | nil => simp [tightL]
        | cons b us =>
          rw [tightL_cons]
          simp only [List.length_append]
          cases hap : apart ⟨k, s, l⟩ b with
          | false => simp; omega
          | true =>
            rcases i2 with h | h | ⟨t, vs, r', h1, h2⟩
            · cases h
            · simp; omega
            · simp only [List.cons.injEq] at h1
              obtain ⟨rfl, rfl⟩ := h1
              have hs := (srt_scan r l).1
              rw [hx] at hs
              have hb : right b.kind b.text = true := (hs.right b (by simp [Res.toks])).1
              obtain ⟨c, x, hc⟩ : ∃ c x, b.text = c :: x := by
                have := (first_alone hb).1
                cases hx : b.text with
                | nil => exact absurd hx this
                | cons c t => exact ⟨c, t, rfl⟩
              have hf2 := first_tail (r' := b.text) (first_alone hr).1 hf (.inr ⟨c, x, hc, .inr ⟨x ++ r', by rw [h2, hc]; rfl⟩⟩)
              have := apart_false (a := ⟨k, s, l⟩) (b := b) hr hb hf2
              rw [this] at hap; cases hap
      exact ⟨hfin, .inr (.inr ⟨_, _, _, rfl, rfl⟩)⟩
def ktp (t : Tok) : Nat × Bs := (t.kind, t.text)
theorem tight_kt : ∀ (a b : List Tok), a.map ktp = b.map ktp → tightL a = tightL b
  | [], [], _ => rfl
  | [], _ :: _, h => by simp at h
  | _ :: _, [], h => by simp at h
  | [x], [y], h => by simp [ktp] at h; simp [tightL, h]
  | [x], _ :: _ :: _, h => by simp at h
  | _ :: _ :: _, [y], h => by simp at h
  | x :: x' :: xs, y :: y' :: ys, h => by
    have h' := h
    simp only [List.map_cons, List.cons.injEq, ktp, Prod.mk.injEq] at h'
    have ih := tight_kt (x' :: xs) (y' :: ys) (by simp only [List.map_cons, List.cons.injEq, ktp, Prod.mk.injEq]; exact h'.2)
    rw [tightL_cons, tightL_cons, ih, h'.1.2]
    have : apart x x' = apart y y' := by unfold apart; rw [h'.1.1, h'.1.2, h'.2.1.1, h'.2.1.2]
    rw [this]

/-! ### Comments, and a text behind another -/
def lineN (s : Bs) : Nat := (s.filter fun c => decide (c = 10)).length
def Res.shift (d : Int) : Res → Res
  | .bad e l => .bad e (l + d)
  | .ok ts cs => .ok (ts.map fun t => ⟨t.kind, t.text, t.line + d⟩) cs
theorem shift_add (d : Int) (a : List Tok) (c : List Bs) (r : Res) : (r.add a c).shift d = (r.shift d).add (a.map fun t => ⟨t.kind, t.text, t.line + d⟩) c := by
  cases r <;> simp [Res.add, Res.shift]
theorem scan_shift (s : Bs) (l d : Int) : scanAt s (l + d) = (scanAt s l).shift d := by
  refine scan_cases (P := fun s l => scanAt s (l + d) = (scanAt s l).shift d) ?_ ?_ ?_ ?_ ?_ ?_ s l
  · intro l; rfl
  · intro r l h; rw [scanAt_nl, scanAt_nl, ← h]; congr 1; omega
  · intro c r l hc h; rw [scanAt_sp r _ hc, scanAt_sp r _ hc, h]
  · intro a r l ha hr h; rw [scanAt_com _ ha hr, scanAt_com _ ha hr, h, shift_add]; rfl
  · intro c r l h1 h2 h3 h4 h; rw [scanAt_err _ h1 h2 h3 h4 h, scanAt_err _ h1 h2 h3 h4 h]; rfl
  · intro k s r l hr hf h
    rw [scanAt_tok (first_alone hr).1 hf (right_bytes hr), scanAt_tok (first_alone hr).1 hf (right_bytes hr), h, shift_add]; rfl
theorem lineN_append (a b : Bs) : lineN (a ++ b) = lineN a + lineN b := by simp [lineN]
theorem lineN_none {a : Bs} (h : ∀ c ∈ a, c ≠ 10) : lineN a = 0 := by
  unfold lineN
  rw [List.length_eq_zero_iff, List.filter_eq_nil_iff]
  intro c hc
  simpa using h c hc
theorem scan_behind (two one : Bs) (l : Int) : ∀ ts cs, scanAt one l = .ok ts cs → scanAt (one ++ 10 :: two) l = (scanAt two (l + lineN one + 1)).add ts cs := by
  refine scan_cases (P := fun one l => ∀ ts cs, scanAt one l = .ok ts cs → scanAt (one ++ 10 :: two) l = (scanAt two (l + lineN one + 1)).add ts cs) ?_ ?_ ?_ ?_ ?_ ?_ one l
  · intro l ts cs h
    rw [scanAt_nil] at h; cases h
    rw [List.nil_append, scanAt_nl, Res.add_nil]
    simp [lineN]
  · intro r l ih ts cs h
    rw [scanAt_nl] at h
    rw [List.cons_append, scanAt_nl, ih ts cs h]
    have : lineN (10 :: r) = lineN r + 1 := by simp [lineN]
    rw [this]
    congr 2; omega
  · intro c r l hc ih ts cs h
    rw [scanAt_sp r l hc] at h
    rw [List.cons_append, scanAt_sp _ l hc, ih ts cs h]
    have : lineN (c :: r) = lineN r := by rcases hc with rfl | rfl <;> simp [lineN]
    rw [this]
  · intro a r l ha hr ih ts cs h
    rw [scanAt_com l ha hr] at h
    rw [List.append_assoc, scanAt_com l ha (by rcases hr with rfl | ⟨x, rfl⟩ <;> simp)]
    cases hx : scanAt r l with
    | bad e x => rw [hx] at h; cases h
    | ok ts' cs' =>
      rw [hx] at h
      simp only [Res.add, Res.ok.injEq] at h
      obtain ⟨rfl, rfl⟩ := h
      rw [ih ts' cs' hx, Res.add_add]
      have : lineN (37 :: a ++ r) = lineN r := by
        rw [lineN_append, lineN_none (a := 37 :: a) (by
          intro c hc
          rcases List.mem_cons.1 hc with rfl | hc
          · decide
          · exact ha c hc)]; omega
      rw [this]
  · intro c r l h1 h2 h3 h4 he ts cs h
    rw [scanAt_err l h1 h2 h3 h4 he] at h; cases h
  · intro k s r l hr hf ih ts cs h
    rw [scanAt_tok (first_alone hr).1 hf (right_bytes hr)] at h
    have hf2 : first (s ++ (r ++ 10 :: two)) = (k, s.length, 0) := by
      refine first_tail (first_alone hr).1 hf ?_
      cases r with
      | nil => exact .inr ⟨10, two, rfl, .inl (by decide)⟩
      | cons c x => exact .inr ⟨c, x ++ 10 :: two, rfl, .inr ⟨x, rfl⟩⟩
    rw [List.append_assoc, scanAt_tok (first_alone hr).1 hf2 (right_bytes hr)]
    cases hx : scanAt r l with
    | bad e x => rw [hx] at h; cases h
    | ok ts' cs' =>
      rw [hx] at h
      simp only [Res.add, Res.ok.injEq] at h
      obtain ⟨rfl, rfl⟩ := h
      rw [ih ts' cs' hx, Res.add_add]
      have : lineN (s ++ r) = lineN r := by
        rw [lineN_append, lineN_none (a := s) fun c hc => (right_bytes hr c hc).1]; omega
      rw [this]
/-- A text without its comments. -/
def bareF : Bool → Bs → Bs
  | _, [] => []
  | o, c :: r => if c = 10 then 10 :: bareF false r else if o || decide (c = 37) then bareF true r else c :: bareF false r
theorem bare_com {a r : Bs} (ha : ∀ c ∈ a, c ≠ 10) (hr : r = [] ∨ ∃ x, r = 10 :: x) : ∀ o, o = true → bareF o (a ++ r) = bareF false r := by
  induction a with
  | nil =>
    intro o ho
    rcases hr with rfl | ⟨x, rfl⟩
    · rfl
    · simp [bareF]
  | cons c a ih =>
    intro o ho
    subst ho
    rw [List.cons_append, bareF, if_neg (ha c (by simp))]
    simp only [Bool.true_or, if_true]
    exact ih (fun c hc => ha c (by simp [hc])) true rfl
theorem bare_tok {s r : Bs} (h : ∀ c ∈ s, c ≠ 10 ∧ c ≠ 37) : bareF false (s ++ r) = s ++ bareF false r := by
  induction s with
  | nil => rfl
  | cons c s ih =>
    obtain ⟨h1, h2⟩ := h c (by simp)
    rw [List.cons_append, bareF, if_neg h1]
    simp only [Bool.false_or, decide_eq_true_eq, if_neg h2]
    rw [ih fun c hc => h c (by simp [hc])]; rfl
theorem bare_scan (s : Bs) (l : Int) : ∀ ts cs, scanAt s l = .ok ts cs → scanAt (bareF false s) l = .ok ts [] := by
  refine scan_cases (P := fun s l => ∀ ts cs, scanAt s l = .ok ts cs → scanAt (bareF false s) l = .ok ts []) ?_ ?_ ?_ ?_ ?_ ?_ s l
  · intro l ts cs h; rw [scanAt_nil] at h; cases h; rfl
  · intro r l ih ts cs h
    rw [scanAt_nl] at h
    rw [bareF, if_pos rfl, scanAt_nl]; exact ih ts cs h
  · intro c r l hc ih ts cs h
    rw [scanAt_sp r l hc] at h
    rw [bareF, if_neg (by rcases hc with rfl | rfl <;> decide), if_neg (by rcases hc with rfl | rfl <;> decide), scanAt_sp _ _ hc]
    exact ih ts cs h
  · intro a r l ha hr ih ts cs h
    rw [scanAt_com l ha hr] at h
    have hb : bareF false (37 :: a ++ r) = bareF false r := by
      rw [List.cons_append, bareF, if_neg (by decide), if_pos (by decide)]
      exact bare_com ha hr true rfl
    rw [hb]
    cases hx : scanAt r l with
    | bad e x => rw [hx] at h; cases h
    | ok ts' cs' =>
      rw [hx] at h
      simp only [Res.add, List.nil_append, Res.ok.injEq] at h
      obtain ⟨rfl, _⟩ := h
      exact ih ts' cs' hx
  · intro c r l h1 h2 h3 h4 he ts cs h
    rw [scanAt_err l h1 h2 h3 h4 he] at h; cases h
  · intro k s r l hr hf ih ts cs h
    rw [scanAt_tok (first_alone hr).1 hf (right_bytes hr)] at h
    have hb := right_bytes hr
    rw [bare_tok fun c hc => ⟨(hb c hc).1, (hb c hc).2.1⟩]
    have hf2 : first (s ++ bareF false r) = (k, s.length, 0) := by
      refine first_tail (first_alone hr).1 hf ?_
      cases r with
      | nil => exact .inl rfl
      | cons c x =>
        by_cases h1 : c = 10
        · subst h1; exact .inr ⟨10, _, by rw [bareF, if_pos rfl], .inr ⟨x, rfl⟩⟩
        · by_cases h2 : c = 37
          · subst h2
            have hw : x = x.takeWhile (fun c => decide (c ≠ 10)) ++ x.dropWhile (fun c => decide (c ≠ 10)) := List.takeWhile_append_dropWhile.symm
            have hd : x.dropWhile (fun c => decide (c ≠ 10)) = [] ∨ ∃ y, x.dropWhile (fun c => decide (c ≠ 10)) = 10 :: y := by
              cases hd : x.dropWhile (fun c => decide (c ≠ 10)) with
              | nil => exact .inl rfl
              | cons z y =>
                refine .inr ⟨y, ?_⟩
                have := List.head_dropWhile_not (p := fun c => decide (c ≠ 10)) (l := x) (by rw [hd]; simp)
                simp only [hd, List.head_cons] at this
                rw [show z = 10 by simpa using this]
            have hbx : bareF false (37 :: x) = bareF false (x.dropWhile (fun c => decide (c ≠ 10))) := by
              rw [bareF, if_neg (by decide), if_pos (by decide)]
              conv => lhs; rw [hw]
              exact bare_com (fun c hc => by
                have := List.all_eq_true.1 (List.all_takeWhile (p := fun c => decide (c ≠ 10)) (l := x)) c hc
                simpa using this) hd true rfl
            rw [hbx]
            rcases hd with hd | ⟨y, hd⟩
            · rw [hd]; exact .inl rfl
            · rw [hd]; exact .inr ⟨10, _, by rw [bareF, if_pos rfl], .inl (by decide)⟩
          · refine .inr ⟨c, bareF false x, by rw [bareF, if_neg h1, if_neg (by simp [h2])], .inr ⟨x, rfl⟩⟩
    rw [scanAt_tok (first_alone hr).1 hf2 (right_bytes hr)]
    cases hx : scanAt r l with
    | bad e x => rw [hx] at h; cases h
    | ok ts' cs' =>
      rw [hx] at h
      simp only [Res.add, Res.ok.injEq] at h
      obtain ⟨rfl, _⟩ := h
      rw [ih ts' cs' hx]; rfl
theorem bare_le : ∀ (s : Bs) (o : Bool), (bareF o s).length ≤ s.length
  | [], _ => Nat.le_refl _
  | c :: r, o => by
    rw [bareF]
    have h1 := bare_le r false
    have h2 := bare_le r true
    split
    · simp only [List.length_cons]; omega
    · split
      · simp only [List.length_cons]; omega
      · simp only [List.length_cons]; omega
end Go.L01
/- Layer 1: contracts: Print and Apart of the reference. -/
namespace Go.L01
open Go Go.Eng Go.RowKit Go.Proofs
set_option maxRecDepth 100000
set_option maxHeartbeats 2000000

theorem mkS_app (a b : Bs) : mkS a ++ mkS b = mkS (a ++ b) := by
  apply ByteArray.ext; apply Array.ext'; simp [mkS]
@[simp] theorem mkS_size (b : Bs) : (mkS b).size = b.length := rfl
theorem mk0 : (⟨#[]⟩ : ByteArray) = mkS [] := rfl
theorem mk10 : (⟨#[10]⟩ : ByteArray) = mkS [10] := rfl
theorem mk32 : (⟨#[32]⟩ : ByteArray) = mkS [32] := rfl
theorem lineB_le {l : List Tok} (hall : ∀ i, i < l.length → badT l i = 0) {k : Nat} (hk : k ≤ l.length) : 1 ≤ lineB l k ∧ lineB l k ≤ 20000 := by
  unfold lineB
  split
  · omega
  · have := tok_ok hall (show k - 1 < l.length by omega)
    have e : l.getD (k - 1) ⟨0, [], 0⟩ = l[k - 1] := by simp [List.getD_eq_getElem?_getD, show k - 1 < l.length by omega]
    rw [e]; omega
theorem r_Print {w : World} {v : Value} {l : List Tok} (hl : SlK w v l) (hx : ∀ t ∈ l, t.text.length ≤ 281474976710656) : Calls Tryz.prog 32 #[v] w (PrR w l) := by
  have hbd := hl.bd
  refine ir32_calls fun ρ h0 => ?_
  simp [ir32, h0]
  refine (r_Check hl hx).mono ?_
  rintro _ w1 ⟨rfl, hE1⟩
  simp
  by_cases he : ¬ (check l).2 = 0
  · simp [he, PrR, prE, prS, mk0]; exact hE1
  replace he : (check l).2 = 0 := Decidable.not_not.1 he
  have hall := check_zero he
  simp [he, ir32_k11, h0]
  have h20k : l.length ≤ 20000 := by
    by_cases h0 : l.length = 0
    · omega
    · have := (tok_ok hall (show l.length - 1 < l.length by omega)).1; omega
  refine loopC 8 l.length (fun k ρ' w' => Ext w1 w' ∧ ρ' 0 = v ∧ ρ' 6 = .string (mkS (preP l k)) ∧ ρ' 7 = .int .i64 (lineB l k)) (by simp) ⟨ext_refl _, by simp [h0], by simp [preP, printFrom, mk0], by simp [lineB]⟩ ?_
  rintro k ρ' w' hk h8 ⟨hE', h0', h6', h7'⟩
  have hE := hE1.trans' hE'
  have hl' := hl.ext hE
  have hple := preP_le hall k hk
  have hlb := lineB_le hall hk
  by_cases hlt : k < l.length
  · obtain ⟨c0, c1, c2⟩ := hl'.cell k hlt
    obtain ⟨hk2, hr, hln1, hln2, hln3⟩ := tok_ok hall hlt
    have hrl := right_len hr
    simp [ir32_l7, ir32_k6, h8, h0', hlt, hl'.is, hl'.len]
    refine loopI (fun ρ2 w2 => ∃ n : Nat, lineB l k + n ≤ l[k].line ∧ ρ2 7 = .int .i64 (lineB l k + n) ∧ Ext w1 w2 ∧ ρ2 6 = .string (mkS (preP l k ++ List.replicate n 10)) ∧ ρ2 0 = v ∧ ρ2 8 = .int .i64 (k : Int)) (fun ρ2 _ => (l[k].line - RowKit.intOf (ρ2 7)).toNat) ⟨0, by simpa using hln3, by simpa using h7', hE', by simpa using h6', h0', h8⟩ ?_
    rintro ρ2 w2 ⟨n, hn, h72, hE2, h62, h02, h82⟩
    have hl2 := hl.ext (hE1.trans' hE2)
    obtain ⟨d0, d1, d2⟩ := hl2.cell k hlt
    have hml : ((preP l k ++ List.replicate n 10) : Bs).length + 20 ≤ maxLen := by simp only [List.length_append, List.length_replicate, maxLen]; omega
    simp [ir32_l1, h72, h02, h82, hl2.is, hl2.len, hlt, d2]
    by_cases hlt2 : lineB l k + n < l[k].line
    · simp only [List.length_append, List.length_replicate] at hml
      have hml' : (preP l k).length + n + 1 ≤ maxLen := by omega
      simp [hlt2, ir32_k0, h72, h62, i64w (n := lineB l k + (n : Int) + 1) (by omega), mk10, mkS_app, hml']
      refine ⟨⟨n + 1, by omega, by simp; omega, hE2, ?_, h02, h82⟩, by omega⟩
      rw [← List.replicate_succ']
    · have hn' : n = (l[k].line - lineB l k).toNat := by omega
      have hd : (l.getD (k - 1) ⟨0, [], 0⟩).line = lineB l k ∨ k = 0 := by
        by_cases h0 : k = 0
        · exact .inr h0
        · exact .inl (by rw [lineB, if_neg h0])
      have fin : ∀ (x : Bool) (ρ3 : Env) (W3 : World), Ext w1 W3 → x = decide (0 < k ∧ l[k].line = lineB l k) → ρ3 49 = .bool x → ρ3 6 = .string (mkS (preP l k ++ List.replicate n 10)) → ρ3 0 = v → ρ3 8 = .int .i64 (k : Int) → ρ3 7 = .int .i64 (lineB l k + n) →
          ∀ {KK : Env → World → Prop} {Q : Ks}, (∀ ρ4, ρ4 6 = .string (mkS (preP l (k + 1))) → ρ4 0 = v → ρ4 8 = .int .i64 (k : Int) → ρ4 7 = .int .i64 (lineB l (k + 1)) → KK ρ4 W3) → ir32_k3.wp ⟨Tryz.prog, 68, ir32_V, []⟩ KK Q ρ3 W3 := by
        intro x ρ3 W3 hE3 hxe h49 h6 h0 h8 h7 KK Q hK
        have hl3 := hl.ext (hE1.trans' hE3)
        obtain ⟨e0, e1, e2⟩ := hl3.cell k hlt
        have h7f : lineB l k + (n : Int) = lineB l (k + 1) := by rw [lineB_succ hlt]; omega
        simp only [List.length_append, List.length_replicate] at hml
        cases x with
        | true =>
          have hc : 0 < k ∧ l[k].line = lineB l k := by simpa using hxe.symm
          have hn0 : n = 0 := by omega
          subst hn0
          have m1 : (preP l k).length + 1 ≤ maxLen := by omega
          have m2 : (preP l k).length + 1 + l[k].text.length ≤ maxLen := by omega
          simp [ir32_k3, ir32_k2, h49, h6, h0, h8, h7, hl3.is, hl3.len, hlt, e1, mk32, mkS_app, m1, m2]
          refine hK _ ?_ (by simp [h0]) (by simp [h8]) (by simp [h7]; simpa using h7f)
          simp [preP_succ hall hlt, sepL, hc.1, hc.2]
        | false =>
          have hc : ¬ (0 < k ∧ l[k].line = lineB l k) := by simpa using hxe.symm
          have m2 : (preP l k).length + n + l[k].text.length ≤ maxLen := by omega
          simp [ir32_k3, ir32_k2, h49, h6, h0, h8, h7, hl3.is, hl3.len, hlt, e1, mk32, mkS_app, m2]
          refine hK _ ?_ (by simp [h0]) (by simp [h8]) (by simp [h7]; exact h7f)
          simp [preP_succ hall hlt, sepL, hc, hn']
      by_cases hk0 : 0 < k
      · have hk0' : (0 : Int) < k := by omega
        have he1 : (k : Int) - 1 = ((k - 1 : Nat) : Int) := by omega
        have hlt1 : k - 1 < l.length := by omega
        obtain ⟨_, _, f2⟩ := hl2.cell (k - 1) hlt1
        have hgd : (l.getD (k - 1) ⟨0, [], 0⟩) = l[k - 1] := by simp [List.getD_eq_getElem?_getD, hlt1]
        have hI : ((k - 1 : Nat) : Int) < (l.length : Int) := by omega
        have hd' : l[k - 1].line = lineB l k := by
          rcases hd with h | h
          · rw [← hgd]; exact h
          · omega
        simp [hlt2, ir32_k4, h82, h02, hk0, hk0', he1, i64w (n := ((k - 1 : Nat) : Int)) (by omega), hl2.is, hl2.len, hlt1, hlt, hI, f2, d2]
        intro W3 hE3
        refine fin _ _ W3 (hE2.trans' hE3) ?_ rfl (by simp [h62]) (by simp [h02]) (by simp [h82]) (by simp [h72]) fun ρ4 g6 g0 g8 g7 => ?_
        · rw [Bool.eq_iff_iff]; simp [hk0, hd']; exact eq_comm
        · simp [ir32_k5, g8, i64w (n := (k : Int) + 1) (by omega), g0, g6, g7]
          exact hE2.trans' hE3
      · have hk0' : ¬ (0 : Int) < k := by omega
        simp [hlt2, ir32_k4, h82, h02, hk0, hk0']
        intro W3 hE3
        refine fin _ _ W3 (hE2.trans' hE3) ?_ rfl (by simp [h62]) (by simp [h02]) (by simp [h82]) (by simp [h72]) fun ρ4 g6 g0 g8 g7 => ?_
        · simp [hk0]
        · simp [ir32_k5, g8, i64w (n := (k : Int) + 1) (by omega), g0, g6, g7]
          exact hE2.trans' hE3
  · have hk' : k = l.length := by omega
    subst hk'
    have hpe : prE l = if 20000 < (printL l).length then 2 else 0 := by rw [prE, if_pos he]
    have hfin : preP l l.length = printFrom 0 1 l := by simp [preP]
    rw [hfin] at h6' hple
    have tail : ∀ ρ3, ρ3 6 = .string (mkS (printL l)) → ir32_k9.wp ⟨Tryz.prog, 68, ir32_V, []⟩ (retK [.tmp 2, .tmp 3] (PrR w l)) (ksOf [.tmp 2, .tmp 3] (PrR w l)) ρ3 w' := by
      intro ρ3 h63
      by_cases hbig : 20000 < (printL l).length
      · have hbig' : (20000 : Int) < (printL l).length := by omega
        simp [ir32_k9, h63, hbig', PrR, prS, hpe, hbig, mk0]
        exact hE
      · have hbig' : ¬ (20000 : Int) < (printL l).length := by omega
        simp [ir32_k9, ir32_k8, h63, hbig', PrR, prS, hpe, hbig]
        exact hE
    simp [ir32_l7, h8, h0', hl'.is, hl'.len, ir32_k10]
    by_cases hl0 : l = []
    · subst hl0
      simp
      exact tail _ (by simp [h6', printL])
    · have hpos : 0 < l.length := List.length_pos_iff.2 hl0
      have hpos' : (0 : Int) < l.length := by omega
      have m1 : (printFrom 0 1 l).length + 1 ≤ maxLen := by simp only [maxLen]; omega
      simp [hl0, hpos, hpos', h6', mk10, mkS_app, m1]
      exact tail _ (by simp [printL, hl0])

theorem apart_texts {a b : Tok} (h : rights a b = true) (ts : List Tok) (hs : (scan (a.text ++ b.text)).toks = ts) (he : (scan (a.text ++ b.text)).err = 0) : apart a b = !(match (generalizing := false) ts with | [t0, t1] => decide (t0.text = a.text) && decide (t1.text = b.text) | _ => false) := by
  rw [apart_eq h, he, hs]
  match ts, hs with
  | [], _ => simp
  | [_], _ => simp
  | [t0, t1], hs =>
    have := two_texts h hs
    rw [Bool.eq_iff_iff]
    simp only [decide_true, Bool.true_and, Bool.not_eq_true', decide_eq_false_iff_not, Bool.and_eq_false_iff]
    rw [← this]
    constructor
    · intro hn
      by_cases e : t0.text = a.text
      · exact .inr fun e2 => hn ⟨e, e2⟩
      · exact .inl e
    · rintro (h | h) ⟨h1, h2⟩
      · exact h h1
      · exact h h2
  | _ :: _ :: _ :: _, _ => simp
theorem r_Apart {w : World} (a b : Tok) (ha : a.text.length ≤ 281474976710656) (hb : b.text.length ≤ 281474976710656) : Calls Tryz.prog 34 #[encK a, encK b] w (ApR w a b) := by
  refine ir34_calls fun ρ h0 h1 => ?_
  simp [ir34]
  refine eff_box fun B W hB hE hbk _ => ?_
  simp [h0, encK, Value.cells] at hbk
  simp
  refine eff_box fun B2 W2 hB2 hE2 hbk2 _ => ?_
  simp [h1, encK, Value.cells] at hbk2
  have hb1 := hbk.ext hE2
  have hE12 := hE.trans' hE2
  simp [hb1.cell]
  refine (r_right a.kind a.text (by omega)).mono ?_
  rintro _ W3 ⟨rfl, hE3⟩
  have hE13 := hE12.trans' hE3
  cases hra : right a.kind a.text with
  | false =>
    simp [hra, rights, ApR]
    exact hE13
  | true =>
    simp [hra, (hbk2.ext hE3).cell]
    refine (r_right b.kind b.text (by omega)).mono ?_
    rintro _ W4 ⟨rfl, hE4⟩
    have hE14 := hE13.trans' hE4
    cases hrb : right b.kind b.text with
    | false =>
      simp [hra, hrb, rights, ApR]
      exact hE14
    | true =>
      have hrt : rights a b = true := by simp [rights, hra, hrb]
      simp [hra, hrb, ir34_k1]
      have hb4 := (hb1.ext hE3).ext hE4
      have hb24 := (hbk2.ext hE3).ext hE4
      have hml : a.text.length + b.text.length ≤ maxLen := by simp only [maxLen]; omega
      simp [hb4.cell, hb24.cell, mkS_app, hml]
      refine (r_Scan (a.text ++ b.text) (by simp; omega)).mono ?_
      rintro _ W7 ⟨v, rfl, ho, hE7⟩
      have hK := SlK.own ho (by have := (scan_le (a.text ++ b.text)).1; omega)
      simp [fV]
      refine eff_alloc z31 fun B3 W8 hB3 hE8 hb8 _ => ?_
      simp
      refine eff_storeN (B := B3) (by simp) hb8 (by simp [Value.cells]) (by simp [Value.cells]) (by simpa [Value.cells] using sz31) fun W9 hO9 hb9 => ?_
      simp [Value.cells] at hb9
      have z6 := hE7.size
      have hE69 : Ext W4 W9 := hO9.ext (hE7.trans' hE8) (by omega)
      have hE79 : Ext W7 W9 := hO9.ext hE8 hB3
      have hE19 := hE14.trans' hE69
      have hb19 := hb4.ext hE69
      have hb29 := hb24.ext hE69
      have hK9 := hK.ext hE79
      have hap := apart_eq hrt
      have hok := scan_ok (a.text ++ b.text)
      generalize hsc : scan (a.text ++ b.text) = sc at *
      simp
      refine raw_ord ir34_o4_ok (Ext W9) fun W10 hE10 _ => ⟨hE10, ?_⟩
      have f9 : ∀ W, Ext W9 W → ∀ i, W.cell? ⟨B3, i, none⟩ = #[Value.int .i64 sc.err, .int .i64 sc.at][i]? := fun W h => (hb9.ext h).cell
      have fa : ∀ W, Ext W9 W → ∀ i, W.cell? ⟨B, i, none⟩ = #[Value.int .u8 (a.kind : Int), .string (mkS a.text), .int .i64 a.line][i]? := fun W h => (hb19.ext h).cell
      have fb : ∀ W, Ext W9 W → ∀ i, W.cell? ⟨B2, i, none⟩ = #[Value.int .u8 (b.kind : Int), .string (mkS b.text), .int .i64 b.line][i]? := fun W h => (hb29.ext h).cell
      have mkS_inj : ∀ x y : Bs, (mkS x = mkS y) ↔ x = y := fun x y => ⟨fun h => by simpa [mkS] using congrArg (fun z : ByteArray => z.data.toList) h, fun h => by rw [h]⟩
      simp (maxSteps := 2000000) +contextual -implicitDefEqProofs [ir34_o4, f9, fa, fb, hE10, bu31z]
      refine eff_neqT (xs := #[.int .i64 sc.err, .int .i64 sc.at]) (ys := #[.int .i64 0, .int .i64 0]) (by simp) (by simp) g31 (eqFault sc.err sc.at 0 0 _) ?_
      have hE110 := hE19.trans' hE10
      rcases hok with ⟨ts, cs, rfl⟩ | ⟨e, x, rfl, he⟩
      · simp only [Res.toks, Res.err, Res.at] at *
        have hat := apart_texts hrt ts (by rw [hsc]; rfl) (by rw [hsc]; rfl)
        by_cases h2 : ts.length = 2
        · obtain ⟨t0, t1, rfl⟩ : ∃ t0 t1, ts = [t0, t1] := by
            match ts, h2 with
            | [t0, t1], _ => exact ⟨t0, t1, rfl⟩
          have k0 : ∀ W, Ext W9 W → W.cell? (slAddr v 0) = some (.int .u8 (t0.kind : Int)) ∧ W.cell? (slAddr v 1) = some (.string (mkS t0.text)) ∧ W.cell? (slAddr v 2) = some (.int .i64 t0.line) := fun W h => by simpa using (hK9.ext h).cell 0 (by simp)
          have k1 : ∀ W, Ext W9 W → W.cell? (slAddr v 3) = some (.int .u8 (t1.kind : Int)) ∧ W.cell? (slAddr v 4) = some (.string (mkS t1.text)) ∧ W.cell? (slAddr v 5) = some (.int .i64 t1.line) := fun W h => by simpa using (hK9.ext h).cell 1 (by simp)
          simp only at hat
          by_cases e0 : t0.text = a.text
          · by_cases e1 : t1.text = b.text
            · simp (maxSteps := 2000000) +contextual -implicitDefEqProofs [hE10, hK9.is, hK9.len, k0, k1, fa, fb, e0, e1, ir34_k0, ApR, hrt, hat]
              exact hE110
            · have e1' : ¬ mkS t1.text = mkS b.text := fun h => e1 ((mkS_inj _ _).1 h)
              simp (maxSteps := 2000000) +contextual -implicitDefEqProofs [hE10, hK9.is, hK9.len, k0, k1, fa, fb, e0, e1, e1', ir34_k0, ApR, hrt, hat]
              exact hE110
          · have e0' : ¬ mkS t0.text = mkS a.text := fun h => e0 ((mkS_inj _ _).1 h)
            simp (maxSteps := 2000000) +contextual -implicitDefEqProofs [hE10, hK9.is, hK9.len, k0, k1, fa, fb, e0, e0', ir34_k0, ApR, hrt, hat]
            exact hE110
        · have h2' : ¬ (ts.length : Int) = 2 := by omega
          have hne : ¬ ts = [⟨a.kind, a.text, 1⟩, ⟨b.kind, b.text, 1⟩] := fun e => h2 (by rw [e]; rfl)
          simp [hE10, hK9.is, hK9.len, h2, h2', ir34_k0, ApR, hrt, hap, hne]
          exact hE110
      · simp only [Res.toks, Res.err, Res.at] at *
        simp [he, hE10, ir34_k0, ApR, hrt, hap]
        exact hE110
end Go.L01
/- Layer 1: contracts: Tight, both. -/
namespace Go.L01
open Go Go.Eng Go.RowKit Go.Proofs
set_option maxRecDepth 100000
set_option maxHeartbeats 2000000

def preT (l : List Tok) (k : Nat) : Bs := tightL (l.take k)
theorem tightL_snoc (x y : Tok) : ∀ a : List Tok, tightL (a ++ [x, y]) = tightL (a ++ [x]) ++ ((if apart x y then [32] else []) ++ y.text)
  | [] => by simp [tightL]
  | [z] => by simp [tightL]
  | z :: u :: a => by
    have ih := tightL_snoc x y (u :: a)
    simp only [List.cons_append] at ih ⊢
    rw [tightL_cons, tightL_cons, ih]; simp
theorem preT_one {l : List Tok} (h : 0 < l.length) : preT l 1 = l[0].text := by
  cases l with
  | nil => simp at h
  | cons a l => simp [preT, tightL]
theorem preT_succ {l : List Tok} {k : Nat} (hk : k < l.length) (h0 : 0 < k) : preT l (k + 1) = preT l k ++ ((if apart l[k - 1] l[k] then [32] else []) ++ l[k].text) := by
  obtain ⟨m, rfl⟩ : ∃ m, k = m + 1 := ⟨k - 1, by omega⟩
  have hm : m < l.length := by omega
  have e2 : l.take (m + 1) = l.take m ++ [l[m]] := by rw [List.take_add_one, List.getElem?_eq_getElem hm, Option.toList_some]
  have e1 : l.take (m + 1 + 1) = l.take m ++ [l[m], l[m + 1]] := by
    rw [List.take_add_one, List.getElem?_eq_getElem hk, Option.toList_some, e2, List.append_assoc]; rfl
  unfold preT
  rw [e1, e2, tightL_snoc]
  simp
theorem preT_le {l : List Tok} (h : ∀ t ∈ l, right t.kind t.text = true) : ∀ k, k ≤ l.length → (preT l k).length ≤ 13 * k
  | 0, _ => by simp [preT, tightL]
  | k + 1, hk => by
    have hlt : k < l.length := by omega
    have ih := preT_le h k (by omega)
    have hr := right_len (h _ (List.getElem_mem hlt))
    by_cases h0 : k = 0
    · subst h0; rw [preT_one hlt]; omega
    · rw [preT_succ hlt (by omega)]
      have : ((if apart l[k - 1] l[k] then [32] else [] : Bs)).length ≤ 1 := by split <;> simp
      simp only [List.length_append]; omega
theorem preT_all (l : List Tok) : preT l l.length = tightL l := by simp [preT]
theorem scan_right (src : Bs) : ∀ t ∈ (scan src).toks, right t.kind t.text = true := by
  unfold scan
  split
  · simp [Res.toks]
  · exact fun t ht => ((srt_scan src 1).1.right t ht).1
def TiR (w : World) (src : Bs) : Ending → World → Prop := fun e w' => e = .returned (.tuple #[.string (mkS (tightL (scan src).toks)), fV src]) ∧ Ext w w'
theorem Blk.below {b k : Nat} {w w' : World} {cs : Array Value} {t : TypeId} (h : Blk w k cs t) (hB : Below b w w') (hlt : k < b) : Blk w' k cs t := ⟨(hB.block k hlt).trans h.heap⟩

theorem ti_tail {b B9 : Nat} {W w : World} {ρ : Env} {acc : Bs} {t : Tok} {KK : Env → World → Prop} {Q : Ks} (hW : Below b W w) (hb : Bd b b acc w) (h9b : Blk w B9 #[.int .u8 (t.kind : Int), .string (mkS t.text), .int .i64 t.line] 38)
    (hp6 : ρ 6 = .pointer (some ⟨b, 0, none⟩)) (h8 : ρ 8 = .pointer (some ⟨B9, 0, none⟩)) (hlen : acc.length + t.text.length ≤ 1000000)
    (hK : ∀ ρ3 W3, Below b W W3 → Bd b b (acc ++ t.text) W3 → (∀ s, s ≠ 38 → s ≠ 39 → ρ3 s = ρ s) → KK ρ3 W3) : ir35_k1.wp ⟨Tryz.prog, 43, ir35_V, []⟩ KK Q ρ w := by
  have hlt := hb.lt
  simp [ir35_k1, h8, hp6, h9b.cell]
  refine (b_str t.text hb (by omega) (by omega)).mono ?_
  rintro _ w2 ⟨rfl, hb2, hB2⟩
  simp
  refine hK _ _ (Below.trans hW hB2) hb2 fun s h1 h2 => ?_
  simp [upd, h1, h2]
@[simp] theorem cb33 : callB Tryz.prog 33 = true := by kernel_rfl
@[simp] theorem cb34 : callB Tryz.prog 34 = true := by kernel_rfl
theorem t_Tight {w : World} (hG : G w) (src : Bs) (hs : src.length < 4611686018427387904) : Calls Tryz.prog 35 #[.string (mkS src)] w (TiR w src) := by
  refine ir35_calls fun ρ r0 => ?_
  simp [ir35, r0]
  refine eff_alloc z31 fun B3 W1 hB3 hE1 hb3 _ => ?_
  simp [r0]
  refine (t_Scan (hG.ext hE1) src hs).mono ?_
  rintro _ W2 ⟨v, rfl, ho, hE2⟩
  have hK := SlK.own ho (by have := (scan_le src).1; omega)
  have hrt := scan_right src
  have hle := (scan_le src).1
  generalize hts : (scan src).toks = ts at *
  simp [fV]
  refine eff_alloc z31 fun B5 W3 hB5 hE3 hb5 _ => ?_
  simp
  refine eff_storeN (B := B5) (by simp) hb5 (by simp [Value.cells]) (by simp [Value.cells]) (by simpa [Value.cells] using sz31) fun W4 hO4 hb4 => ?_
  simp [Value.cells] at hb4 ⊢
  refine eff_alloc z69 fun b W hb0 hE5 hb _ => ?_
  have hE24 : Ext W2 W4 := hO4.ext hE3 hB5
  have hE14 := hE2.trans' hE24
  have s1 := hE1.size
  have s2 := hE2.size
  have s24 := hE24.size
  have l3 := hb3.lt
  have l4 := hb4.lt
  have hb3W : Blk W B3 #[.int .i64 0, .int .i64 0] 31 := (hb3.ext hE14).ext hE5
  have hb5W := hb4.ext hE5
  have hbW := hb.lt
  have hfresh : Bd b b [] W := .inl ⟨Nat.le_refl _, .slice none 0 0, hb.heap, World.ownsRow_nil _ _ _ _, by simp [Value.ownBlock]⟩
  have hKW := (hK.ext hE24).ext hE5
  have hEw4 : Ext w W4 := hE1.trans' hE14
  have hEx : ∀ {w'}, Below b W w' → Ext w w' := fun h => hEw4.trans' (Below.trans hE5 (h.mono hb0))
  have hEx4 : ∀ {w'}, Below b W w' → Ext W4 w' := fun h => Below.trans hE5 (h.mono hb0)
  simp [hKW.is, hKW.len]
  refine loopC 18 ts.length (fun k ρ' w' => Below b W w' ∧ Bd b b (preT ts k) w' ∧ ρ' 3 = .pointer (some ⟨B3, 0, none⟩) ∧ ρ' 4 = v ∧ ρ' 5 = .pointer (some ⟨B5, 0, none⟩) ∧ ρ' 6 = .pointer (some ⟨b, 0, none⟩) ∧ ρ' 16 = v ∧ ρ' 17 = .int .i64 ts.length) (by simp) ⟨Below.refl _ _, by simpa [preT, tightL] using hfresh, by simp, by simp, by simp, by simp, by simp, by simp⟩ ?_
  rintro k ρ' w' hk h18 ⟨hB', hb', p3, p4, p5, p6, p16, p17⟩
  have hl' := (hK.ext hE24).ext (hEx4 hB')
  have hple := preT_le hrt k hk
  by_cases hlt : k < ts.length
  · obtain ⟨c0, c1, c2⟩ := hl'.cell k hlt
    have hr := hrt _ (List.getElem_mem hlt)
    have hrl := right_len hr
    simp [ir35_l4, ir35_k3, h18, p16, p17, hlt, hl'.is, hl'.len, c0, c1, c2]
    refine eff_alloc z38 fun B9 W9 hB9 hE9 hb9 _ => ?_
    simp
    refine eff_storeN (B := B9) (by simp) hb9 (by simp [Value.cells]) (by simp [Value.cells]) (by simpa [Value.cells] using sz38) fun W10 hO10 hb10 => ?_
    simp [Value.cells] at hb10
    have hlt' := hb'.lt
    have hE10 : Ext w' W10 := hO10.ext hE9 (by omega)
    have hB10 : Below b W W10 := Below.trans hB' (hE10.mono (by omega))
    have hbd10 := hb'.ext hE10
    have hs10 := hE10.size
    simp
    by_cases hk0 : 0 < k
    · have hk0' : (0 : Int) < k := by omega
      have he1 : (k : Int) - 1 = ((k - 1 : Nat) : Int) := by omega
      have hlt1 : k - 1 < ts.length := by omega
      have hl10 := (hK.ext hE24).ext (hEx4 hB10)
      obtain ⟨f0, f1, f2⟩ := hl10.cell (k - 1) hlt1
      have hI : ((k - 1 : Nat) : Int) < (ts.length : Int) := by omega
      have hr1 := hrt _ (List.getElem_mem hlt1)
      have hrr : rights ts[k - 1] ts[k] = true := by simp [rights, hr, hr1]
      simp [hk0, hk0', he1, i64w (n := ((k - 1 : Nat) : Int)) (by omega), p4, hl10.is, hl10.len, hlt1, hI, f0, f1, f2, hb10.cell]
      refine ⟨.tuple #[.bool (rights ts[k - 1] ts[k] && apart ts[k - 1] ts[k]), .int .i64 (if rights ts[k - 1] ts[k] then 0 else 1)], fun W5 hW => (t_Apart (hG.ext ((hEx hB10).trans' hW)) ts[k - 1] ts[k] (by have := right_len hr1; omega) (by omega)).mono fun e w' h => ⟨h.1, hW.trans' h.2⟩, ?_⟩
      simp [hrr]
      intro W6 hE6
      have hB6 : Below b W W6 := Below.trans hB10 (hE6.mono (by omega))
      have hbd6 := hbd10.ext hE6
      have hb6 := hb10.ext hE6
      have hlt6 := hbd6.lt
      simp [ir35_k0]
      cases hap : apart ts[k - 1] ts[k] with
      | true =>
        simp [p6]
        refine (b_byteK 32 hbd6 (by omega) (by omega)).mono ?_
        rintro _ W11 ⟨rfl, hb11, hB11, hkp⟩
        simp
        refine ti_tail (b := b) (B9 := B9) (W := W) (acc := preT ts k ++ [32]) (t := ts[k]) (Below.trans hB6 hB11) hb11 (hkp _ _ _ (by decide) (by omega) hb6) (by simp [p6]) (by simp) (by simp; omega) ?_
        intro ρ3 W3 hB3 hbd3 hfr
        have := preT_succ hlt hk0
        rw [hap, if_pos rfl] at this
        simp [ir35_k2, hfr, h18, i64w (n := (k : Int) + 1) (by omega), p3, p4, p5, p6, p16, p17, hlt, this]
        exact ⟨hB3, by simpa using hbd3⟩
      | false =>
        simp
        refine ti_tail (b := b) (B9 := B9) (W := W) (acc := preT ts k) (t := ts[k]) hB6 hbd6 hb6 (by simp [p6]) (by simp) (by omega) ?_
        intro ρ3 W3 hB3 hbd3 hfr
        have := preT_succ hlt hk0
        rw [hap, if_neg (by simp), List.nil_append] at this
        simp [ir35_k2, hfr, h18, i64w (n := (k : Int) + 1) (by omega), p3, p4, p5, p6, p16, p17, hlt, this]
        exact ⟨hB3, hbd3⟩
    · have hk0' : ¬ (0 : Int) < k := by omega
      have hkz : k = 0 := by omega
      subst hkz
      simp
      refine ti_tail (b := b) (B9 := B9) (W := W) (acc := preT ts 0) (t := ts[0]) hB10 hbd10 hb10 (by simp [p6]) (by simp) (by omega) ?_
      intro ρ3 W3 hB3 hbd3 hfr
      have := preT_one hlt
      have e0 : preT ts 0 = [] := by simp [preT, tightL]
      rw [e0, List.nil_append] at hbd3
      simp [ir35_k2, hfr, h18, i64w (n := 1) (by omega), p3, p4, p5, p6, p16, p17, hlt, this]
      exact ⟨hB3, hbd3⟩
  · have hk' : k = ts.length := by omega
    subst hk'
    rw [preT_all] at hb'
    have hb5' : Blk w' B5 #[.int .i64 (scan src).err, .int .i64 (scan src).at] 31 := hb5W.below hB' (by omega)
    simp [ir35_l4, h18, p17, ir35_k6]
    refine raw_ord ir35_o12_ok (fun W => Blk W B5 #[.int .i64 (scan src).err, .int .i64 (scan src).at] 31) fun W6 hE6 _ => ⟨hb5'.ext hE6, ?_⟩
    have hc : ∀ W, Blk W B5 #[.int .i64 (scan src).err, .int .i64 (scan src).at] 31 → ∀ i, W.cell? ⟨B5, i, none⟩ = #[Value.int .i64 (scan src).err, .int .i64 (scan src).at][i]? := fun W h => h.cell
    have hb56 := hb5'.ext hE6
    have hbd6 := hb'.ext hE6
    have hlt' := hb'.lt
    have hlt6 := hbd6.lt
    have hB6 : Below b W W6 := Below.trans hB' (hE6.mono (by omega))
    simp +contextual -implicitDefEqProofs [ir35_o12, hc, hb56, p5, p6]
    refine (b_string hbd6 (by omega)).mono ?_
    rintro _ W7 ⟨rfl, hB7⟩
    have hb57 := hb56.below hB7 (by omega)
    simp [p3, hb57]
    have hBf := Below.trans hB6 hB7
    have hb37 := hb3W.below hBf (by omega)
    refine eff_storeN (B := B3) (by simp [p3]) hb37 (by simp [Value.cells]) (by simp [Value.cells]) (by simpa [Value.cells] using sz31) fun W8 hO8 hb8 => ?_
    simp [Value.cells] at hb8
    simp [ir35_k5]
    refine retT (x := .string (mkS (tightL ts))) (by simp) (by simp [p3]) hb8 rfl ?_
    refine ⟨by rw [hts]; rfl, hO8.ext (hEx hBf) hB3⟩
end Go.L01
/- Layer 1: contracts: Tight of the reference. -/
namespace Go.L01
open Go Go.Eng Go.RowKit Go.Proofs
set_option maxRecDepth 100000
set_option maxHeartbeats 2000000

theorem r_Tight {w : World} (src : Bs) (hs : src.length < 4611686018427387904) : Calls Tryz.prog 36 #[.string (mkS src)] w (TiR w src) := by
  refine ir36_calls fun ρ r0 => ?_
  simp [ir36, r0]
  refine eff_alloc z31 fun B3 W1 hB3 hE1 hb3 _ => ?_
  simp [r0]
  refine (r_Scan src hs).mono ?_
  rintro _ W2 ⟨v, rfl, ho, hE2⟩
  have hK := SlK.own ho (by have := (scan_le src).1; omega)
  have hrt := scan_right src
  have hle := (scan_le src).1
  have hok := scan_ok src
  generalize hts : (scan src).toks = ts at *
  simp [fV]
  refine eff_alloc z31 fun B5 W3 hB5 hE3 hb5 _ => ?_
  simp
  refine eff_storeN (B := B5) (by simp) hb5 (by simp [Value.cells]) (by simp [Value.cells]) (by simpa [Value.cells] using sz31) fun W4 hO4 hb4 => ?_
  simp [Value.cells] at hb4 ⊢
  have hE24 : Ext W2 W4 := hO4.ext hE3 hB5
  have hE14 := hE2.trans' hE24
  have hEw4 : Ext w W4 := hE1.trans' hE14
  have hb34 := hb3.ext hE14
  have hK4 := hK.ext hE24
  simp [hb4.cell]
  rcases hok with ⟨ts', cs, hx⟩ | ⟨e, x, hx, he⟩
  · rw [hx] at hts hb4
    have hf : fV src = .agg #[.int .i64 0, .int .i64 0] := by simp [fV, hx, Res.err, Res.at]
    simp only [Res.toks] at hts
    subst hts
    simp [hx, Res.err, ir36_k7]
    refine loopC 7 ts'.length (fun k ρ' w' => Ext W4 w' ∧ ρ' 3 = .pointer (some ⟨B3, 0, none⟩) ∧ ρ' 4 = v ∧ ρ' 6 = .string (mkS (preT ts' k))) (by simp) ⟨ext_refl _, by simp, by simp, by simp [preT, tightL, mk0]⟩ ?_
    rintro k ρ' w' hk h7 ⟨hE', p3, p4, p6⟩
    have hl' := hK4.ext hE'
    have hple := preT_le hrt k hk
    by_cases hlt : k < ts'.length
    · obtain ⟨c0, c1, c2⟩ := hl'.cell k hlt
      have hr := hrt _ (List.getElem_mem hlt)
      have hrl := right_len hr
      have m0 : (preT ts' k).length + 1 ≤ maxLen := by simp only [maxLen]; omega
      have m1 : (preT ts' k).length + 1 + ts'[k].text.length ≤ maxLen := by simp only [maxLen]; omega
      have m2 : (preT ts' k).length + ts'[k].text.length ≤ maxLen := by simp only [maxLen]; omega
      by_cases hk0 : 0 < k
      · have hk0' : (0 : Int) < k := by omega
        have he1 : (k : Int) - 1 = ((k - 1 : Nat) : Int) := by omega
        have hlt1 : k - 1 < ts'.length := by omega
        obtain ⟨f0, f1, f2⟩ := hl'.cell (k - 1) hlt1
        have hI : ((k - 1 : Nat) : Int) < (ts'.length : Int) := by omega
        have hr1 := hrt _ (List.getElem_mem hlt1)
        have hrr : rights ts'[k - 1] ts'[k] = true := by simp [rights, hr, hr1]
        simp [ir36_l5, ir36_k4, h7, p4, hlt, hl'.is, hl'.len, hk0, hk0', he1, i64w (n := ((k - 1 : Nat) : Int)) (by omega), hlt1, hI, f0, f1, f2, c0, c1, c2]
        refine ⟨.tuple #[.bool (rights ts'[k - 1] ts'[k] && apart ts'[k - 1] ts'[k]), .int .i64 (if rights ts'[k - 1] ts'[k] then 0 else 1)], fun W5 hW => (r_Apart ts'[k - 1] ts'[k] (by have := right_len hr1; omega) (by omega)).mono fun e w' h => ⟨h.1, hW.trans' h.2⟩, ?_⟩
        simp [hrr]
        intro W6 hE6
        have hl6 := hl'.ext hE6
        obtain ⟨g0, g1, g2⟩ := hl6.cell k hlt
        have := preT_succ hlt hk0
        cases hap : apart ts'[k - 1] ts'[k] with
        | true =>
          rw [hap, if_pos rfl] at this
          simp [ir36_k1, ir36_k2, ir36_k3, p6, mk32, mkS_app, m0, p4, h7, hl6.is, hl6.len, hlt, g1, m1, i64w (n := (k : Int) + 1) (by omega), p3, this]
          exact hE'.trans' hE6
        | false =>
          rw [hap, if_neg (by simp), List.nil_append] at this
          simp [ir36_k1, ir36_k2, ir36_k3, p6, mkS_app, p4, h7, hl6.is, hl6.len, hlt, g1, m2, i64w (n := (k : Int) + 1) (by omega), p3, this]
          exact hE'.trans' hE6
      · have hkz : k = 0 := by omega
        subst hkz
        have e0 : preT ts' 0 = [] := by simp [preT, tightL]
        have := preT_one hlt
        rw [e0] at p6 m2
        simp at m2 c0 c1 c2
        simp [ir36_l5, ir36_k4, h7, p4, hlt, hl'.is, hl'.len, ir36_k2, ir36_k3, p6, mkS_app, c1, m2, i64w (n := 1) (by omega), p3, this]
        exact hE'
    · have hk' : k = ts'.length := by omega
      subst hk'
      rw [preT_all] at p6
      simp [ir36_l5, h7, p4, hl'.is, hl'.len, ir36_k6, p6, p3, bu31z]
      refine eff_storeN (B := B3) (by simp [p3]) (hb34.ext hE') (by simp [Value.cells]) (by simp [Value.cells]) (by simpa [Value.cells] using sz31) fun W8 hO8 hb8 => ?_
      simp [Value.cells] at hb8
      simp
      refine retT (x := .string (mkS (tightL ts'))) (by simp) (by simp [p3]) hb8 rfl ?_
      exact ⟨by rw [hx, hf]; rfl, hO8.ext (hEw4.trans' hE') hB3⟩
  · rw [hx] at hts hb4
    have hf : fV src = .agg #[.int .i64 e, .int .i64 x] := by simp [fV, hx, Res.err, Res.at]
    simp only [Res.toks] at hts
    subst hts
    simp only [Res.err, Res.at] at hb4
    simp [hx, Res.err, he]
    refine raw_ord ir36_o3_ok (fun W => Blk W B5 #[.int .i64 e, .int .i64 x] 31) fun W6 hE6 _ => ⟨hb4.ext hE6, ?_⟩
    have hc : ∀ W, Blk W B5 #[.int .i64 e, .int .i64 x] 31 → ∀ i, W.cell? ⟨B5, i, none⟩ = #[Value.int .i64 e, .int .i64 x][i]? := fun W h => h.cell
    have hb56 := hb4.ext hE6
    simp +contextual -implicitDefEqProofs [ir36_o3, hc, hb56]
    refine eff_storeN (B := B3) (by simp) (hb34.ext hE6) (by simp [Value.cells]) (by simp [Value.cells]) (by simpa [Value.cells] using sz31) fun W8 hO8 hb8 => ?_
    simp [Value.cells] at hb8
    simp [ir36_k0]
    refine retT (x := .string (mkS (tightL []))) (by simp; rfl) (by simp) hb8 rfl ?_
    exact ⟨by rw [hx, hf]; rfl, hO8.ext (hEw4.trans' hE6) hB3⟩
end Go.L01
/- Layer 1: contracts: read, the law's own examples. -/
namespace Go.L01
open Go Go.Eng Go.RowKit Go.Proofs
set_option maxRecDepth 100000
set_option maxHeartbeats 2000000

def exA : Bs := [120, 32, 58, 61, 32, 97, 91, 49, 50, 93, 32, 32, 37, 32, 102, 105, 114, 115, 116, 10, 101, 110, 100]
def exAt : List Tok := [⟨1, [120], 1⟩, ⟨4, [58, 61], 1⟩, ⟨1, [97], 1⟩, ⟨4, [91], 1⟩, ⟨3, [49, 50], 1⟩, ⟨4, [93], 1⟩, ⟨2, [101, 110, 100], 2⟩]
def exAc : List Bs := [[37, 32, 102, 105, 114, 115, 116]]
theorem exA_scan : scan exA = .ok exAt exAc := by decide +kernel
def exAs : Bs := [120, 58, 61, 97, 91, 49, 50, 93, 101, 110, 100]
theorem exA_tight : tightL exAt = exAs := by decide +kernel
def exB : List Tok := [⟨2, [100, 111], 1⟩, ⟨1, [120], 3⟩, ⟨4, [58, 61], 3⟩]
def exBs : Bs := [100, 111, 10, 10, 120, 32, 58, 61, 10]
theorem exB_prE : prE exB = 0 := by decide +kernel
theorem exB_prS : prS exB = exBs := by decide +kernel
def exC : Bs := [120, 10, 48, 48, 55]
theorem exC_scan : scan exC = .bad 11 2 := by decide +kernel
def exD : Bs := [116, 104, 105, 114, 116, 101, 101, 110]
theorem exD_name : isName exD = true := by decide +kernel
theorem exE_name : isName [100, 111] = false := by decide +kernel
theorem slk_lit {W : World} {B : Nat} {ts : List Tok} (hb : Blk W B (toksV ts).toArray 38) (hn : ts.length ≤ 1000) : SlK W (.slice (some ⟨B, 0, none⟩) ts.length ts.length) ts := by
  refine SlK.own (base := 0) (.inr ⟨B, 0, ts.length, ts.length, (toksV ts).toArray, rfl, Nat.zero_le _, hb.heap, toksV_len ts, Nat.le_refl _, ?_, ?_, ?_⟩) (by omega)
  · simp only [maxLen]; omega
  · simp [toksV_len]
  · simp only [List.drop_zero]; rw [← toksV_len, List.take_length]
theorem mkA : (⟨#[120, 32, 58, 61, 32, 97, 91, 49, 50, 93, 32, 32, 37, 32, 102, 105, 114, 115, 116, 10, 101, 110, 100]⟩ : ByteArray) = mkS exA := rfl
theorem mkC : (⟨#[120, 10, 48, 48, 55]⟩ : ByteArray) = mkS exC := rfl
theorem mkD : (⟨#[116, 104, 105, 114, 116, 101, 101, 110]⟩ : ByteArray) = mkS exD := rfl
theorem mkAs : (⟨#[120, 58, 61, 97, 91, 49, 50, 93, 101, 110, 100]⟩ : ByteArray) = mkS exAs := rfl
theorem mkBs : (⟨#[100, 111, 10, 10, 120, 32, 58, 61, 10]⟩ : ByteArray) = mkS exBs := rfl
theorem mkDo : (⟨#[100, 111]⟩ : ByteArray) = mkS [100, 111] := rfl
theorem mkX : (⟨#[120]⟩ : ByteArray) = mkS [120] := rfl
theorem mkAsg : (⟨#[58, 61]⟩ : ByteArray) = mkS [58, 61] := rfl
theorem mkCm : (⟨#[37, 32, 102, 105, 114, 115, 116]⟩ : ByteArray) = mkS [37, 32, 102, 105, 114, 115, 116] := rfl
theorem mkEnd : (⟨#[101, 110, 100]⟩ : ByteArray) = mkS [101, 110, 100] := rfl
theorem lenA : exA.length = 23 := rfl
theorem lenC : exC.length = 5 := rfl
@[simp] theorem cb25 : callB Tryz.prog 25 = true := by kernel_rfl
@[simp] theorem cb31 : callB Tryz.prog 31 = true := by kernel_rfl
@[simp] theorem cb35 : callB Tryz.prog 35 = true := by kernel_rfl
theorem fvA : fV exA = .agg #[.int .i64 0, .int .i64 0] := by unfold fV; rw [exA_scan]; rfl
theorem fvC : fV exC = .agg #[.int .i64 11, .int .i64 2] := by unfold fV; rw [exC_scan]; rfl
theorem tkA : (scan exA).toks = exAt := by rw [exA_scan]; rfl
theorem cmA : (scan exA).coms = exAc := by rw [exA_scan]; rfl
theorem l_read {w : World} (hG : G w) : Calls Tryz.prog 12 #[] w fun e w' => e = .returned (.bool true) ∧ Ext w w' := by
  refine ir12_calls fun ρ => ?_
  simp -implicitDefEqProofs [ir12, mkA, mkC, mkDo, mkX, mkAsg]
  refine (t_Scan hG exA (by rw [lenA]; decide)).mono ?_
  rintro _ W1 ⟨v1, rfl, ho1, hE1⟩
  rw [tkA] at ho1
  rw [fvA]
  have hK1 := SlK.own ho1 (by rw [show exAt.length = 7 from rfl]; decide)
  simp -implicitDefEqProofs
  refine eff_alloc z31 fun B2 W2 hB2 hE2 hb2 _ => ?_
  simp -implicitDefEqProofs
  refine eff_storeN (B := B2) (by simp) hb2 (by simp [Value.cells]) (by simp [Value.cells]) (by simpa [Value.cells] using sz31) fun W3 hO3 hb3 => ?_
  simp -implicitDefEqProofs [Value.cells] at hb3 ⊢
  have hE13 : Ext W1 W3 := hO3.ext hE2 hB2
  have hw3 := hE1.trans' hE13
  refine (t_Comments (hG.ext hw3) exA (by rw [lenA]; decide)).mono ?_
  rintro _ W4 ⟨v2, rfl, ho4, hE4⟩
  rw [cmA] at ho4
  rw [fvA]
  have hC4 : SlT W4 v2 exAc := ho4.sl (by rw [show exAc.length = 1 from rfl]; decide)
  simp -implicitDefEqProofs
  refine eff_alloc z31 fun B4 W5 hB4 hE5 hb5 _ => ?_
  simp -implicitDefEqProofs
  refine eff_storeN (B := B4) (by simp) hb5 (by simp [Value.cells]) (by simp [Value.cells]) (by simpa [Value.cells] using sz31) fun W6 hO6 hb6 => ?_
  simp -implicitDefEqProofs [Value.cells] at hb6 ⊢
  have hE46 : Ext W4 W6 := hO6.ext hE5 hB4
  have hE36 := hE4.trans' hE46
  have hw6 := hw3.trans' hE36
  refine (t_Tight (hG.ext hw6) exA (by rw [lenA]; decide)).mono ?_
  rintro _ W7 ⟨rfl, hE7⟩
  rw [fvA, tkA, exA_tight]
  simp -implicitDefEqProofs
  refine eff_alloc z31 fun B6 W8 hB6 hE8 hb8 _ => ?_
  simp -implicitDefEqProofs
  refine eff_storeN (B := B6) (by simp) hb8 (by simp [Value.cells]) (by simp [Value.cells]) (by simpa [Value.cells] using sz31) fun W9 hO9 hb9 => ?_
  simp -implicitDefEqProofs [Value.cells] at hb9 ⊢
  have hE79 : Ext W7 W9 := hO9.ext hE8 hB6
  have hE69 := hE7.trans' hE79
  have hw9 := hw6.trans' hE69
  simp -implicitDefEqProofs [bu38]
  refine eff_lit si28 (by decide) (by decide) (by simp [Value.cells]) fun B7 W10 hB7 hE10 hb10 _ => ?_
  simp -implicitDefEqProofs [Value.cells] at hb10 ⊢
  have hK10 : SlK W10 (.slice (some ⟨B7, 0, none⟩) 3 3) exB := slk_lit (ts := exB) hb10 (by rw [show exB.length = 3 from rfl]; decide)
  have hw10 := hw9.trans' hE10
  refine (t_Print (hG.ext hw10) hK10 (by intro t ht; have : t.text.length ≤ 12 := right_len ((show ∀ t ∈ exB, right t.kind t.text = true by decide +kernel) t ht); omega)).mono ?_
  rintro _ W11 ⟨rfl, hE11⟩
  rw [exB_prE, exB_prS]
  simp -implicitDefEqProofs
  have hw11 := hw10.trans' hE11
  refine (t_Scan (hG.ext hw11) exC (by rw [lenC]; decide)).mono ?_
  rintro _ W12 ⟨v3, rfl, ho12, hE12⟩
  rw [fvC]
  simp -implicitDefEqProofs
  have hw12 := hw11.trans' hE12
  refine eff_alloc z31 fun B10 W13 hB10 hE13' hb13 _ => ?_
  simp -implicitDefEqProofs
  refine eff_storeN (B := B10) (by simp) hb13 (by simp [Value.cells]) (by simp [Value.cells]) (by simpa [Value.cells] using sz31) fun W14 hO14 hb14 => ?_
  simp -implicitDefEqProofs [Value.cells, bu31z] at hb14 ⊢
  have hE1214 : Ext W12 W14 := hO14.ext hE13' hB10
  have hw14 := hw12.trans' hE1214
  refine eff_alloc z31 fun B11 W15 hB11 hE15 hb15 _ => ?_
  simp -implicitDefEqProofs
  refine eff_storeN (B := B11) (by simp) hb15 (by simp [Value.cells]) (by simp [Value.cells]) (by simpa [Value.cells] using sz31) fun W16 hO16 hb16 => ?_
  simp -implicitDefEqProofs [Value.cells] at hb16 ⊢
  have hE1416 : Ext W14 W16 := hO16.ext hE15 hB11
  have hw16 := hw14.trans' hE1416
  have hE9 : Ext W9 W16 := (((hE10.trans' hE11).trans' hE12).trans' hE1214).trans' hE1416
  have hE6 := hE69.trans' hE9
  have hE3 := hE36.trans' hE6
  have q2 := hb3.ext hE3
  have q4 := hb6.ext hE6
  have q6 := hb9.ext hE9
  have q10 := hb14.ext hE1416
  have k1 := hK1.ext (hE13.trans' hE3)
  have k2 := hC4.ext (hE46.trans' hE6)
  have e0 : decide ((0 : Int) = 0) = true := rfl
  simp -implicitDefEqProofs [q2.cell, hb16.cell]
  refine eff_neqT (xs := #[.int .i64 0, .int .i64 0]) (ys := #[.int .i64 0, .int .i64 0]) (by simp) (by simp) g31 (eqFault 0 0 0 0 _) ?_
  simp -implicitDefEqProofs [q4.cell, hb16.cell]
  refine eff_neqT (xs := #[.int .i64 0, .int .i64 0]) (ys := #[.int .i64 0, .int .i64 0]) (by simp) (by simp) g31 (eqFault 0 0 0 0 _) ?_
  simp -implicitDefEqProofs [q6.cell, hb16.cell]
  refine eff_neqT (xs := #[.int .i64 0, .int .i64 0]) (ys := #[.int .i64 0, .int .i64 0]) (by simp) (by simp) g31 (eqFault 0 0 0 0 _) ?_
  have n1 : exAt.length = 7 := rfl
  have n2 : exAc.length = 1 := rfl
  have c0 : W16.cell? (slAddr v1 0) = some (.int .u8 1) ∧ W16.cell? (slAddr v1 1) = some (.string (mkS [120])) ∧ W16.cell? (slAddr v1 2) = some (.int .i64 1) := by simpa [exAt] using k1.cell 0 (by decide)
  have c6 : W16.cell? (slAddr v1 18) = some (.int .u8 2) ∧ W16.cell? (slAddr v1 19) = some (.string (mkS [101, 110, 100])) ∧ W16.cell? (slAddr v1 20) = some (.int .i64 2) := by simpa [exAt] using k1.cell 6 (by decide)
  have d0 : W16.cell? (slAddr v2 0) = some (.string (mkS [37, 32, 102, 105, 114, 115, 116])) := by simpa [exAc, encT] using k2.cell 0 (by decide)
  obtain ⟨c00, c01, c02⟩ := c0
  obtain ⟨c60, c61, c62⟩ := c6
  simp -implicitDefEqProofs [k1.is, k1.len, k2.is, k2.len, n1, n2, ir12_k0, c00, c01, c02, mkX, mkEnd, mkD, mkCm, mkAs, mkBs, mkDo, bu38]
  refine eff_eqlT (xs := #[.int .u8 1, .string (mkS [120]), .int .i64 1]) (ys := #[.int .u8 1, .string (mkS [120]), .int .i64 1]) (by simp) (by simp) g38 (eqTok ⟨1, [120], 1⟩ ⟨1, [120], 1⟩ _) ?_
  simp -implicitDefEqProofs [k1.is, k1.len, n1, c60, c61, c62, bu38]
  refine eff_eqlT (xs := #[.int .u8 2, .string (mkS [101, 110, 100]), .int .i64 2]) (ys := #[.int .u8 2, .string (mkS [101, 110, 100]), .int .i64 2]) (by simp) (by simp) g38 (eqTok ⟨2, [101, 110, 100], 2⟩ ⟨2, [101, 110, 100], 2⟩ _) ?_
  simp -implicitDefEqProofs [k2.is, k2.len, n2, d0, q10.cell, bu31]
  refine eff_eqlT (xs := #[.int .i64 11, .int .i64 2]) (ys := #[.int .i64 11, .int .i64 2]) (by simp) (by simp) g31 (eqFault 11 2 11 2 _) ?_
  simp -implicitDefEqProofs
  refine (t_isName (hG.ext hw16) exD).mono ?_
  rintro _ W17 ⟨rfl, hE17⟩
  rw [exD_name]
  simp -implicitDefEqProofs
  refine (t_isName (hG.ext (hw16.trans' hE17)) [100, 111]).mono ?_
  rintro _ W18 ⟨rfl, hE18⟩
  rw [exE_name]
  simp -implicitDefEqProofs
  exact (hw16.trans' hE17).trans' hE18
end Go.L01
