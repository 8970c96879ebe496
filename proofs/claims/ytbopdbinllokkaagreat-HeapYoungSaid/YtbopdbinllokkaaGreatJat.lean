/- Texts of mine for the claims about layer 17 (heap), joined: EngW, L17S, L17P, L17Q. -/
import Derived.Test.YtbopdbinllokkaaGreatJas
set_option linter.all false
set_option linter.unusedSimpArgs false
set_option linter.unusedVariables false
namespace Go.Eng
open Go.RowKit
section
variable {ops : Array Oper} {cx : Cx}
end
section
variable {P : Program} {Q : Ks} {K : Env → World → Prop} {F : OT → Env → World → Prop} {ρ : Env} {w : World}
end
theorem calls_irX {P : Program} {f : FuncId} {fn : Func} {V raws : List Nat} {ir : IR} {rs : List RV} {args : Array Value} {w : World} {R : Ending → World → Prop} (hf : P.funcs[f]? = some fn) (hb : fn.body = some (fn.body.getD .skip)) (hok : (comp P fn.ntmps V raws (fn.body.getD .skip)).map IR.norm = some ir)
    (hV : readB fn V = true) (hrs : rvsOf P V fn.results.toList = some rs) (hsz : args.size ≤ fn.ntmps) (h : ir.wp ⟨P, fn.ntmps, V, []⟩ (retK rs R) (ksOf rs R) (startEnv V args) w) : Calls P f args w R := by
  obtain ⟨ir0, h1, h2⟩ := Option.map_eq_some_iff.1 hok
  exact calls_ir hf hb h1 h2 hV hrs hsz h
end Go.Eng
namespace Go.L17
open Go.Eng
structure MO where
 there : Bool
 tag : Int
 elem : Nat
 kinds : List Nat
 vals : List Int
 age : Nat
 watched : Bool
 deriving DecidableEq, Inhabited
def noMO : MO := ⟨false, 0, 0, [], [], 0, false⟩
structure MS where
 words : Int
 objs : List MO
 on : Bool
 doomed : List Int
 owed : Int
 told : List Int
 deriving DecidableEq
def MS.at (m : MS) (ref : Int) : MO := m.objs.getD (ref - 1).toNat noMO
def MS.there (m : MS) (ref : Int) : Bool := decide (1 ≤ ref) && decide (ref ≤ m.objs.length) && (m.at ref).there
def MS.value (m : MS) (kind : Nat) (v : Int) : Int :=
 if kind = 1 ∧ (v < -1000000000 ∨ 1000000000 < v) then 1 else if kind = 2 ∧ v ≠ 0 ∧ m.there v = false then 171 else 0
def MO.need (o : MO) : Int := if o.there then 2 + o.vals.length else 0
def MS.used (m : MS) : Int := (m.objs.map MO.need).sum
def MS.count (m : MS) : Int := (m.objs.filter MO.there).length
def MS.young (m : MS) (ref : Int) : Bool := m.there ref && decide ((m.at ref).age < 2)
def MS.fits (m : MS) (n : Int) : Bool := decide (m.used + n ≤ m.words)
def MS.paid (m : MS) (n : Int) : MS := { m with owed := if m.on then m.owed + n else m.owed }
def MS.push (m : MS) (o : MO) : MS := { m with objs := m.objs ++ [o] }
def MS.put (m : MS) (ref : Int) (o : MO) : MS := { m with objs := m.objs.set (ref - 1).toNat o }
def isKind (k : Nat) : Bool := decide (k = 1) || decide (k = 2)
def MS.makeE (m : MS) (tag : Int) (kinds : List Nat) (vals : List Int) : Int :=
 if tag < 0 ∨ 5 < tag ∨ kinds.length < 1 ∨ 6 < kinds.length ∨ vals.length ≠ kinds.length then 1
 else if ((kinds.zip vals).any fun p => !isKind p.1 || decide (m.value p.1 p.2 = 1)) then 1
 else if ((kinds.zip vals).any fun p => decide (m.value p.1 p.2 ≠ 0)) then 171
 else if m.fits (2 + vals.length) then 0 else 170
def MS.make (m : MS) (tag : Int) (kinds : List Nat) (vals : List Int) : Int × Int × MS :=
 if m.makeE tag kinds vals = 0 then (m.objs.length + 1, 0, (m.paid (2 + vals.length)).push ⟨true, tag, 0, kinds, vals, 0, false⟩) else (0, m.makeE tag kinds vals, m)
def MS.array (m : MS) (kind : Nat) : Int × Int × MS :=
 if !isKind kind then (0, 1, m) else if m.fits 2 then (m.objs.length + 1, 0, (m.paid 2).push ⟨true, 0, kind, [], [], 0, false⟩) else (0, 170, m)
def MS.fieldE (m : MS) (ref field : Int) : Int :=
 if m.there ref = false then 171 else if (m.at ref).elem ≠ 0 ∨ field < 0 ∨ (m.at ref).vals.length ≤ field then 1 else 0
def MS.get (m : MS) (ref field : Int) : Nat × Int × Int :=
 if m.fieldE ref field = 0 then ((m.at ref).kinds.getD field.toNat 0, (m.at ref).vals.getD field.toNat 0, 0) else (0, 0, m.fieldE ref field)
def MS.setE (m : MS) (ref field val : Int) : Int :=
 if m.fieldE ref field = 0 then m.value ((m.at ref).kinds.getD field.toNat 0) val else m.fieldE ref field
def MO.withVals (o : MO) (vs : List Int) : MO := { o with vals := vs }
def MS.set (m : MS) (ref field val : Int) : Int × MS :=
 (m.setE ref field val, if m.setE ref field val = 0 then m.put ref ((m.at ref).withVals ((m.at ref).vals.set field.toNat val)) else m)
def MS.tag (m : MS) (ref : Int) : Int × Int :=
 if m.there ref = false then (0, 171) else if (m.at ref).elem ≠ 0 then (0, 1) else ((m.at ref).tag, 0)
def MS.kind (m : MS) (ref : Int) : Nat × Int := if m.there ref = false then (0, 171) else ((m.at ref).elem, 0)
def MS.arrayE (m : MS) (ref : Int) : Int := if m.there ref = false then 171 else if (m.at ref).elem = 0 then 1 else 0
def MS.size (m : MS) (ref : Int) : Int × Int := if m.arrayE ref = 0 then ((m.at ref).vals.length, 0) else (0, m.arrayE ref)
def MS.addE (m : MS) (ref val : Int) : Int :=
 if m.arrayE ref ≠ 0 then m.arrayE ref else if m.value (m.at ref).elem val ≠ 0 then m.value (m.at ref).elem val
 else if 200 ≤ (m.at ref).vals.length then 2 else if m.fits 1 then 0 else 170
def MS.add (m : MS) (ref val : Int) : Int × MS :=
 (m.addE ref val, if m.addE ref val = 0 then (m.paid 1).put ref ((m.at ref).withVals ((m.at ref).vals ++ [val])) else m)
def MS.remE (m : MS) (ref : Int) : Int := if m.arrayE ref ≠ 0 then m.arrayE ref else if (m.at ref).vals = [] then 5 else 0
def MS.rem (m : MS) (ref : Int) : Int × Int × MS :=
 if m.remE ref = 0 then ((m.at ref).vals.getLastD 0, 0, m.put ref ((m.at ref).withVals (m.at ref).vals.dropLast)) else (0, m.remE ref, m)
def MS.elemE (m : MS) (ref i : Int) : Int := if m.arrayE ref ≠ 0 then m.arrayE ref else if i < 1 ∨ (m.at ref).vals.length < i then 5 else 0
def MS.fetch (m : MS) (ref i : Int) : Int × Int := if m.elemE ref i = 0 then ((m.at ref).vals.getD (i - 1).toNat 0, 0) else (0, m.elemE ref i)
def MS.storeE (m : MS) (ref i val : Int) : Int := if m.elemE ref i ≠ 0 then m.elemE ref i else m.value (m.at ref).elem val
def MS.store (m : MS) (ref i val : Int) : Int × MS :=
 (m.storeE ref i val, if m.storeE ref i val = 0 then m.put ref ((m.at ref).withVals ((m.at ref).vals.set (i - 1).toNat val)) else m)
def MS.rootE (m : MS) (roots : List Int) : Int :=
 if 10000 < roots.length then 2 else if (roots.any fun r => decide (r ≠ 0) && !m.there r) then 171 else 0
def MO.refs (o : MO) : List Int :=
 if o.elem = 0 then ((o.kinds.zip o.vals).filter fun p => decide (p.1 = 2) && decide (p.2 ≠ 0)).map (·.2) else if o.elem = 2 then o.vals.filter (fun v => decide (v ≠ 0)) else []
inductive Reach (refs : Int → List Int) (roots : List Int) : Int → Prop
 | root {n : Int} : n ∈ roots → n ≠ 0 → Reach refs roots n
 | step {n k : Int} : Reach refs roots n → k ∈ refs n → Reach refs roots k
def MS.refsOf (m : MS) (n : Int) : List Int := (m.at n).refs
noncomputable def MS.met (m : MS) (roots : List Int) (n : Int) : Bool := @decide (Reach m.refsOf roots n) (Classical.propDecidable _)
theorem met_iff {m : MS} {roots : List Int} {n : Int} : m.met roots n = true ↔ Reach m.refsOf roots n := by simp [MS.met]
def MS.nums (m : MS) : List Int := (List.range m.objs.length).map fun i : Nat => ((i : Int) + 1)
noncomputable def MS.reached (m : MS) (roots : List Int) : List Int × Int := if m.rootE roots ≠ 0 then ([], m.rootE roots) else (m.nums.filter (m.met roots), 0)
def MS.frees (m : MS) (ns : List Int) : MS :=
 { m with objs := (List.range m.objs.length).map fun i : Nat => if ns.contains ((i : Int) + 1) then noMO else m.objs.getD i noMO, told := m.told ++ ns.filter fun n => (m.at n).watched }
def MS.olds (m : MS) : List Int := m.nums.filter fun n => m.there n && !m.young n
noncomputable def MS.minorFree (m : MS) (roots : List Int) : List Int := m.nums.filter fun n => m.there n && !m.met (roots ++ m.olds) n
def MS.aged (m : MS) : MS := { m with objs := m.objs.map fun o => if o.there then { o with age := o.age + 1 } else o }
def MS.minorE (m : MS) (roots : List Int) : Int := if m.on then 8 else m.rootE roots
noncomputable def MS.minor (m : MS) (roots : List Int) : Int × Int × MS :=
 if m.minorE roots ≠ 0 then (0, m.minorE roots, m) else ((m.minorFree roots).length, 0, (m.aged).frees (m.minorFree roots))
noncomputable def MS.begin (m : MS) (roots : List Int) : Int × MS :=
 (m.minorE roots, if m.minorE roots ≠ 0 then m else { m with doomed := m.nums.filter fun n => m.there n && !m.met roots n, on := true, owed := m.used + 1 })
def MS.asked (m : MS) (work : Int) : Int := if work < 1 ∨ 100000 < work then 1 else if m.on then 0 else 8
def MS.stay (m : MS) : List Int := m.nums.filter fun n => m.there n && !m.doomed.contains n
noncomputable def MS.endFree (m : MS) : List Int := m.doomed.filter fun n => !m.met m.stay n
noncomputable def MS.ends (m : MS) : MS :=
 let n := m.frees m.endFree
 { n with doomed := [], on := false, objs := n.objs.map fun o => { o with age := 2 } }
noncomputable def MS.stepped (m : MS) (work : Int) (ended : Bool) : Bool × MS :=
 if ended then (true, m.ends) else (decide (0 < m.owed - work), { m with owed := m.owed - work })
def MS.watch (m : MS) (ref : Int) : Int × MS :=
 if m.there ref = false then (171, m) else if (m.at ref).watched then (6, m) else (0, m.put ref { m.at ref with watched := true })
def MS.ended (m : MS) : List Int × MS := (m.nums.flatMap fun n => m.told.filter fun k => decide (k = n), { m with told := [] })
end Go.L17
namespace Go.L17
open Go.Eng
structure Wh where
 first : Int
 black : List Int
 gray : List Int
 was : List (Int × List Int)
 left : Int
def Wh.wasOf (w : Wh) (n : Int) : Option (List Int) := (w.was.find? fun p => decide (p.1 = n)).map (·.2)
def Wh.meet (w : Wh) (n : Int) : Wh := if n ≠ 0 ∧ n ≤ w.first ∧ n ∉ w.black then { w with black := w.black ++ [n], gray := w.gray ++ [n] } else w
def Wh.meets (w : Wh) (l : List Int) : Wh := l.foldl Wh.meet w
def Wh.note (w : Wh) (m : MS) (n : Int) : Wh := if w.first < n then w else match w.wasOf n with
 | some _ => w
 | none => { w with was := w.was ++ [(n, m.refsOf n)] }
def Wh.refs (w : Wh) (m : MS) (n : Int) : List Int := (w.wasOf n).getD (m.refsOf n)
def Wh.look (w : Wh) (m : MS) : Wh :=
 let n := w.gray.getLastD 0
 Wh.meets { w with gray := w.gray.dropLast, left := w.left - (m.at n).need } (w.refs m n)
theorem meet_first (w : Wh) (n : Int) : (w.meet n).first = w.first ∧ (w.meet n).was = w.was ∧ (w.meet n).left = w.left := by
 unfold Wh.meet; split <;> simp
theorem meets_first : ∀ (l : List Int) (w : Wh), (w.meets l).first = w.first ∧ (w.meets l).was = w.was ∧ (w.meets l).left = w.left
 | [], w => ⟨rfl, rfl, rfl⟩
 | n :: l, w => by
  obtain ⟨a, b, c⟩ := meets_first l (w.meet n)
  obtain ⟨d, e, f⟩ := meet_first w n
  exact ⟨a.trans d, b.trans e, c.trans f⟩
theorem meet_black (w : Wh) (n k : Int) : k ∈ (w.meet n).black ↔ k ∈ w.black ∨ (k = n ∧ n ≠ 0 ∧ n ≤ w.first) := by
 unfold Wh.meet
 split
 ·rename_i h
  simp only [List.mem_append, List.mem_singleton]
  constructor
  ·rintro (h1 | rfl)
   ·exact .inl h1
   ·exact .inr ⟨rfl, h.1, h.2.1⟩
  ·rintro (h1 | ⟨rfl, _⟩)
   ·exact .inl h1
   ·exact .inr rfl
 ·rename_i h
  constructor
  ·exact .inl
  ·rintro (h1 | ⟨rfl, h2, h3⟩)
   ·exact h1
   ·apply Classical.byContradiction
    intro hn
    exact h ⟨h2, h3, hn⟩
theorem meets_black : ∀ (l : List Int) (w : Wh) (k : Int), k ∈ (w.meets l).black ↔ k ∈ w.black ∨ (k ∈ l ∧ k ≠ 0 ∧ k ≤ w.first)
 | [], w, k => by simp [Wh.meets]
 | n :: l, w, k => by
  have h := meets_black l (w.meet n) k
  have h2 := meet_black w n k
  have h3 := (meet_first w n).1
  show k ∈ (Wh.meets (w.meet n) l).black ↔ _
  rw [h, h2, h3, List.mem_cons]
  constructor
  ·rintro ((h | ⟨rfl, a, b⟩) | ⟨a, b, c⟩)
   ·exact .inl h
   ·exact .inr ⟨.inl rfl, a, b⟩
   ·exact .inr ⟨.inr a, b, c⟩
  ·rintro (h | ⟨rfl | a, b, c⟩)
   ·exact .inl (.inl h)
   ·exact .inl (.inr ⟨rfl, b, c⟩)
   ·exact .inr ⟨a, b, c⟩
theorem meet_done (w : Wh) (hg : ∀ k ∈ w.gray, k ∈ w.black) (n k : Int) : (k ∈ (w.meet n).black ∧ k ∉ (w.meet n).gray) ↔ (k ∈ w.black ∧ k ∉ w.gray) := by
 unfold Wh.meet
 split
 ·rename_i h
  simp only [List.mem_append, List.mem_singleton, not_or]
  constructor
  ·rintro ⟨h1 | h1, h2, h3⟩
   ·exact ⟨h1, h2⟩
   ·exact absurd h1 h3
  ·rintro ⟨h1, h2⟩
   exact ⟨.inl h1, h2, fun e => h.2.2 (e ▸ h1)⟩
 ·exact Iff.rfl
theorem meet_gray (w : Wh) (hg : ∀ k ∈ w.gray, k ∈ w.black) (n : Int) : ∀ k ∈ (w.meet n).gray, k ∈ (w.meet n).black := by
 unfold Wh.meet
 split
 ·intro k hk
  simp only [List.mem_append, List.mem_singleton] at hk ⊢
  rcases hk with hk | rfl
  ·exact .inl (hg k hk)
  ·exact .inr rfl
 ·exact hg
theorem meet_nodup (w : Wh) (hg : ∀ k ∈ w.gray, k ∈ w.black) (hn : w.gray.Nodup) (n : Int) : (w.meet n).gray.Nodup := by
 unfold Wh.meet
 split
 ·rename_i h
  rw [List.nodup_append]
  refine ⟨hn, by simp, ?_⟩
  intro a ha b hb
  simp only [List.mem_singleton] at hb
  subst hb
  intro e
  subst e
  exact h.2.2 (hg a ha)
 ·exact hn
theorem meets_all : ∀ (l : List Int) (w : Wh), (∀ k ∈ w.gray, k ∈ w.black) → w.gray.Nodup → (∀ k ∈ (w.meets l).gray, k ∈ (w.meets l).black) ∧ (w.meets l).gray.Nodup ∧ ∀ k, (k ∈ (w.meets l).black ∧ k ∉ (w.meets l).gray) ↔ (k ∈ w.black ∧ k ∉ w.gray)
 | [], w, hg, hn => ⟨hg, hn, fun _ => Iff.rfl⟩
 | n :: l, w, hg, hn => by
  obtain ⟨a, b, c⟩ := meets_all l (w.meet n) (meet_gray w hg n) (meet_nodup w hg hn n)
  exact ⟨a, b, fun k => (c k).trans (meet_done w hg n k)⟩
def Wh.unl (w : Wh) (m : MS) : Int := ((List.range w.first.toNat).map fun i : Nat => if (decide (((i : Int) + 1) ∈ w.black) && !decide (((i : Int) + 1) ∈ w.gray)) then 0 else (m.at ((i : Int) + 1)).need).sum
structure Inv (s : MS) (roots : List Int) (m : MS) (w : Wh) : Prop where
 first : w.first = s.objs.length
 more : s.objs.length ≤ m.objs.length
 ok : ∀ n, s.met roots n = true → s.there n = true
 gray : ∀ n ∈ w.gray, n ∈ w.black
 dup : w.gray.Nodup
 met : ∀ n ∈ w.black, s.met roots n = true
 root : ∀ n ∈ roots, n ≠ 0 → n ∈ w.black
 closed : ∀ n ∈ w.black, n ∉ w.gray → ∀ k ∈ s.refsOf n, k ∈ w.black
 there : ∀ n, s.there n = true → m.there n = true
 there2 : ∀ n, n ≤ w.first → m.there n = true → s.there n = true
 was : ∀ n, s.there n = true → w.refs m n = s.refsOf n
 doomed : m.doomed = s.nums.filter fun n => s.there n && !s.met roots n
 pay : 1 + w.unl m ≤ m.owed + w.left
theorem there_le {m : MS} {n : Int} (h : m.there n = true) : 1 ≤ n ∧ n ≤ m.objs.length := by
 simp only [MS.there, Bool.and_eq_true, decide_eq_true_eq] at h
 exact h.1
theorem refs_ne {m : MS} {n k : Int} (h : k ∈ m.refsOf n) : k ≠ 0 := by
 unfold MS.refsOf MO.refs at h
 split at h
 ·obtain ⟨p, hp, rfl⟩ := List.mem_map.1 h
  have := (List.mem_filter.1 hp).2
  simp only [Bool.and_eq_true, decide_eq_true_eq] at this
  exact this.2
 ·split at h
  ·have := (List.mem_filter.1 h).2
   simpa using this
  ·simp at h
theorem Inv.black {s m : MS} {roots : List Int} {w : Wh} (h : Inv s roots m w) (hg : w.gray = []) (n : Int) : n ∈ w.black ↔ s.met roots n = true := by
 constructor
 ·exact h.met n
 ·intro hm
  have hr := met_iff.1 hm
  clear hm
  induction hr with
  | root h1 h2 => exact h.root _ h1 h2
  | step _ hk ih => exact h.closed _ ih (by rw [hg]; simp) _ hk
theorem sum_change {f g : Nat → Int} {k : Nat} : ∀ (n : Nat), k < n → (∀ i, i < n → i ≠ k → f i = g i) → ((List.range n).map f).sum = ((List.range n).map g).sum - g k + f k
 | 0, h, _ => by omega
 | n + 1, h, hfg => by
  rw [List.range_succ, List.map_append, List.map_append, List.sum_append, List.sum_append]
  simp only [List.map_cons, List.map_nil, List.sum_cons, List.sum_nil]
  by_cases hk : k = n
  ·subst hk
   have : (List.range k).map f = (List.range k).map g := List.map_congr_left fun i hi => hfg i (by have := List.mem_range.1 hi; omega) (by have := List.mem_range.1 hi; omega)
   rw [this]; omega
  ·have := sum_change n (by omega) fun i hi hik => hfg i (by omega) hik
   rw [this, hfg n (by omega) (fun e => hk e.symm)]; omega
theorem last_mem {l : List Int} (h : l ≠ []) : l.getLastD 0 ∈ l ∧ l = l.dropLast ++ [l.getLastD 0] := by
 have e : l.getLastD 0 = l.getLast h := by
  rw [List.getLastD_eq_getLast?, List.getLast?_eq_some_getLast h]; rfl
 rw [e]
 exact ⟨List.getLast_mem h, (List.dropLast_concat_getLast h).symm⟩
theorem Inv.look {s m : MS} {roots : List Int} {w : Wh} (h : Inv s roots m w) (hg : w.gray ≠ []) : Inv s roots m (w.look m) := by
 obtain ⟨hl, hsp⟩ := last_mem hg
 generalize hn : w.gray.getLastD 0 = n at hl hsp
 have hmet := h.met n (h.gray n hl)
 have hth := h.ok n hmet
 have hrefs := h.was n hth
 have hdup := h.dup
 rw [hsp, List.nodup_append] at hdup
 obtain ⟨d1, _, d3⟩ := hdup
 have hnot : n ∉ w.gray.dropLast := fun hm => d3 n hm n (by simp) rfl
 have hsub : ∀ k ∈ w.gray.dropLast, k ∈ w.gray := fun k hk => List.dropLast_subset _ hk
 have hiff : ∀ k, k ∈ w.gray ↔ k ∈ w.gray.dropLast ∨ k = n := fun k => by
  conv => lhs; rw [hsp]
  simp
 let w1 : Wh := { w with gray := w.gray.dropLast, left := w.left - (m.at n).need }
 have hw : w.look m = w1.meets (w.refs m n) := by unfold Wh.look; rw [hn]
 obtain ⟨f1, f2, f3⟩ := meets_first (w.refs m n) w1
 obtain ⟨g1, g2, g3⟩ := meets_all (w.refs m n) w1 (fun k hk => h.gray k (hsub k hk)) d1
 have hb := meets_black (w.refs m n) w1
 rw [← hw] at f1 f2 f3 g1 g2 g3 hb
 have hwas : ∀ k, (w.look m).refs m k = w.refs m k := fun k => by unfold Wh.refs Wh.wasOf; rw [f2]
 refine ⟨f1.trans h.first, h.more, h.ok, g1, g2, ?_, ?_, ?_, h.there, fun k hk => h.there2 k (by rw [← f1]; exact hk), fun k hk => (hwas k).trans (h.was k hk), h.doomed, ?_⟩
 ·intro k hk
  rcases (hb k).1 hk with hk | ⟨hk, hk0, _⟩
  ·exact h.met k hk
  ·rw [hrefs] at hk
   exact met_iff.2 (.step (met_iff.1 hmet) hk)
 ·intro k hk h0
  exact (hb k).2 (.inl (h.root k hk h0))
 ·intro k hk hkg j hj
  have := (g3 k).1 ⟨hk, hkg⟩
  by_cases hkn : k = n
  ·subst hkn
   have hj0 := refs_ne hj
   have hjm : s.met roots j = true := met_iff.2 (.step (met_iff.1 hmet) hj)
   have hjl := (there_le (h.ok j hjm)).2
   exact (hb j).2 (.inr ⟨by rw [hrefs]; exact hj, hj0, by show j ≤ w.first; rw [h.first]; exact hjl⟩)
  ·exact (hb j).2 (.inl (h.closed k this.1 (fun hg => by
    rcases (hiff k).1 hg with hg | hg
    ·exact this.2 hg
    ·exact hkn hg) j hj))
 ·obtain ⟨hn1, hn2⟩ := there_le hth
  have hfl : (w.look m).first = w.first := f1
  have hkey : (w.look m).unl m = w.unl m - (m.at n).need := by
   unfold Wh.unl
   rw [hfl]
   have hk : (n - 1).toNat < w.first.toNat := by rw [h.first]; omega
   have hnk : (((n - 1).toNat : Nat) : Int) + 1 = n := by omega
   rw [sum_change (f := fun i : Nat => if (decide (((i : Int) + 1) ∈ (w.look m).black) && !decide (((i : Int) + 1) ∈ (w.look m).gray)) then 0 else (m.at ((i : Int) + 1)).need)
    (g := fun i : Nat => if (decide (((i : Int) + 1) ∈ w.black) && !decide (((i : Int) + 1) ∈ w.gray)) then 0 else (m.at ((i : Int) + 1)).need) (k := (n - 1).toNat) w.first.toNat hk ?_]
   ·rw [hnk]
    have c1 : (n ∈ (w.look m).black ∧ n ∉ (w.look m).gray) := (g3 n).2 ⟨h.gray n hl, hnot⟩
    rw [if_neg (by simp [h.gray n hl, hl]), if_pos (by simp [c1.1, c1.2])]
    omega
   ·intro i hi hik
    have hne : ((i : Int) + 1) ≠ n := by omega
    have : (decide (((i : Int) + 1) ∈ (w.look m).black) && !decide (((i : Int) + 1) ∈ (w.look m).gray)) = (decide (((i : Int) + 1) ∈ w.black) && !decide (((i : Int) + 1) ∈ w.gray)) := by
     rw [Bool.eq_iff_iff]
     simp only [Bool.and_eq_true, decide_eq_true_eq, Bool.not_eq_true', decide_eq_false_iff_not]
     rw [g3]
     constructor
     ·rintro ⟨a, b⟩
      exact ⟨a, fun hg => by
       rcases (hiff _).1 hg with hg | hg
       ·exact b hg
       ·exact hne hg⟩
     ·rintro ⟨a, b⟩
      exact ⟨a, fun hg => b (hsub _ hg)⟩
    rw [this]
  rw [hkey, f3]
  have := h.pay
  show 1 + (w.unl m - (m.at n).need) ≤ m.owed + (w.left - (m.at n).need)
  omega
end Go.L17
namespace Go.L17
open Go.Eng
def MS.wf (m : MS) : Prop := ∀ n, m.there n = true → ∀ k ∈ m.refsOf n, m.there k = true
theorem at_push {m : MS} {o : MO} {n : Int} (h : n ≤ m.objs.length) (h1 : 1 ≤ n) : (m.push o).at n = m.at n := by
 simp only [MS.at, MS.push, List.getD_eq_getElem?_getD]
 rw [List.getElem?_append_left (by omega)]
theorem there_push {m : MS} {o : MO} {n : Int} (h : n ≤ m.objs.length) : (m.push o).there n = m.there n := by
 unfold MS.there
 by_cases h1 : 1 ≤ n
 ·rw [at_push h h1]
  have a : decide (n ≤ ((m.push o).objs.length : Int)) = true := by simp [MS.push]; omega
  have b : decide (n ≤ (m.objs.length : Int)) = true := by simpa using h
  rw [a, b]
 ·simp [h1]
theorem at_put {m : MS} {ref n : Int} {o : MO} (h : 1 ≤ ref ∧ ref ≤ m.objs.length) (hn : 1 ≤ n) : (m.put ref o).at n = if n = ref then o else m.at n := by
 simp only [MS.at, MS.put, List.getD_eq_getElem?_getD]
 by_cases e : n = ref
 ·subst e
  rw [if_pos rfl, List.getElem?_set_self (by omega)]; rfl
 ·rw [if_neg e, List.getElem?_set_ne (by omega)]
theorem there_put {m : MS} {ref n : Int} {o : MO} (h : m.there ref = true) (ho : o.there = true) : (m.put ref o).there n = m.there n := by
 have hr := there_le h
 have hl : (m.put ref o).objs.length = m.objs.length := by simp [MS.put]
 by_cases h1 : 1 ≤ n
 ·by_cases e : n = ref
  ·subst e
   rw [h]
   unfold MS.there
   rw [at_put hr h1, if_pos rfl, ho, hl]
   simp; omega
  ·unfold MS.there
   rw [at_put hr h1, if_neg e, hl]
 ·simp [MS.there, h1]
theorem refsOf_put {m : MS} {ref n : Int} {o : MO} (h : m.there ref = true) (hn : 1 ≤ n) : (m.put ref o).refsOf n = if n = ref then o.refs else m.refsOf n := by
 unfold MS.refsOf
 rw [at_put (there_le h) hn]
 split <;> rfl
theorem need_nonneg (o : MO) : 0 ≤ o.need := by unfold MO.need; split <;> omega
theorem sum_nonneg {f : Nat → Int} (h : ∀ i, 0 ≤ f i) : ∀ n : Nat, 0 ≤ ((List.range n).map f).sum
 | 0 => by simp
 | n + 1 => by
  rw [List.range_succ, List.map_append, List.sum_append]
  have := sum_nonneg h n
  have := h n
  simp; omega
theorem unl_nonneg (w : Wh) (m : MS) : 0 ≤ w.unl m := sum_nonneg (fun i => by
 split
 ·exact Int.le_refl _
 ·exact need_nonneg _) _
theorem sum_le {f g : Nat → Int} {j : Int} {k : Nat} (hj : 0 ≤ j) (hfg : ∀ i, i ≠ k → f i = g i) (hk : f k ≤ g k + j) : ∀ n : Nat, ((List.range n).map f).sum ≤ ((List.range n).map g).sum + j := by
 intro n
 by_cases h : k < n
 ·rw [sum_change n h fun i _ hi => hfg i hi]; omega
 ·have : (List.range n).map f = (List.range n).map g := List.map_congr_left fun i hi => hfg i (by have := List.mem_range.1 hi; omega)
  rw [this]; omega
def Wh.start (m : MS) : Wh := ⟨m.objs.length, [], [], [], 0⟩
theorem roots_there {m : MS} {roots : List Int} (h : m.rootE roots = 0) : ∀ n ∈ roots, n ≠ 0 → m.there n = true := by
 intro n hn h0
 unfold MS.rootE at h
 split at h
 ·cases h
 ·split at h
  ·cases h
  ·rename_i ha
   simp only [List.any_eq_true, Bool.and_eq_true, decide_eq_true_eq, not_exists, not_and, Bool.not_eq_true', Bool.not_eq_false] at ha
   exact ha n hn h0
theorem reach_there {m : MS} (hw : m.wf) {roots : List Int} (h : ∀ n ∈ roots, n ≠ 0 → m.there n = true) {n : Int} (hm : m.met roots n = true) : m.there n = true := by
 have hr := met_iff.1 hm
 clear hm
 induction hr with
 | root h1 h2 => exact h _ h1 h2
 | step _ hk ih => exact hw _ ih _ hk
theorem at_objs {m m' : MS} (h : m'.objs = m.objs) (n : Int) : m'.at n = m.at n := by simp [MS.at, h]
theorem there_objs {m m' : MS} (h : m'.objs = m.objs) (n : Int) : m'.there n = m.there n := by simp [MS.there, at_objs h, h]
theorem refsOf_objs {m m' : MS} (h : m'.objs = m.objs) (n : Int) : m'.refsOf n = m.refsOf n := by simp [MS.refsOf, at_objs h]
theorem unl_objs {m m' : MS} (h : m'.objs = m.objs) (w : Wh) : w.unl m' = w.unl m := by simp [Wh.unl, at_objs h]
theorem refs_objs {m m' : MS} (h : m'.objs = m.objs) (w : Wh) (n : Int) : w.refs m' n = w.refs m n := by simp [Wh.refs, refsOf_objs h]
theorem used_range (m : MS) : m.used = ((List.range m.objs.length).map fun i : Nat => (m.at ((i : Int) + 1)).need).sum := by
 unfold MS.used
 congr 1
 apply List.ext_getElem
 ·simp
 ·intro i h1 h2
  simp only [List.getElem_map, List.getElem_range]
  simp only [List.length_map] at h1
  have : m.at ((i : Int) + 1) = m.objs[i] := by
   simp only [MS.at, List.getD_eq_getElem?_getD]
   have e : ((i : Int) + 1 - 1).toNat = i := by omega
   rw [e, List.getElem?_eq_getElem h1]; rfl
  rw [this]
theorem begin_inv {m : MS} {roots : List Int} (hw : m.wf) (h : m.minorE roots = 0) : Inv m roots (m.begin roots).2 ((Wh.start m).meets roots) := by
 have hE : m.rootE roots = 0 := by
  unfold MS.minorE at h
  split at h
  ·cases h
  ·exact h
 have hth := roots_there hE
 have hok : ∀ n, m.met roots n = true → m.there n = true := fun n hn => reach_there hw hth hn
 have ho : (m.begin roots).2.objs = m.objs := by unfold MS.begin; simp only; split <;> rfl
 obtain ⟨f1, f2, f3⟩ := meets_first roots (Wh.start m)
 obtain ⟨g1, g2, g3⟩ := meets_all roots (Wh.start m) (by simp [Wh.start]) (by simp [Wh.start])
 have hb := meets_black roots (Wh.start m)
 have hbeg : (m.begin roots).2 = { m with doomed := m.nums.filter fun n => m.there n && !m.met roots n, on := true, owed := m.used + 1 } := by
  unfold MS.begin; simp [h]
 refine ⟨f1, by rw [ho]; omega, hok, g1, g2, ?_, ?_, ?_, fun n hn => by rw [there_objs ho]; exact hn, fun n _ hn => by rw [there_objs ho] at hn; exact hn, fun n _ => ?_, by rw [hbeg], ?_⟩
 ·intro n hn
  rcases (hb n).1 hn with h | ⟨h1, h2, _⟩
  ·simp [Wh.start] at h
  ·exact met_iff.2 (.root h1 h2)
 ·intro n hn h0
  exact (hb n).2 (.inr ⟨hn, h0, (there_le (hth n hn h0)).2⟩)
 ·intro n hn hg
  have := (g3 n).1 ⟨hn, hg⟩
  simp [Wh.start] at this
 ·rw [refs_objs ho]
  unfold Wh.refs Wh.wasOf
  rw [f2]
  simp [Wh.start]
 ·rw [unl_objs ho, f3, hbeg]
  have : ((Wh.start m).meets roots).unl m = m.used := by
   rw [used_range]
   unfold Wh.unl
   rw [f1]
   show ((List.range m.objs.length).map _).sum = _
   congr 1
   apply List.map_congr_left
   intro i hi
   have hn : ¬ ((((i : Int) + 1) ∈ ((Wh.start m).meets roots).black) ∧ (((i : Int) + 1) ∉ ((Wh.start m).meets roots).gray)) := by
    rw [g3]; simp [Wh.start]
   rw [if_neg]
   simp only [Bool.and_eq_true, decide_eq_true_eq, Bool.not_eq_true', decide_eq_false_iff_not]
   exact hn
  rw [this]
  simp [Wh.start]; omega
theorem Inv.push {s m : MS} {roots : List Int} {w : Wh} (h : Inv s roots m w) (hon : m.on = true) (o : MO) {k : Int} (hk : 0 ≤ k) : Inv s roots ((m.paid k).push o) w := by
 have hp : (m.paid k).objs = m.objs := rfl
 have hat : ∀ n, 1 ≤ n → n ≤ w.first → ((m.paid k).push o).at n = m.at n := fun n h1 h2 => by
  rw [at_push (by rw [hp]; have := h.more; have := h.first; omega) h1, at_objs hp]
 have hth : ∀ n, n ≤ w.first → ((m.paid k).push o).there n = m.there n := fun n h2 => by
  rw [there_push (by rw [hp]; have := h.more; have := h.first; omega), there_objs hp]
 have hlen : ((m.paid k).push o).objs.length = m.objs.length + 1 := by simp [MS.push, hp]
 have hle : ∀ n, s.there n = true → 1 ≤ n ∧ n ≤ w.first := fun n hn => by rw [h.first]; exact there_le hn
 refine ⟨h.first, by rw [hlen]; have := h.more; omega, h.ok, h.gray, h.dup, h.met, h.root, h.closed, fun n hn => by rw [hth n (hle n hn).2]; exact h.there n hn, fun n h1 h2 => h.there2 n h1 (by rw [← hth n h1]; exact h2), fun n hn => ?_, h.doomed, ?_⟩
 ·rw [← h.was n hn]
  unfold Wh.refs MS.refsOf
  rw [hat n (hle n hn).1 (hle n hn).2]
 ·have ho : w.unl ((m.paid k).push o) = w.unl m := by
   unfold Wh.unl
   congr 1
   apply List.map_congr_left
   intro i hi
   have := List.mem_range.1 hi
   rw [hat _ (by omega) (by omega)]
  rw [ho]
  have := h.pay
  have : ((m.paid k).push o).owed = m.owed + k := by simp [MS.push, MS.paid, hon]
  omega
theorem note_first (w : Wh) (m : MS) (n : Int) : (w.note m n).first = w.first ∧ (w.note m n).black = w.black ∧ (w.note m n).gray = w.gray ∧ (w.note m n).left = w.left := by
 unfold Wh.note
 split
 ·exact ⟨rfl, rfl, rfl, rfl⟩
 ·cases w.wasOf n <;> exact ⟨rfl, rfl, rfl, rfl⟩
theorem wasOf_note (w : Wh) (m : MS) (ref n : Int) (h : ref ≤ w.first) : (w.note m ref).wasOf n = if n = ref then some (w.refs m ref) else w.wasOf n := by
 unfold Wh.note
 rw [if_neg (by omega)]
 cases hx : w.wasOf ref with
 | some l =>
  by_cases e : n = ref
  ·subst e; rw [if_pos rfl]; show w.wasOf n = _; rw [hx]; simp [Wh.refs, hx]
  ·rw [if_neg e]
 | none =>
  show ((w.was ++ [(ref, m.refsOf ref)]).find? fun p => decide (p.1 = n)).map (·.2) = _
  rw [List.find?_append]
  by_cases e : n = ref
  ·subst e
   have : w.was.find? (fun p => decide (p.1 = n)) = none := by
    unfold Wh.wasOf at hx
    cases hf : w.was.find? (fun p => decide (p.1 = n)) with
    | none => rfl
    | some p => rw [hf] at hx; cases hx
   rw [this]
   simp [Wh.refs, hx]
  ·have hne : decide (ref = n) = false := by simp; exact fun h => e h.symm
   rw [if_neg e]
   simp only [List.find?_cons, hne, List.find?_nil, Option.or_none]
   rfl
theorem Inv.put {s m : MS} {roots : List Int} {w : Wh} (h : Inv s roots m w) (hon : m.on = true) {ref : Int} (hr : m.there ref = true) (o : MO) (hot : o.there = true) {j : Int} (hj : 0 ≤ j) (hneed : o.need ≤ (m.at ref).need + j) : Inv s roots ((m.paid j).put ref o) (w.note m ref) := by
 have hp : (m.paid j).objs = m.objs := rfl
 have hr' : (m.paid j).there ref = true := by rw [there_objs hp]; exact hr
 obtain ⟨n1, n2, n3, n4⟩ := note_first w m ref
 have hth : ∀ n, ((m.paid j).put ref o).there n = m.there n := fun n => by rw [there_put hr' hot, there_objs hp]
 have hlen : ((m.paid j).put ref o).objs.length = m.objs.length := by simp [MS.put, hp]
 refine ⟨n1.trans h.first, by rw [hlen]; exact h.more, h.ok, by rw [n2, n3]; exact h.gray, by rw [n3]; exact h.dup, by rw [n2]; exact h.met, by rw [n2]; exact h.root, by rw [n2, n3]; exact h.closed, fun n hn => by rw [hth]; exact h.there n hn, fun n h1 h2 => h.there2 n (by rw [← n1]; exact h1) (by rw [← hth]; exact h2), fun n hn => ?_, h.doomed, ?_⟩
 ·have hb := there_le hn
  rw [← h.was n hn]
  by_cases hf : ref ≤ w.first
  ·unfold Wh.refs
   rw [wasOf_note w m ref n hf]
   by_cases e : n = ref
   ·subst e; rw [if_pos rfl]; rfl
   ·rw [if_neg e, refsOf_put hr' hb.1, if_neg e, refsOf_objs hp]
  ·have hne : n ≠ ref := by
    intro e; subst e
    have := h.first; omega
   have : w.note m ref = w := by unfold Wh.note; rw [if_pos (by omega)]
   rw [this]
   unfold Wh.refs
   rw [refsOf_put hr' hb.1, if_neg hne, refsOf_objs hp]
 ·have hop : (w.note m ref).unl ((m.paid j).put ref o) ≤ w.unl m + j := by
   unfold Wh.unl
   rw [n1, n2, n3]
   have hrb := there_le hr
   refine sum_le (k := (ref - 1).toNat) hj (fun i hi => ?_) ?_ _
   ·have hat : ((m.paid j).put ref o).at ((i : Int) + 1) = m.at ((i : Int) + 1) := by rw [at_put (there_le hr') (by omega), if_neg (by omega), at_objs hp]
    rw [hat]
   ·have e : (((ref - 1).toNat : Nat) : Int) + 1 = ref := by omega
    rw [e, at_put (there_le hr') hrb.1, if_pos rfl]
    split <;> omega
  rw [n4]
  have := h.pay
  have : ((m.paid j).put ref o).owed = m.owed + j := by simp [MS.put, MS.paid, hon]
  omega
theorem Inv.watch {s m : MS} {roots : List Int} {w : Wh} (h : Inv s roots m w) {ref : Int} (hr : m.there ref = true) (o : MO) (hot : o.there = true) (hrefs : o.refs = (m.at ref).refs) (hneed : o.need = (m.at ref).need) : Inv s roots (m.put ref o) w := by
 have hth : ∀ n, (m.put ref o).there n = m.there n := fun n => there_put hr hot
 have hlen : (m.put ref o).objs.length = m.objs.length := by simp [MS.put]
 have hrf : ∀ n, 1 ≤ n → (m.put ref o).refsOf n = m.refsOf n := fun n h1 => by
  rw [refsOf_put hr h1]; split
  ·rename_i e; subst e; exact hrefs
  ·rfl
 refine ⟨h.first, by rw [hlen]; exact h.more, h.ok, h.gray, h.dup, h.met, h.root, h.closed, fun n hn => by rw [hth]; exact h.there n hn, fun n h1 h2 => h.there2 n h1 (by rw [← hth]; exact h2), fun n hn => ?_, h.doomed, ?_⟩
 ·rw [← h.was n hn]
  unfold Wh.refs
  rw [hrf n (there_le hn).1]
 ·have : w.unl (m.put ref o) = w.unl m := by
   unfold Wh.unl
   congr 1
   apply List.map_congr_left
   intro i hi
   rw [at_put (there_le hr) (by omega)]
   by_cases e : (i : Int) + 1 = ref
   ·rw [if_pos e, hneed, e]
   ·rw [if_neg e]
  rw [this]; exact h.pay
theorem reach_mono {refs : Int → List Int} {a b : List Int} (h : ∀ n ∈ a, n ≠ 0 → n ∈ b) {n : Int} (hr : Reach refs a n) : Reach refs b n := by
 induction hr with
 | root h1 h2 => exact .root (h _ h1 h2) h2
 | step _ hk ih => exact .step ih hk
theorem met_congr {m : MS} {a b : List Int} (h : ∀ n, n ≠ 0 → (n ∈ a ↔ n ∈ b)) (n : Int) : m.met a n = m.met b n := by
 rw [Bool.eq_iff_iff, met_iff, met_iff]
 exact ⟨reach_mono fun k h1 h2 => (h k h2).1 h1, reach_mono fun k h1 h2 => (h k h2).2 h1⟩
theorem mem_nums {m : MS} {n : Int} : n ∈ m.nums ↔ 1 ≤ n ∧ n ≤ m.objs.length := by
 unfold MS.nums
 rw [List.mem_map]
 constructor
 ·rintro ⟨i, hi, rfl⟩
  have := List.mem_range.1 hi
  omega
 ·rintro ⟨h1, h2⟩
  exact ⟨(n - 1).toNat, List.mem_range.2 (by omega), by omega⟩
theorem mem_stay {m : MS} {n : Int} : n ∈ m.stay ↔ m.there n = true ∧ n ∉ m.doomed := by
 unfold MS.stay
 rw [List.mem_filter, mem_nums]
 simp only [Bool.and_eq_true, Bool.not_eq_true', List.contains_eq_mem, decide_eq_false_iff_not]
 exact ⟨fun h => h.2, fun h => ⟨there_le h.1, h⟩⟩
theorem Inv.stay {s m : MS} {roots : List Int} {w : Wh} (h : Inv s roots m w) (hg : w.gray = []) (n : Int) : n ∈ m.stay ↔ m.there n = true ∧ (w.first < n ∨ n ∈ w.black) := by
 rw [mem_stay]
 constructor
 ·rintro ⟨h1, h2⟩
  refine ⟨h1, ?_⟩
  by_cases hf : w.first < n
  ·exact .inl hf
  ·right
   have hs := h.there2 n (by omega) h1
   rw [h.black hg]
   cases hm : s.met roots n with
   | true => rfl
   | false =>
    exfalso
    apply h2
    rw [h.doomed, List.mem_filter, mem_nums]
    exact ⟨there_le hs, by simp [hs, hm]⟩
 ·rintro ⟨h1, h2⟩
  refine ⟨h1, fun hd => ?_⟩
  rw [h.doomed, List.mem_filter, mem_nums] at hd
  simp only [Bool.and_eq_true, Bool.not_eq_true'] at hd
  rcases h2 with h2 | h2
  ·have := h.first; omega
  ·rw [h.black hg, hd.2.2] at h2; cases h2
theorem Inv.frees {s m : MS} {roots from' : List Int} {w : Wh} (h : Inv s roots m w) (hg : w.gray = []) (hf : ∀ n, n ∈ from' ↔ m.there n = true ∧ (w.first < n ∨ n ∈ w.black)) :
  (m.nums.filter fun n => m.there n && !m.met from' n) = m.endFree := by
 have hms : ∀ n, m.met from' n = m.met m.stay n := met_congr fun n _ => (hf n).trans (h.stay hg n).symm
 have hd : m.doomed = m.nums.filter fun n : Int => decide (n ≤ (s.objs.length : Int)) && (s.there n && !s.met roots n) := by
  rw [h.doomed]
  have hsplit : m.nums = s.nums ++ (List.range (m.objs.length - s.objs.length)).map (fun i : Nat => (((s.objs.length + i : Nat) : Int) + 1)) := by
   unfold MS.nums
   have e : m.objs.length = s.objs.length + (m.objs.length - s.objs.length) := by have := h.more; omega
   conv => lhs; rw [e]
   rw [List.range_add, List.map_append, List.map_map]
   rfl
  rw [hsplit, List.filter_append]
  have h2 : ((List.range (m.objs.length - s.objs.length)).map (fun i : Nat => (((s.objs.length + i : Nat) : Int) + 1))).filter (fun n : Int => decide (n ≤ (s.objs.length : Int)) && (s.there n && !s.met roots n)) = [] := by
   rw [List.filter_eq_nil_iff]
   intro n hn
   obtain ⟨i, _, rfl⟩ := List.mem_map.1 hn
   simp; omega
  rw [h2, List.append_nil]
  apply List.filter_congr
  intro n hn
  have := (mem_nums.1 hn).2
  simp [this]
 unfold MS.endFree
 rw [hd, List.filter_filter]
 apply List.filter_congr
 intro n hn
 rw [hms, Bool.eq_iff_iff]
 simp only [Bool.and_eq_true, Bool.not_eq_true', decide_eq_true_eq]
 constructor
 ·rintro ⟨h1, h2⟩
  refine ⟨h2, ?_⟩
  have hns : n ∉ m.stay := fun hs => by
   have : m.met m.stay n = true := met_iff.2 (.root hs (by have := (mem_nums.1 hn).1; omega))
   rw [this] at h2; cases h2
  have hdm : n ∈ m.doomed := by
   apply Classical.byContradiction
   intro hnd
   exact hns (mem_stay.2 ⟨h1, hnd⟩)
  rw [h.doomed, List.mem_filter, mem_nums] at hdm
  simp only [Bool.and_eq_true, Bool.not_eq_true'] at hdm
  exact ⟨hdm.1.2, hdm.2⟩
 ·rintro ⟨h1, _, h3, _⟩
  exact ⟨h.there n h3, h1⟩
theorem Inv.step {s m : MS} {roots : List Int} {w : Wh} (h : Inv s roots m w) (work : Int) : Inv s roots { m with owed := m.owed - work } { w with left := w.left + work } := by
 have := h.pay
 exact ⟨h.first, h.more, h.ok, h.gray, h.dup, h.met, h.root, h.closed, h.there, h.there2, h.was, h.doomed, by
  show 1 + w.unl m ≤ m.owed - work + (w.left + work); omega⟩
theorem Inv.owes {s m : MS} {roots : List Int} {w : Wh} (h : Inv s roots m w) (hl : w.left ≤ 0) : 0 < m.owed := by
 have := h.pay
 have := unl_nonneg w m
 omega
end Go.L17
