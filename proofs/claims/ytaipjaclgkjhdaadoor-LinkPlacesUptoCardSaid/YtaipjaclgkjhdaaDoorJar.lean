/- Texts of mine for the claims about layer 16 (link), joined: L16S. -/
import Derived.Test.YtaipjaclgkjhdaaDoorJah
set_option linter.all false
set_option linter.unusedSimpArgs false
set_option linter.unusedVariables false
/- Layer 16, plainly: objects, images, and what the functions answer. -/
namespace Go.L16
open Go.Eng

structure Rel where
  pos : Int
  name : ByteArray
  deriving DecidableEq
structure Obj where
  name : ByteArray
  code : List UInt8
  relocs : List Rel
  deriving DecidableEq
structure Img where
  names : List ByteArray
  starts : List Int
  code : List UInt8
  deriving DecidableEq

def nameByte (c : UInt8) : Bool := decide (33 ≤ c.toNat) && decide (c.toNat ≤ 126)
def isName (s : ByteArray) : Bool := s.data.toList.all nameByte && decide (1 ≤ s.size) && decide (s.size ≤ 120)

def idx (l : List ByteArray) (s : ByteArray) : Int := if l.findIdx (fun x => decide (x = s)) < l.length then (l.findIdx (fun x => decide (x = s)) : Int) else -1

/-! ### How they lie in memory -/
structure SlR (w : World) (v : Value) (rs : List Rel) : Prop where
  is : isSl v = true
  len : slLen v = rs.length
  bd : rs.length < 4611686018427387904
  pos : ∀ (i : Nat) (h : i < rs.length), w.cell? (slAddr v (i * 2)) = some (.int .i64 rs[i].pos)
  name : ∀ (i : Nat) (h : i < rs.length), w.cell? (slAddr v (i * 2 + 1)) = some (.string rs[i].name)
  wf : ∀ r ∈ rs, (-9223372036854775808 ≤ r.pos ∧ r.pos ≤ 9223372036854775807) ∧ r.name.size ≤ maxLen
theorem SlR.ext {w w' : World} {v : Value} {rs : List Rel} (h : SlR w v rs) (hE : Ext w w') : SlR w' v rs :=
  ⟨h.is, h.len, h.bd, fun i hi => hE.cell (h.pos i hi), fun i hi => hE.cell (h.name i hi), h.wf⟩

/-- An object's three cells. -/
structure ObjC (w : World) (n c r : Value) (o : Obj) : Prop where
  name : n = .string o.name
  size : o.name.size ≤ maxLen
  code : Sl encB w c o.code
  rels : SlR w r o.relocs
theorem ObjC.ext {w w' : World} {n c r : Value} {o : Obj} (h : ObjC w n c r o) (hE : Ext w w') : ObjC w' n c r o := ⟨h.name, h.size, h.code.ext hE, h.rels.ext hE⟩

structure SlO (w : World) (v : Value) (os : List Obj) : Prop where
  is : isSl v = true
  len : slLen v = os.length
  bd : os.length < 1537228672809129301
  obj : ∀ (i : Nat) (h : i < os.length), ∃ n c r, w.cell? (slAddr v (i * 3)) = some n ∧ w.cell? (slAddr v (i * 3 + 1)) = some c ∧ w.cell? (slAddr v (i * 3 + 2)) = some r ∧ ObjC w n c r os[i]
theorem SlO.ext {w w' : World} {v : Value} {os : List Obj} (h : SlO w v os) (hE : Ext w w') : SlO w' v os :=
  ⟨h.is, h.len, h.bd, fun i hi => let ⟨n, c, r, h1, h2, h3, h4⟩ := h.obj i hi; ⟨n, c, r, hE.cell h1, hE.cell h2, hE.cell h3, h4.ext hE⟩⟩

/-- Strings that lie in memory are no longer than memory. -/
def SlS (w : World) (v : Value) (ss : List ByteArray) : Prop := Sl Value.string w v ss ∧ ∀ s ∈ ss, s.size ≤ maxLen
theorem SlS.ext {w w' : World} {v : Value} {ss : List ByteArray} (h : SlS w v ss) (hE : Ext w w') : SlS w' v ss := ⟨h.1.ext hE, h.2⟩
def SlI (w : World) (v : Value) (ns : List Int) : Prop := Sl encI w v ns ∧ ∀ n ∈ ns, -9223372036854775808 ≤ n ∧ n ≤ 9223372036854775807
theorem SlI.ext {w w' : World} {v : Value} {ns : List Int} (h : SlI w v ns) (hE : Ext w w') : SlI w' v ns := ⟨h.1.ext hE, h.2⟩

/-- An image by value. -/
structure ImgC (w : World) (a b c : Value) (i : Img) : Prop where
  names : SlS w a i.names
  starts : SlI w b i.starts
  code : Sl encB w c i.code
theorem ImgC.ext {w w' : World} {a b c : Value} {i : Img} (h : ImgC w a b c i) (hE : Ext w w') : ImgC w' a b c i := ⟨h.names.ext hE, h.starts.ext hE, h.code.ext hE⟩

def badAt (i : Img) (k : Nat) : Bool :=
  !isName (i.names.getD k .empty) || (decide (0 < k) && !ltS (i.names.getD (k - 1) .empty) (i.names.getD k .empty)) || (decide (k = 0) && decide (i.starts.getD k 0 ≠ 0)) ||
    (decide (0 < k) && decide (i.starts.getD k 0 < i.starts.getD (k - 1) 0)) || decide ((i.code.length : Int) < i.starts.getD k 0)
def imgShape (i : Img) : Bool := !(decide (60 < i.names.length) || decide (i.starts.length ≠ i.names.length) || decide (1200000 < i.code.length) || (decide (i.names.length = 0) && decide (0 < i.code.length)))
def checkImage (i : Img) : Int := if imgShape i && (List.range i.names.length).all (fun k => !badAt i k) then 0 else 162

def short (l : List ByteArray) : Bool := l.all (fun s => decide (s.size ≤ 130)) && (decide (l.length ≤ 12) || (decide (60 < l.length) && decide (l.length ≤ 62)))
def small (i : Img) : Bool := short i.names && decide (i.starts.length ≤ 62) && decide (i.code.length ≤ 800)
end Go.L16
