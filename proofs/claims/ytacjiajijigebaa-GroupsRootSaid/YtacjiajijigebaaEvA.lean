/- The evaluator's words: abstract values, what they stand for in a world, and what stays so when a world grows. No condition. -/
import Derived.Orders
import Derived.Laws.World
import Derived.Laws.Cells
import Derived.Laws.Rows
import Derived.Laws.Sem
namespace Go.Ev
open Go

/-- A block's number, how many cells it has, and how many cells an element of a slice there has. -/
structure BR where
  b : Nat
  room : Nat
  e : Nat
/-- Which block an own block's name stands for. -/
abbrev GM := Nat → Option BR
def GM.le (g g' : GM) : Prop := ∀ l b, g l = some b → g' l = some b
theorem GM.le_refl (g : GM) : GM.le g g := fun _ _ h => h
theorem GM.le_trans {a b c : GM} (h : GM.le a b) (h' : GM.le b c) : GM.le a c := fun l x hx => h' l x (h l x hx)

/-- 2^256. -/
def BW : Nat := 115792089237316195423570985008687907853269984665640564039457584007913129639936
/-- 2^64. -/
def B64 : Nat := 18446744073709551616
def limb (i x : Nat) : Nat := x / B64 ^ i % B64
def limbs (x : Nat) : List Value := [.int .u64 (limb 0 x), .int .u64 (limb 1 x), .int .u64 (limb 2 x), .int .u64 (limb 3 x)]

/-- A value bound into a function value: long numbers, and single cells. -/
def fvCells : List (Nat ⊕ Value) → List Value
  | [] => []
  | .inl x :: r => limbs x ++ fvCells r
  | .inr v :: r => v :: fvCells r
def fvOk : List (Nat ⊕ Value) → Prop
  | [] => True
  | .inl x :: r => x < BW ∧ fvOk r
  | .inr v :: r => v.oneCell' = true ∧ fvOk r

/-- What a cell holds. -/
inductive CV where
  | top
  | v (x : Value)
  | bool (b : Bool)
  | int (k : IntKind) (n : Int)
  | ptr (l off i : Nat)
  | sl (l off i len cap : Nat)
  | fn (f : FuncId) (first : List (List (Nat ⊕ Value))) (caps : List Nat)

def capsRel (g : GM) : List Nat → List Value → Prop
  | [], vs => vs = []
  | l :: r, vs => ∃ b ws, g l = some b ∧ vs = .pointer (some ⟨b.b, 0, none⟩) :: ws ∧ capsRel g r ws

def fvsOk : List (List (Nat ⊕ Value)) → Prop
  | [] => True
  | x :: r => fvOk x ∧ fvsOk r

def IntKind.has (k : IntKind) (n : Int) : Prop := k.min ≤ n ∧ n ≤ k.max

def CV.rel (g : GM) : CV → Value → Prop
  | .top, _ => True
  | .v x, y => y = x
  | .bool b, y => y = .bool b
  | .int k n, y => y = .int k n ∧ IntKind.has k n
  | .ptr l o i, y => ∃ b, g l = some b ∧ y = .pointer (some ⟨b.b, o + i, none⟩)
  | .sl l o i n c, y => (n = 0 ∧ c = 0 ∧ ∃ ad, y = .slice ad 0 0) ∨ (n ≤ c ∧ ∃ cap, c ≤ cap ∧ cap ≤ 9223372036854775807 ∧ ∃ b, g l = some b ∧ o + i + cap * b.e ≤ b.room ∧ y = .slice (some ⟨b.b, o + i, none⟩) n cap)
  | .fn f fs cs, y => fvsOk fs ∧ ∃ ws : Array Value, capsRel g cs ws.toList ∧ y = .func (.func f) (fs.map fun x => Value.agg (fvCells x).toArray).toArray ws

/-- What some cells in a row hold. -/
inductive Ch where
  | cell (c : CV)
  | num (x : Nat)
  | vec (n : Nat) (f : Nat → CV)

def Ch.size : Ch → Nat
  | .cell _ => 1
  | .num _ => 4
  | .vec n _ => n

def Ch.rel (g : GM) : Ch → List Value → Prop
  | .cell c, vs => ∃ y, vs = [y] ∧ y.oneCell' = true ∧ c.rel g y
  | .num x, vs => x < BW ∧ vs = limbs x
  | .vec n f, vs => vs.length = n ∧ ∀ i y, vs[i]? = some y → y.oneCell' = true ∧ (f i).rel g y

def chsRel (g : GM) : List Ch → List Value → Prop
  | [], vs => vs = []
  | c :: cs, vs => ∃ us ws, vs = us ++ ws ∧ c.rel g us ∧ chsRel g cs ws

def chsSize : List Ch → Nat
  | [] => 0
  | c :: cs => c.size + chsSize cs

/-- What an argument, or a part of a result, is. -/
inductive AB where
  | cv (c : CV)
  | agg (cs : List Ch)

def AB.rel (g : GM) : AB → Value → Prop
  | .cv c, y => c.rel g y
  | .agg cs, y => ∃ a : Array Value, y = .agg a ∧ chsRel g cs a.toList

def absRel (g : GM) : List AB → List Value → Prop
  | [], vs => vs = []
  | x :: xs, vs => ∃ y ys, vs = y :: ys ∧ x.rel g y ∧ absRel g xs ys

/-- What a slot holds. -/
inductive AV where
  | b (x : AB)
  | tup (xs : List AB)

def AV.rel (g : GM) : AV → Value → Prop
  | .b x, y => x.rel g y
  | .tup xs, y => ∃ a : Array Value, y = .tuple a ∧ absRel g xs a.toList

abbrev AV.top : AV := .b (.cv .top)

theorem AV.top_rel (g : GM) (y : Value) : AV.top.rel g y := trivial

theorem capsRel_mono {g g' : GM} (h : GM.le g g') : ∀ (cs : List Nat) (vs : List Value), capsRel g cs vs → capsRel g' cs vs
  | [], _, hh => hh
  | _ :: cs, _, ⟨b, ws, h1, h2, h3⟩ => ⟨b, ws, h _ _ h1, h2, capsRel_mono h cs ws h3⟩

theorem CV.rel_mono {g g' : GM} (h : GM.le g g') {c : CV} {y : Value} (hh : c.rel g y) : c.rel g' y := by
  cases c with
  | ptr l o i => obtain ⟨b, h1, h2⟩ := hh; exact ⟨b, h _ _ h1, h2⟩
  | sl l o i n c =>
    rcases hh with hh | ⟨h0, cap, hc, h0', b, h1, h2'⟩
    · exact .inl hh
    · exact .inr ⟨h0, cap, hc, h0', b, h _ _ h1, h2'⟩
  | fn f fs cs => obtain ⟨h0, ws, h1, h2⟩ := hh; exact ⟨h0, ws, capsRel_mono h _ _ h1, h2⟩
  | _ => exact hh

theorem Ch.rel_mono {g g' : GM} (h : GM.le g g') {c : Ch} {vs : List Value} (hh : c.rel g vs) : c.rel g' vs := by
  cases c with
  | cell c => obtain ⟨y, h1, h2, h3⟩ := hh; exact ⟨y, h1, h2, CV.rel_mono h h3⟩
  | num x => exact hh
  | vec n f => exact ⟨hh.1, fun i y hi => ⟨(hh.2 i y hi).1, CV.rel_mono h (hh.2 i y hi).2⟩⟩

theorem chsRel_mono {g g' : GM} (h : GM.le g g') : ∀ (cs : List Ch) (vs : List Value), chsRel g cs vs → chsRel g' cs vs
  | [], _, hh => hh
  | _ :: cs, _, ⟨us, ws, h1, h2, h3⟩ => ⟨us, ws, h1, Ch.rel_mono h h2, chsRel_mono h cs ws h3⟩

theorem AB.rel_mono {g g' : GM} (h : GM.le g g') {c : AB} {y : Value} (hh : c.rel g y) : c.rel g' y := by
  cases c with
  | cv c => exact CV.rel_mono h hh
  | agg cs => obtain ⟨a, h1, h2⟩ := hh; exact ⟨a, h1, chsRel_mono h _ _ h2⟩

theorem absRel_mono {g g' : GM} (h : GM.le g g') : ∀ (cs : List AB) (vs : List Value), absRel g cs vs → absRel g' cs vs
  | [], _, hh => hh
  | _ :: cs, _, ⟨y, ys, h1, h2, h3⟩ => ⟨y, ys, h1, AB.rel_mono h h2, absRel_mono h cs ys h3⟩

theorem AV.rel_mono {g g' : GM} (h : GM.le g g') {c : AV} {y : Value} (hh : c.rel g y) : c.rel g' y := by
  cases c with
  | b c => exact AB.rel_mono h hh
  | tup xs => obtain ⟨a, h1, h2⟩ := hh; exact ⟨a, h1, absRel_mono h _ _ h2⟩

theorem limbs_length (x : Nat) : (limbs x).length = 4 := rfl

theorem Ch.rel_size {g : GM} {c : Ch} {vs : List Value} (h : c.rel g vs) : vs.length = c.size := by
  cases c with
  | cell c => obtain ⟨y, rfl, _⟩ := h; rfl
  | num x => rw [h.2]; rfl
  | vec n f => exact h.1

theorem chsRel_size {g : GM} : ∀ (cs : List Ch) (vs : List Value), chsRel g cs vs → vs.length = chsSize cs
  | [], _, h => by rw [show _ = [] from h]; rfl
  | c :: cs, _, ⟨us, ws, h1, h2, h3⟩ => by rw [h1, List.length_append, Ch.rel_size h2, chsRel_size cs ws h3]; rfl

theorem chsRel_append {g : GM} : ∀ (as bs : List Ch) (vs : List Value), chsRel g (as ++ bs) vs ↔ ∃ us ws, vs = us ++ ws ∧ chsRel g as us ∧ chsRel g bs ws
  | [], bs, vs => by
    constructor
    · intro h; exact ⟨[], vs, rfl, rfl, h⟩
    · rintro ⟨us, ws, rfl, h1, h2⟩
      rw [show us = [] from h1]; exact h2
  | a :: as, bs, vs => by
    constructor
    · rintro ⟨us, ws, rfl, h1, h2⟩
      obtain ⟨us', ws', rfl, h3, h4⟩ := (chsRel_append as bs ws).1 h2
      exact ⟨us ++ us', ws', by rw [List.append_assoc], ⟨us, us', rfl, h1, h3⟩, h4⟩
    · rintro ⟨us, ws, rfl, ⟨us', ws', rfl, h1, h3⟩, h4⟩
      exact ⟨us', ws' ++ ws, by rw [List.append_assoc], h1, (chsRel_append as bs (ws' ++ ws)).2 ⟨ws', ws, rfl, h3, h4⟩⟩

/-- An own block: what it holds, and its type. -/
abbrev Blk := List Ch × TypeId

/-- From the world w0 on nothing but new blocks, and the blocks that S lets, has turned. -/
structure Fr (S : Nat → Prop) (w0 w : World) : Prop where
  os : w.os = w0.os
  tape : w.tape = w0.tape
  output : w.output = w0.output
  size : w0.heap.size ≤ w.heap.size
  block : ∀ k, k < w0.heap.size → ¬ S k → w.heap[k]? = w0.heap[k]?

theorem Fr.refl (S : Nat → Prop) (w : World) : Fr S w w := ⟨rfl, rfl, rfl, Nat.le_refl _, fun _ _ _ => rfl⟩
theorem Fr.trans {S : Nat → Prop} {a b c : World} (h : Fr S a b) (k : Fr S b c) : Fr S a c :=
  ⟨k.os.trans h.os, k.tape.trans h.tape, k.output.trans h.output, Nat.le_trans h.size k.size,
    fun i hi hs => (k.block i (Nat.lt_of_lt_of_le hi h.size) hs).trans (h.block i hi hs)⟩

structure GW (g : GM) (S : Nat → Prop) (w0 w : World) : Prop where
  own : ∀ l b, g l = some b → b.b < w.heap.size
  fr : Fr S w0 w

/-- The mark of a block that is read only. -/
def EXTM : Nat := 1000000007
/-- Is a block of what came in? Its mark is this great. Else the mark tells how many cells an element has, less one. -/
def isExt (t : Nat) : Bool := Nat.ble EXTM t
def emk (t : Nat) : Nat := (match Nat.ble EXTM t with
  | true => t - EXTM
  | false => t) + 1
/-- A block that may be written, and of which something is known. -/
def live (k : Blk) : Prop := k.1 ≠ [] ∧ isExt k.2 = false
/-- What a name's block holds: its cells begin with these; of a block with no cells told nothing is known. -/
def BlkRel (S : Nat → Prop) (w0 : World) (g : GM) (w : World) (b : BR) (k : Blk) : Prop :=
  (isExt k.2 = true ↔ ¬ (S b.b ∨ w0.heap.size ≤ b.b)) ∧ (k.1 = [] ∨ ∃ (cs : Array Value) (ty : TypeId) (fz : Nat × Nat) (us rest : List Value), w.heap[b.b]? = some (.cells cs ty fz) ∧ (cs.size = b.room ∧ b.e = emk k.2) ∧ cs.toList = us ++ rest ∧ chsRel g k.1 us ∧
    (isExt k.2 = false → ∀ off, off < cs.size → ¬ (fz.1 ≤ off ∧ off < fz.2)))

theorem BlkRel.mono {S : Nat → Prop} {w0 : World} {g g' : GM} (h : GM.le g g') {w w' : World} {b : BR} {k : Blk} (hh : BlkRel S w0 g w b k) (hw : k.1 ≠ [] → w'.heap[b.b]? = w.heap[b.b]?) : BlkRel S w0 g' w' b k := by
  obtain ⟨h0, hh⟩ := hh
  refine ⟨h0, ?_⟩
  rcases hh with hh | ⟨cs, ty, fz, us, rest, h1, hsz, h2, h3, h4⟩
  · exact .inl hh
  · by_cases he : k.1 = []
    · exact .inl he
    · exact .inr ⟨cs, ty, fz, us, rest, by rw [hw he]; exact h1, hsz, h2, chsRel_mono h _ _ h3, h4⟩
theorem BlkRel.dead {S : Nat → Prop} {w0 : World} {g g' : GM} {w w' : World} {b : BR} {k : Blk} (hh : BlkRel S w0 g w b k) : BlkRel S w0 g' w' b ([], k.2) := ⟨hh.1, .inl rfl⟩

end Go.Ev
