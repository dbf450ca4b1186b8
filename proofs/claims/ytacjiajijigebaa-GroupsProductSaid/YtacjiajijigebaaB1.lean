/- The evaluator of operations is right. No condition. -/
import Derived.Test.YtacjiajijigebaaRows
import Derived.ProofKit
import Derived.Orders
import Derived.Laws.World
import Derived.Laws.Cells
import Derived.Laws.Rows
import Derived.Laws.Sem
import Derived.Tactics
import Derived.Laws.StructEq
import Derived.Laws.Entries
namespace Go.Proofs.Ytacjiajijigebaa
open Go
def ioL : List Char := List.map Char.ofNat [104, 97, 114, 110, 101, 115, 115, 32, 53, 50, 100, 54, 56, 97, 55, 100, 55, 99, 101, 55, 49, 97, 51, 101, 57, 50, 102, 57, 98, 56, 51, 48, 50, 53, 102, 52, 101, 51, 102, 99, 102, 101, 101, 53, 98, 98, 99, 102, 98, 97, 51, 99, 50, 48, 98, 52, 97, 55, 100, 56, 57, 97, 100, 102, 100, 49, 49, 52, 100, 100, 100, 98, 32, 99, 117, 116, 32, 97, 116, 32, 98, 97, 108, 101, 102, 105, 114, 101, 47, 98, 97, 108, 101, 102, 105, 114, 101, 108, 97, 119, 48, 55, 46, 80, 114, 105, 109, 101, 115, 83, 109, 97, 108, 108, 32, 98, 97, 108, 101, 102, 105, 114, 101, 47, 98, 97, 108, 101, 102, 105, 114, 101, 108, 97, 119, 48, 54, 46, 72, 97, 115, 104, 101, 115, 79, 102, 32, 98, 97, 108, 101, 102, 105, 114, 101, 47, 98, 97, 108, 101, 102, 105, 114, 101, 108, 97, 119, 48, 54, 46, 72, 97, 115, 104, 101, 115, 66, 121, 116, 101, 115, 32, 98, 97, 108, 101, 102, 105, 114, 101, 47, 98, 97, 108, 101, 102, 105, 114, 101, 108, 97, 119, 48, 56, 46, 71, 114, 111, 117, 112, 115, 79, 102, 32, 98, 97, 108, 101, 102, 105, 114, 101, 47, 98, 97, 108, 101, 102, 105, 114, 101, 108, 97, 119, 48, 54, 46, 72, 97, 115, 104, 101, 115, 72, 97, 108, 118, 101, 115, 32, 98, 97, 108, 101, 102, 105, 114, 101, 47, 98, 97, 108, 101, 102, 105, 114, 101, 108, 97, 119, 48, 55, 46, 80, 114, 105, 109, 101, 115, 67, 104, 101, 99, 107, 32, 98, 97, 108, 101, 102, 105, 114, 101, 47, 98, 97, 108, 101, 102, 105, 114, 101, 108, 97, 119, 49, 51, 46, 83, 105, 103, 115, 84, 119, 111, 32, 98, 97, 108, 101, 102, 105, 114, 101, 47, 98, 97, 108, 101, 102, 105, 114, 101, 108, 97, 119, 48, 55, 46, 80, 114, 105, 109, 101, 115, 80, 114, 111, 100, 117, 99, 116, 32, 98, 97, 108, 101, 102, 105, 114, 101, 47, 98, 97, 108, 101, 102, 105, 114, 101, 108, 97, 119, 48, 55, 46, 80, 114, 105, 109, 101, 115, 80, 97, 114, 116, 115, 32, 98, 97, 108, 101, 102, 105, 114, 101, 47, 98, 97, 108, 101, 102, 105, 114, 101, 108, 97, 119, 49, 52, 46, 80, 114, 111, 111, 102, 115, 84, 111, 108, 100, 32, 98, 97, 108, 101, 102, 105, 114, 101, 47, 98, 97, 108, 101, 102, 105, 114, 101, 108, 97, 119, 48, 55, 46, 80, 114, 105, 109, 101, 115, 84, 117, 114, 110, 101, 100, 32, 98, 97, 108, 101, 102, 105, 114, 101, 47, 98, 97, 108, 101, 102, 105, 114, 101, 108, 97, 119, 48, 55, 46, 80, 114, 105, 109, 101, 115, 87, 105, 108, 115, 111, 110, 32, 98, 97, 108, 101, 102, 105, 114, 101, 47, 98, 97, 108, 101, 102, 105, 114, 101, 108, 97, 119, 48, 54, 46, 72, 97, 115, 104, 101, 115, 78, 117, 109, 98, 101, 114, 32, 98, 97, 108, 101, 102, 105, 114, 101, 47, 98, 97, 108, 101, 102, 105, 114, 101, 108, 97, 119, 48, 55, 46, 80, 114, 105, 109, 101, 115, 76, 101, 102, 116, 32, 98, 97, 108, 101, 102, 105, 114, 101, 47, 98, 97, 108, 101, 102, 105, 114, 101, 108, 97, 119, 48, 56, 46, 71, 114, 111, 117, 112, 115, 67, 104, 101, 99, 107, 32, 98, 97, 108, 101, 102, 105, 114, 101, 47, 98, 97, 108, 101, 102, 105, 114, 101, 108, 97, 119, 48, 56, 46, 71, 114, 111, 117, 112, 115, 67, 108, 111, 115, 101, 100, 32, 98, 97, 108, 101, 102, 105, 114, 101, 47, 98, 97, 108, 101, 102, 105, 114, 101, 108, 97, 119, 48, 56, 46, 71, 114, 111, 117, 112, 115, 82, 111, 117, 110, 100, 32, 98, 97, 108, 101, 102, 105, 114, 101, 47, 98, 97, 108, 101, 102, 105, 114, 101, 108, 97, 119, 48, 56, 46, 71, 114, 111, 117, 112, 115, 80, 114, 111, 100, 117, 99, 116, 32, 98, 97, 108, 101, 102, 105, 114, 101, 47, 98, 97, 108, 101, 102, 105, 114, 101, 108, 97, 119, 48, 56, 46, 71, 114, 111, 117, 112, 115, 82, 111, 111, 116, 32, 98, 97, 108, 101, 102, 105, 114, 101, 47, 98, 97, 108, 101, 102, 105, 114, 101, 108, 97, 119, 49, 51, 46, 83, 105, 103, 115, 66, 111, 117, 110, 100, 115, 32, 98, 97, 108, 101, 102, 105, 114, 101, 47, 98, 97, 108, 101, 102, 105, 114, 101, 108, 97, 119, 49, 51, 46, 83, 105, 103, 115, 66, 97, 99, 107, 32, 98, 97, 108, 101, 102, 105, 114, 101, 47, 98, 97, 108, 101, 102, 105, 114, 101, 108, 97, 119, 49, 51, 46, 83, 105, 103, 115, 77, 111, 118, 101, 100, 32, 98, 97, 108, 101, 102, 105, 114, 101, 47, 98, 97, 108, 101, 102, 105, 114, 101, 108, 97, 119, 49, 52, 46, 80, 114, 111, 111, 102, 115, 66, 111, 117, 110, 100, 115, 32, 98, 97, 108, 101, 102, 105, 114, 101, 47, 98, 97, 108, 101, 102, 105, 114, 101, 108, 97, 119, 49, 52, 46, 80, 114, 111, 111, 102, 115, 66, 97, 99, 107, 32, 98, 97, 108, 101, 102, 105, 114, 101, 47, 98, 97, 108, 101, 102, 105, 114, 101, 108, 97, 119, 49, 52, 46, 80, 114, 111, 111, 102, 115, 83, 97, 109, 101, 32, 98, 97, 108, 101, 102, 105, 114, 101, 47, 98, 97, 108, 101, 102, 105, 114, 101, 108, 97, 119, 49, 52, 46, 80, 114, 111, 111, 102, 115, 77, 111, 118, 101, 100]
theorem io_eq : Try.prog.initOrder = String.ofList ioL := by kernel_rfl
theorem io_list : Try.prog.initOrder.toList = ioL := by rw [io_eq, String.toList_ofList]
def ioW : List (List Char) := behindMainWord (wordsSigns ioL)
theorem ioW_cons : ioW = "cut".toList :: ioW.tail := by kernel_rfl
theorem io_words : behindMainWord (wordsSigns Try.prog.initOrder.toList) = "cut".toList :: ioW.tail := by
  rw [io_list]; exact ioW_cons
theorem make_of (P : Program) (rest : List (List Char)) (h : behindMainWord (wordsSigns P.initOrder.toList) = "cut".toList :: rest) : P.make = some .cut := by
  unfold Program.make
  rw [h]
  kernel_rfl
theorem lifts_of (P : Program) (rest : List (List Char)) (h : behindMainWord (wordsSigns P.initOrder.toList) = "cut".toList :: rest) : P.liftsFinal = false := by
  unfold Program.liftsFinal Program.headLifts
  rw [h]
  kernel_rfl
theorem may_of (P : Program) (rest : List (List Char)) (h : behindMainWord (wordsSigns P.initOrder.toList) = "cut".toList :: rest) (h1 : P.laysLater = false) (h2 : P.bearsReflect = false) (h3 : P.doorFits [] = true) : P.mayEnter = true := by
  unfold Program.mayEnter
  rw [h, h1, h2]
  have e : stripLifts liftWords ("cut".toList :: rest) = ([], "cut".toList :: rest) := by kernel_rfl
  simp at e
  simp [e, h3]
theorem may_enter : Try.prog.mayEnter = true := may_of Try.prog _ io_words (by kernel_rfl) (by kernel_rfl) (by kernel_rfl)
theorem lifts_final : Try.prog.liftsFinal = false := lifts_of Try.prog _ io_words
theorem make_cut : Try.prog.make = some .cut := make_of Try.prog _ io_words
theorem and_t {a b : Bool} (h1 : a = true) (h2 : b = true) : (a && b) = true := by rw [h1, h2]; rfl
theorem Try.own : ownKnob Try.prog.godebug = none := by kernel_rfl
theorem Try.laidOut : laidOutB Try.prog = true := by kernel_rfl
theorem io_maps : mapsRowed Try.prog = true := by kernel_rfl
theorem io_heard : Try.prog.stopsHeard = true := by kernel_rfl
theorem io_keys : (true == Try.prog.plainKeys) = true := by kernel_rfl
theorem io_stops : (Try.prog.stops == []) = true := by kernel_rfl
theorem io_lift {b : Bool} (h : b = false) : (b == Try.prog.liftsFinal) = true := by rw [lifts_final, h]; rfl
theorem io_make {m : Make} (h : m = .cut) : (Try.prog.make == some m) = true := by rw [make_cut, h]; rfl
end Go.Proofs.Ytacjiajijigebaa
namespace Go.Ev
open Go

/-- A block's number, how many cells it has, and how many cells an element of a slice there has. -/
structure BR where
  b : Nat
  room : Nat
  e : Nat
/-- Which block an own block's name stands for. -/
abbrev GM := Nat → Option BR
def GM.le (g g' : GM) : Prop := ∀ l b, g l = some b → g' l = some b
theorem GM.le_refl (g : GM) : GM.le g g := fun _ _ h => h
theorem GM.le_trans {a b c : GM} (h : GM.le a b) (h' : GM.le b c) : GM.le a c := fun l x hx => h' l x (h l x hx)

/-- 2^256. -/
def BW : Nat := 115792089237316195423570985008687907853269984665640564039457584007913129639936
/-- 2^64. -/
def B64 : Nat := 18446744073709551616
def limb (i x : Nat) : Nat := x / B64 ^ i % B64
def limbs (x : Nat) : List Value := [.int .u64 (limb 0 x), .int .u64 (limb 1 x), .int .u64 (limb 2 x), .int .u64 (limb 3 x)]

/-- A value bound into a function value: long numbers, and single cells. -/
def fvCells : List (Nat ⊕ Value) → List Value
  | [] => []
  | .inl x :: r => limbs x ++ fvCells r
  | .inr v :: r => v :: fvCells r
def fvOk : List (Nat ⊕ Value) → Prop
  | [] => True
  | .inl x :: r => x < BW ∧ fvOk r
  | .inr v :: r => v.oneCell' = true ∧ fvOk r

/-- What a cell holds. -/
inductive CV where
  | top
  | v (x : Value)
  | bool (b : Bool)
  | int (k : IntKind) (n : Int)
  | ptr (l off i : Nat)
  | sl (l off i len cap : Nat)
  | fn (f : FuncId) (first : List (List (Nat ⊕ Value))) (caps : List Nat)

def capsRel (g : GM) : List Nat → List Value → Prop
  | [], vs => vs = []
  | l :: r, vs => ∃ b ws, g l = some b ∧ vs = .pointer (some ⟨b.b, 0, none⟩) :: ws ∧ capsRel g r ws

def fvsOk : List (List (Nat ⊕ Value)) → Prop
  | [] => True
  | x :: r => fvOk x ∧ fvsOk r

def IntKind.has (k : IntKind) (n : Int) : Prop := k.min ≤ n ∧ n ≤ k.max

def CV.rel (g : GM) : CV → Value → Prop
  | .top, _ => True
  | .v x, y => y = x
  | .bool b, y => y = .bool b
  | .int k n, y => y = .int k n ∧ IntKind.has k n
  | .ptr l o i, y => ∃ b, g l = some b ∧ y = .pointer (some ⟨b.b, o + i, none⟩)
  | .sl l o i n c, y => (n = 0 ∧ c = 0 ∧ ∃ ad, y = .slice ad 0 0) ∨ (n ≤ c ∧ ∃ cap, c ≤ cap ∧ cap ≤ 9223372036854775807 ∧ ∃ b, g l = some b ∧ o + i + cap * b.e ≤ b.room ∧ y = .slice (some ⟨b.b, o + i, none⟩) n cap)
  | .fn f fs cs, y => fvsOk fs ∧ ∃ ws : Array Value, capsRel g cs ws.toList ∧ y = .func (.func f) (fs.map fun x => Value.agg (fvCells x).toArray).toArray ws

/-- What some cells in a row hold. -/
inductive Ch where
  | cell (c : CV)
  | num (x : Nat)
  | vec (n : Nat) (f : Nat → CV)

def Ch.size : Ch → Nat
  | .cell _ => 1
  | .num _ => 4
  | .vec n _ => n

def Ch.rel (g : GM) : Ch → List Value → Prop
  | .cell c, vs => ∃ y, vs = [y] ∧ y.oneCell' = true ∧ c.rel g y
  | .num x, vs => x < BW ∧ vs = limbs x
  | .vec n f, vs => vs.length = n ∧ ∀ i y, vs[i]? = some y → y.oneCell' = true ∧ (f i).rel g y

def chsRel (g : GM) : List Ch → List Value → Prop
  | [], vs => vs = []
  | c :: cs, vs => ∃ us ws, vs = us ++ ws ∧ c.rel g us ∧ chsRel g cs ws

def chsSize : List Ch → Nat
  | [] => 0
  | c :: cs => c.size + chsSize cs

/-- What an argument, or a part of a result, is. -/
inductive AB where
  | cv (c : CV)
  | agg (cs : List Ch)

def AB.rel (g : GM) : AB → Value → Prop
  | .cv c, y => c.rel g y
  | .agg cs, y => ∃ a : Array Value, y = .agg a ∧ chsRel g cs a.toList

def absRel (g : GM) : List AB → List Value → Prop
  | [], vs => vs = []
  | x :: xs, vs => ∃ y ys, vs = y :: ys ∧ x.rel g y ∧ absRel g xs ys

/-- What a slot holds. -/
inductive AV where
  | b (x : AB)
  | tup (xs : List AB)

def AV.rel (g : GM) : AV → Value → Prop
  | .b x, y => x.rel g y
  | .tup xs, y => ∃ a : Array Value, y = .tuple a ∧ absRel g xs a.toList

abbrev AV.top : AV := .b (.cv .top)

theorem AV.top_rel (g : GM) (y : Value) : AV.top.rel g y := trivial

theorem capsRel_mono {g g' : GM} (h : GM.le g g') : ∀ (cs : List Nat) (vs : List Value), capsRel g cs vs → capsRel g' cs vs
  | [], _, hh => hh
  | _ :: cs, _, ⟨b, ws, h1, h2, h3⟩ => ⟨b, ws, h _ _ h1, h2, capsRel_mono h cs ws h3⟩

theorem CV.rel_mono {g g' : GM} (h : GM.le g g') {c : CV} {y : Value} (hh : c.rel g y) : c.rel g' y := by
  cases c with
  | ptr l o i => obtain ⟨b, h1, h2⟩ := hh; exact ⟨b, h _ _ h1, h2⟩
  | sl l o i n c =>
    rcases hh with hh | ⟨h0, cap, hc, h0', b, h1, h2'⟩
    · exact .inl hh
    · exact .inr ⟨h0, cap, hc, h0', b, h _ _ h1, h2'⟩
  | fn f fs cs => obtain ⟨h0, ws, h1, h2⟩ := hh; exact ⟨h0, ws, capsRel_mono h _ _ h1, h2⟩
  | _ => exact hh

theorem Ch.rel_mono {g g' : GM} (h : GM.le g g') {c : Ch} {vs : List Value} (hh : c.rel g vs) : c.rel g' vs := by
  cases c with
  | cell c => obtain ⟨y, h1, h2, h3⟩ := hh; exact ⟨y, h1, h2, CV.rel_mono h h3⟩
  | num x => exact hh
  | vec n f => exact ⟨hh.1, fun i y hi => ⟨(hh.2 i y hi).1, CV.rel_mono h (hh.2 i y hi).2⟩⟩

theorem chsRel_mono {g g' : GM} (h : GM.le g g') : ∀ (cs : List Ch) (vs : List Value), chsRel g cs vs → chsRel g' cs vs
  | [], _, hh => hh
  | _ :: cs, _, ⟨us, ws, h1, h2, h3⟩ => ⟨us, ws, h1, Ch.rel_mono h h2, chsRel_mono h cs ws h3⟩

theorem AB.rel_mono {g g' : GM} (h : GM.le g g') {c : AB} {y : Value} (hh : c.rel g y) : c.rel g' y := by
  cases c with
  | cv c => exact CV.rel_mono h hh
  | agg cs => obtain ⟨a, h1, h2⟩ := hh; exact ⟨a, h1, chsRel_mono h _ _ h2⟩

theorem absRel_mono {g g' : GM} (h : GM.le g g') : ∀ (cs : List AB) (vs : List Value), absRel g cs vs → absRel g' cs vs
  | [], _, hh => hh
  | _ :: cs, _, ⟨y, ys, h1, h2, h3⟩ => ⟨y, ys, h1, AB.rel_mono h h2, absRel_mono h cs ys h3⟩

theorem AV.rel_mono {g g' : GM} (h : GM.le g g') {c : AV} {y : Value} (hh : c.rel g y) : c.rel g' y := by
  cases c with
  | b c => exact AB.rel_mono h hh
  | tup xs => obtain ⟨a, h1, h2⟩ := hh; exact ⟨a, h1, absRel_mono h _ _ h2⟩

theorem limbs_length (x : Nat) : (limbs x).length = 4 := rfl

theorem Ch.rel_size {g : GM} {c : Ch} {vs : List Value} (h : c.rel g vs) : vs.length = c.size := by
  cases c with
  | cell c => obtain ⟨y, rfl, _⟩ := h; rfl
  | num x => rw [h.2]; rfl
  | vec n f => exact h.1

theorem chsRel_size {g : GM} : ∀ (cs : List Ch) (vs : List Value), chsRel g cs vs → vs.length = chsSize cs
  | [], _, h => by rw [show _ = [] from h]; rfl
  | c :: cs, _, ⟨us, ws, h1, h2, h3⟩ => by rw [h1, List.length_append, Ch.rel_size h2, chsRel_size cs ws h3]; rfl

theorem chsRel_append {g : GM} : ∀ (aa bs : List Ch) (vs : List Value), chsRel g (aa ++ bs) vs ↔ ∃ us ws, vs = us ++ ws ∧ chsRel g aa us ∧ chsRel g bs ws
  | [], bs, vs => by
    constructor
    · intro h; exact ⟨[], vs, rfl, rfl, h⟩
    · rintro ⟨us, ws, rfl, h1, h2⟩
      rw [show us = [] from h1]; exact h2
  | a :: aa, bs, vs => by
    constructor
    · rintro ⟨us, ws, rfl, h1, h2⟩
      obtain ⟨us', ws', rfl, h3, h4⟩ := (chsRel_append aa bs ws).1 h2
      exact ⟨us ++ us', ws', by rw [List.append_assoc], ⟨us, us', rfl, h1, h3⟩, h4⟩
    · rintro ⟨us, ws, rfl, ⟨us', ws', rfl, h1, h3⟩, h4⟩
      exact ⟨us', ws' ++ ws, by rw [List.append_assoc], h1, (chsRel_append aa bs (ws' ++ ws)).2 ⟨ws', ws, rfl, h3, h4⟩⟩

/-- An own block: what it holds, and its type. -/
abbrev Blk := List Ch × TypeId

/-- From the world w0 on nothing but new blocks, and the blocks that S lets, has turned. -/
structure Fr (S : Nat → Prop) (w0 w : World) : Prop where
  os : w.os = w0.os
  tape : w.tape = w0.tape
  output : w.output = w0.output
  size : w0.heap.size ≤ w.heap.size
  block : ∀ k, k < w0.heap.size → ¬ S k → w.heap[k]? = w0.heap[k]?

theorem Fr.refl (S : Nat → Prop) (w : World) : Fr S w w := ⟨rfl, rfl, rfl, Nat.le_refl _, fun _ _ _ => rfl⟩
theorem Fr.trans {S : Nat → Prop} {a b c : World} (h : Fr S a b) (k : Fr S b c) : Fr S a c :=
  ⟨k.os.trans h.os, k.tape.trans h.tape, k.output.trans h.output, Nat.le_trans h.size k.size,
    fun i hi hs => (k.block i (Nat.lt_of_lt_of_le hi h.size) hs).trans (h.block i hi hs)⟩

structure GW (g : GM) (S : Nat → Prop) (w0 w : World) : Prop where
  own : ∀ l b, g l = some b → b.b < w.heap.size
  fr : Fr S w0 w

/-- The mark of a block that is read only. -/
def EXTM : Nat := 1000000007
/-- Is a block of what came in? Its mark is this great. Else the mark tells how many cells an element has, less one. -/
def isExt (t : Nat) : Bool := Nat.ble EXTM t
def emk (t : Nat) : Nat := (match Nat.ble EXTM t with
  | true => t - EXTM
  | false => t) + 1
/-- A block that may be written, and of which something is known. -/
def live (k : Blk) : Prop := k.1 ≠ [] ∧ isExt k.2 = false
/-- What a name's block holds: its cells begin with these; of a block with no cells told nothing is known. -/
def BlkRel (S : Nat → Prop) (w0 : World) (g : GM) (w : World) (b : BR) (k : Blk) : Prop :=
  (isExt k.2 = true ↔ ¬ (S b.b ∨ w0.heap.size ≤ b.b)) ∧ (k.1 = [] ∨ ∃ (cs : Array Value) (ty : TypeId) (fz : Nat × Nat) (us rest : List Value), w.heap[b.b]? = some (.cells cs ty fz) ∧ (cs.size = b.room ∧ b.e = emk k.2) ∧ cs.toList = us ++ rest ∧ chsRel g k.1 us ∧
    (isExt k.2 = false → ∀ off, off < cs.size → ¬ (fz.1 ≤ off ∧ off < fz.2)))

theorem BlkRel.mono {S : Nat → Prop} {w0 : World} {g g' : GM} (h : GM.le g g') {w w' : World} {b : BR} {k : Blk} (hh : BlkRel S w0 g w b k) (hw : k.1 ≠ [] → w'.heap[b.b]? = w.heap[b.b]?) : BlkRel S w0 g' w' b k := by
  obtain ⟨h0, hh⟩ := hh
  refine ⟨h0, ?_⟩
  rcases hh with hh | ⟨cs, ty, fz, us, rest, h1, hsz, h2, h3, h4⟩
  · exact .inl hh
  · by_cases he : k.1 = []
    · exact .inl he
    · exact .inr ⟨cs, ty, fz, us, rest, by rw [hw he]; exact h1, hsz, h2, chsRel_mono h _ _ h3, h4⟩
theorem BlkRel.dead {S : Nat → Prop} {w0 : World} {g g' : GM} {w w' : World} {b : BR} {k : Blk} (hh : BlkRel S w0 g w b k) : BlkRel S w0 g' w' b ([], k.2) := ⟨hh.1, .inl rfl⟩

end Go.Ev
namespace Go.Ev
open Go

def lnth : List AV → Nat → AV
  | [], _ => .top
  | x :: _, 0 => x
  | _ :: xs, n + 1 => lnth xs n
def lset : List AV → Nat → AV → List AV
  | [], _, _ => []
  | _ :: xs, 0, v => v :: xs
  | x :: xs, n + 1, v => x :: lset xs n v
def putO (ts : List AV) (d : Option Nat) (v : AV) : List AV := match d with
  | some d => lset ts d v
  | none => ts

theorem lset_length (v : AV) : ∀ (ts : List AV) (d : Nat), (lset ts d v).length = ts.length
  | [], _ => rfl
  | _ :: _, 0 => rfl
  | _ :: xs, n + 1 => by simp [lset, lset_length v xs n]
theorem putO_length (v : AV) (ts : List AV) (d : Option Nat) : (putO ts d v).length = ts.length := by
  cases d with
  | none => rfl
  | some d => exact lset_length v ts d
theorem lnth_lset (v : AV) : ∀ (ts : List AV) (d t : Nat), lnth (lset ts d v) t = if d = t ∧ t < ts.length then v else lnth ts t
  | [], d, t => by simp [lset]
  | x :: xs, 0, 0 => by simp [lset, lnth]
  | x :: xs, 0, t + 1 => by simp [lset, lnth]
  | x :: xs, d + 1, 0 => by simp [lset, lnth]
  | x :: xs, d + 1, t + 1 => by simp [lset, lnth, lnth_lset v xs d t]
theorem lnth_ge : ∀ (ts : List AV) (t : Nat), ts.length ≤ t → lnth ts t = .top
  | [], _, _ => rfl
  | _ :: xs, t + 1, h => lnth_ge xs t (by simpa using h)
theorem lset_same : ∀ (ts : List AV) (d : Nat), lset ts d (lnth ts d) = ts
  | [], _ => rfl
  | _ :: _, 0 => rfl
  | x :: xs, n + 1 => by simp [lset, lnth, lset_same xs n]

def ofConst : Value → AV
  | .bool b => .b (.cv (.bool b))
  | .int k n => if k.min ≤ n ∧ n ≤ k.max then .b (.cv (.int k n)) else .b (.cv (.v (.int k n)))
  | x => .b (.cv (.v x))

def opv (ts : List AV) : Operand → AV
  | .tmp t => lnth ts t
  | .const v => ofConst v
  | .global g => .b (.cv (.v (.pointer (some ⟨g, 0, none⟩))))
  | .func f => .b (.cv (.fn f [] []))

theorem ofConst_rel (g : GM) (v : Value) : (ofConst v).rel g v := by
  cases v <;> first | rfl | skip
  rename_i k n
  simp only [ofConst]
  split
  · rename_i h; exact ⟨rfl, h⟩
  · rfl

def tsR (g : GM) (ts : List AV) (tm : Array Value) : Prop := ts.length ≤ tm.size ∧ ∀ t, (lnth ts t).rel g (tm.getD t undef)

theorem opv_rel {g : GM} {ts : List AV} {a : Act} (h : tsR g ts a.tmps) (x : Operand) : (opv ts x).rel g (a.eval x) := by
  cases x with
  | tmp t => exact h.2 t
  | const v => exact ofConst_rel g v
  | global n => rfl
  | func f => exact ⟨trivial, #[], rfl, rfl⟩

theorem tsR_put {g : GM} {ts : List AV} {a : Act} (h : tsR g ts a.tmps) (d : Option Nat) {v : AV} {y : Value} (hv : v.rel g y) : tsR g (putO ts d v) (a.put d y).tmps := by
  cases d with
  | none => exact h
  | some d =>
    refine ⟨by simpa [putO, lset_length, Act.put] using h.1, fun t => ?_⟩
    simp only [putO, lnth_lset, Act.put, Array.getD_eq_getD_getElem?, Array.getElem?_setIfInBounds]
    by_cases e : d = t
    · subst e
      by_cases hl : d < ts.length
      · have : d < a.tmps.size := Nat.lt_of_lt_of_le hl h.1
        simp [hl, this, hv]
      · simp [hl, lnth_ge ts d (by omega)]
        exact AV.top_rel _ _
    · simp [e]
      simpa [Array.getD_eq_getD_getElem?] using h.2 t

theorem tsR_mono {g g' : GM} (hg : GM.le g g') {ts : List AV} {tm : Array Value} (h : tsR g ts tm) : tsR g' ts tm := ⟨h.1, fun t => AV.rel_mono hg (h.2 t)⟩

/-- What an operation makes: new blocks, and blocks that are written. -/
structure Eff where
  news : List Blk
  wrs : List (Nat × List Ch)
def noEff : Eff := ⟨[], []⟩

def wrFind : List (Nat × List Ch) → Nat → Option (List Ch)
  | [], _ => none
  | (l, c) :: r, i => match Nat.beq l i with
    | true => some c
    | false => wrFind r i
def wrAll (wrs : List (Nat × List Ch)) : Nat → List Blk → List Blk
  | _, [] => []
  | i, k :: ks => (match wrFind wrs i with
    | some c => (c, k.2)
    | none => k) :: wrAll wrs (i + 1) ks
def applyEff (mem : List Blk) (e : Eff) : List Blk := wrAll e.wrs 0 mem ++ e.news

theorem wrAll_length (wrs : List (Nat × List Ch)) : ∀ (ks : List Blk) (i : Nat), (wrAll wrs i ks).length = ks.length
  | [], _ => rfl
  | _ :: ks, i => by simp [wrAll, wrAll_length wrs ks]
theorem wrAll_get (wrs : List (Nat × List Ch)) : ∀ (ks : List Blk) (i l : Nat), (wrAll wrs i ks)[l]? = (ks[l]?).map fun k => match wrFind wrs (i + l) with
    | some c => (c, k.2)
    | none => k
  | [], _, _ => by simp [wrAll]
  | k :: ks, i, 0 => by simp [wrAll]
  | k :: ks, i, l + 1 => by
    simp only [wrAll, List.getElem?_cons_succ]
    rw [wrAll_get wrs ks (i + 1) l, show i + 1 + l = i + (l + 1) by omega]
theorem wrFind_mem : ∀ (wrs : List (Nat × List Ch)) (l : Nat) (c : List Ch), wrFind wrs l = some c → (l, c) ∈ wrs
  | (l', c') :: r, l, c, h => by
    simp only [wrFind] at h
    split at h
    · rename_i hb
      injection h with h; subst h
      rw [Nat.eq_of_beq_eq_true hb]; simp
    · exact List.mem_cons_of_mem _ (wrFind_mem r l c h)
theorem wrFind_none : ∀ (wrs : List (Nat × List Ch)) (l : Nat), wrFind wrs l = none → ∀ c, (l, c) ∉ wrs
  | [], _, _, _, hm => by cases hm
  | (l', c') :: r, l, h, c, hm => by
    simp only [wrFind] at h
    split at h
    · cases h
    · rename_i hb
      rcases List.mem_cons.1 hm with e | e
      · injection e with e1 _
        subst e1
        have := Nat.beq_refl l
        rw [this] at hb; cases hb
      · exact wrFind_none r l h c e

/-- What the world behind an operation is to the world ahead of it. -/
structure Post (S : Nat → Prop) (w0 : World) (mem : List Blk) (e : Eff) (g g' : GM) (w w' : World) : Prop where
  le : GM.le g g'
  gw : GW g' S w0 w'
  dom : ∀ l, g' l ≠ none → g l = none → mem.length ≤ l ∧ l < mem.length + e.news.length
  size : w.heap.size ≤ w'.heap.size
  keep : ∀ b, b < w.heap.size → (∀ l c b', (l, c) ∈ e.wrs → g l = some b' → b'.b ≠ b) → w'.heap[b]? = w.heap[b]?
  new : ∀ i k, e.news[i]? = some k → ∀ b, g' (mem.length + i) = some b → BlkRel S w0 g' w' b k
  wr : ∀ l c, wrFind e.wrs l = some c → ∀ b k, g l = some b → mem[l]? = some k → BlkRel S w0 g' w' b (c, k.2)
  wl : ∀ l c, (l, c) ∈ e.wrs → ∃ k, mem[l]? = some k ∧ live k
  nw : ∀ i b, g' (mem.length + i) = some b → g (mem.length + i) = none → w.heap.size ≤ b.b ∨ ∃ l b', wrFind e.wrs l = some [] ∧ g l = some b' ∧ b'.b = b.b
  nn : ∀ i j b b', g (mem.length + i) = none → g (mem.length + j) = none → g' (mem.length + i) = some b → g' (mem.length + j) = some b' → b.b = b'.b → i = j

/-- Of these names no two stand for one block that may be written. -/
def InjOn (g : GM) (mem : List Blk) (rd : List Nat) : Prop :=
  ∀ l ∈ rd, ∀ l' ∈ rd, ∀ b b' k k', g l = some b → g l' = some b' → b.b = b'.b → mem[l]? = some k → mem[l']? = some k' → live k → live k' → l = l'

def Exec (P : Program) (S : Nat → Prop) (w0 : World) (o : Oper) (ts : List AV) (mem : List Blk) (rd : List Nat) (av : AV) (e : Eff) : Prop :=
  ∀ (g : GM) (a : Act) (w : World), (∀ x ∈ o.op.operands, (opv ts x).rel g (a.eval x)) →
    (∀ l ∈ rd, ∀ b k, g l = some b → mem[l]? = some k → BlkRel S w0 g w b k) → GW g S w0 w → (∀ i, i < e.news.length → g (mem.length + i) = none) → InjOn g mem rd →
    ∀ (next : Act → World → Prop) (Q : Exit → Act → World → Prop), (∀ v w' g', av.rel g' v → Post S w0 mem e g g' w w' → next (a.put o.dst v) w') → o.wp P a w next Q

structure Ent where
  dst : Option Nat
  av : AV
  eff : Eff
  base : Nat
  rd : List Nat

def wantA (all : List Oper) (ts : List AV) (o : Oper) : Option Bool :=
  match o.guard with
  | none => some true
  | some (j, w) => match (all[j]?).bind (·.dst) with
    | some d => match lnth ts d with
      | .b (.cv (.bool b)) => some (b == w)
      | _ => none
    | none => none

theorem wantA_ok {all : List Oper} {ts : List AV} {o : Oper} {g : GM} {tm : Array Value} {r : Bool} (h : wantA all ts o = some r)
    (hs : ∀ j w d, o.guard = some (j, w) → (all[j]?).bind (·.dst) = some d → (lnth ts d).rel g (tm.getD d undef)) : Region.wanted o (yielded all.toArray tm) = r := by
  unfold wantA at h
  unfold Region.wanted
  cases hg : o.guard with
  | none => simp [hg] at h ⊢; exact h
  | some p =>
    obtain ⟨j, w⟩ := p
    simp only [hg] at h ⊢
    cases hd : (all[j]?).bind (·.dst) with
    | none => simp [hd] at h
    | some d =>
      simp only [hd] at h
      have h1 := hs j w d hg hd
      split at h
      · rename_i b hb
        rw [hb] at h1
        have h2 : tm.getD d undef = .bool b := h1
        injection h with h
        have hd' : (all.toArray[j]?).bind (·.dst) = some d := by simpa using hd
        have h3 : tm[d]? = some (.bool b) := by
          rw [Array.getD_eq_getD_getElem?] at h2
          cases h4 : tm[d]? with
          | none => rw [h4] at h2; cases h2
          | some y => rw [h4] at h2; rw [show y = .bool b from h2]
        simp only [yielded, hd', Option.bind_some, h3]
        rw [← h]
        cases b <;> cases w <;> rfl
      · cases h

inductive Tr (P : Program) (S : Nat → Prop) (w0 : World) (all : List Oper) : List Oper → List AV → List Blk → List Ent → List AV → List Blk → Prop
  | nil (ts : List AV) (mem : List Blk) : Tr P S w0 all [] ts mem [] ts mem
  | skip (o : Oper) (os : List Oper) (ts : List AV) (mem : List Blk) (es : List Ent) (ts' : List AV) (mem' : List Blk) : wantA all ts o = some false →
      Tr P S w0 all os (putO ts o.dst .top) mem es ts' mem' → Tr P S w0 all (o :: os) ts mem (⟨o.dst, .top, noEff, mem.length, []⟩ :: es) ts' mem'
  | exec (o : Oper) (os : List Oper) (ts : List AV) (mem : List Blk) (rd : List Nat) (av : AV) (e : Eff) (es : List Ent) (ts' : List AV) (mem' : List Blk) : wantA all ts o = some true →
      Exec P S w0 o ts mem rd av e → Tr P S w0 all os (putO ts o.dst av) (applyEff mem e) es ts' mem' → Tr P S w0 all (o :: os) ts mem (⟨o.dst, av, e, mem.length, rd⟩ :: es) ts' mem'

/-- A state of the evaluator stands for a frame and a world. -/
structure R (S : Nat → Prop) (w0 : World) (g : GM) (ts : List AV) (mem : List Blk) (a : Act) (w : World) : Prop where
  ts : tsR g ts a.tmps
  defers : a.defers = []
  ms : ∀ l b k, g l = some b → mem[l]? = some k → BlkRel S w0 g w b k
  gw : GW g S w0 w
  dom : ∀ l, g l ≠ none → l < mem.length
  inj : ∀ l l' b b' k k', g l = some b → g l' = some b' → b.b = b'.b → mem[l]? = some k → mem[l']? = some k' → live k → live k' → l = l'

theorem Act.put_defers' (a : Act) (d : Option Nat) (v : Value) : (a.put d v).defers = a.defers := by cases d <;> rfl

/-- What is behind an operation: a name is a new one, or it was there, and its block was written, or not. -/
theorem effGet {mem : List Blk} {e : Eff} {l : Nat} {k : Blk} (hk : (applyEff mem e)[l]? = some k) :
    (mem.length ≤ l ∧ e.news[l - mem.length]? = some k) ∨ (∃ k0, mem[l]? = some k0 ∧ ((∃ c, wrFind e.wrs l = some c ∧ k = (c, k0.2)) ∨ (wrFind e.wrs l = none ∧ k = k0))) := by
  unfold applyEff at hk
  rw [List.getElem?_append] at hk
  split at hk
  · rename_i hlt
    rw [wrAll_length] at hlt
    right
    rw [wrAll_get] at hk
    obtain ⟨k0, hk0⟩ : ∃ k0, mem[l]? = some k0 := ⟨mem[l], List.getElem?_eq_getElem hlt⟩
    refine ⟨k0, hk0, ?_⟩
    simp only [hk0, Option.map_some, Option.some.injEq, Nat.zero_add] at hk
    split at hk
    · rename_i c hc
      exact .inl ⟨c, hc, hk.symm⟩
    · rename_i hc
      exact .inr ⟨hc, hk.symm⟩
  · rename_i hge
    rw [wrAll_length] at hk hge
    exact .inl ⟨by omega, hk⟩

theorem R.step {S : Nat → Prop} {w0 : World} {g g' : GM} {ts : List AV} {mem : List Blk} {a : Act} {w w' : World} (h : R S w0 g ts mem a w) {e : Eff} {d : Option Nat} {v : Value} {av : AV}
    (hv : av.rel g' v) (hp : Post S w0 mem e g g' w w') (hf : ∀ i, i < e.news.length → g (mem.length + i) = none) : R S w0 g' (putO ts d av) (applyEff mem e) (a.put d v) w' := by
  have old : ∀ l b k0, g' l = some b → mem[l]? = some k0 → g l = some b := by
    intro l b k0 hl hk
    have hlt := (List.getElem?_eq_some_iff.1 hk).1
    cases hg : g l with
    | some b' => exact (hp.le l b' hg).symm.trans hl ▸ rfl
    | none => have := hp.dom l (by rw [hl]; simp) hg; omega
  have fresh : ∀ l k, mem.length ≤ l → e.news[l - mem.length]? = some k → g l = none := by
    intro l k hle hk
    have := hf (l - mem.length) (List.getElem?_eq_some_iff.1 hk).1
    rwa [show mem.length + (l - mem.length) = l by omega] at this
  have wasLive : ∀ l k k0, mem[l]? = some k0 → ((∃ c, wrFind e.wrs l = some c ∧ k = (c, k0.2)) ∨ (wrFind e.wrs l = none ∧ k = k0)) → live k → live k0 := by
    intro l k k0 hk0 hor hlive
    rcases hor with ⟨c, hc, rfl⟩ | ⟨_, rfl⟩
    · obtain ⟨k1, h1, h2⟩ := hp.wl l c (wrFind_mem _ _ _ hc)
      rw [hk0] at h1; injection h1 with h1; subst h1; exact h2
    · exact hlive
  refine ⟨tsR_put (tsR_mono hp.le h.ts) d hv, by rw [Act.put_defers']; exact h.defers, ?_, hp.gw, ?_, ?_⟩
  · intro l b k hl hk
    rcases effGet hk with ⟨hge, hn⟩ | ⟨k0, hk0, hor⟩
    · exact hp.new (l - mem.length) k hn b (by rw [show mem.length + (l - mem.length) = l by omega]; exact hl)
    · have hgl := old l b k0 hl hk0
      rcases hor with ⟨c, hc, rfl⟩ | ⟨hc, rfl⟩
      · exact hp.wr l c hc b k0 hgl hk0
      · have hb0 := h.ms l b k hgl hk0
        refine hb0.mono hp.le fun hne => hp.keep b.b (h.gw.own l b hgl) fun l' c' b' hm e' hbb => ?_
        obtain ⟨k', h1, h2⟩ := hp.wl l' c' hm
        have hb1 := h.ms l' b' k' e' h1
        have hl2 : live k := ⟨hne, (by cases hx : isExt k.2 with
          | false => rfl
          | true => have := hb1.1.2 (by rw [hbb]; exact hb0.1.1 hx); rw [h2.2] at this; cases this)⟩
        have := h.inj l l' b b' k k' hgl e' hbb.symm hk0 h1 hl2 h2
        subst this
        exact wrFind_none _ _ hc c' hm
  · intro l hl
    unfold applyEff
    rw [List.length_append, wrAll_length]
    cases hg : g l with
    | some b => have := h.dom l (by rw [hg]; simp); omega
    | none => have := hp.dom l hl hg; omega
  · -- names apart
    have mixed : ∀ l l' b b' k k', g' l = some b → g' l' = some b' → b.b = b'.b → mem.length ≤ l → e.news[l - mem.length]? = some k → (∃ k0, mem[l']? = some k0 ∧ ((∃ c, wrFind e.wrs l' = some c ∧ k' = (c, k0.2)) ∨ (wrFind e.wrs l' = none ∧ k' = k0))) → live k' → False := by
      intro l l' b b' k k' hl hl' hbb hge hn ⟨k0, hk0, hor⟩ hlive
      have hgl := old l' b' k0 hl' hk0
      have hgn := fresh l k hge hn
      have hli := wasLive l' k' k0 hk0 hor hlive
      rcases hp.nw (l - mem.length) b (by rw [show mem.length + (l - mem.length) = l by omega]; exact hl) (by rw [show mem.length + (l - mem.length) = l by omega]; exact hgn) with hq | ⟨l2, b2, hw2, hg2, hb2⟩
      · have := h.gw.own l' b' hgl; omega
      · obtain ⟨k2, q1, q2⟩ := hp.wl l2 [] (wrFind_mem _ _ _ hw2)
        have := h.inj l' l2 b' b2 k0 k2 hgl hg2 (by omega) hk0 q1 hli q2
        subst this
        rcases hor with ⟨c, hc, rfl⟩ | ⟨hc, rfl⟩
        · rw [hw2] at hc; injection hc with hc; subst hc; exact hlive.1 rfl
        · rw [hw2] at hc; cases hc
    intro l l' b b' k k' hl hl' hbb hk hk' h1 h2
    rcases effGet hk with ⟨hge, hn⟩ | hold
    · rcases effGet hk' with ⟨hge', hn'⟩ | hold'
      · have e1 := fresh l k hge hn
        have e2 := fresh l' k' hge' hn'
        have := hp.nn (l - mem.length) (l' - mem.length) b b' (by rw [show mem.length + (l - mem.length) = l by omega]; exact e1) (by rw [show mem.length + (l' - mem.length) = l' by omega]; exact e2)
          (by rw [show mem.length + (l - mem.length) = l by omega]; exact hl) (by rw [show mem.length + (l' - mem.length) = l' by omega]; exact hl') hbb
        omega
      · exact (mixed l l' b b' k k' hl hl' hbb hge hn hold' h2).elim
    · rcases effGet hk' with ⟨hge', hn'⟩ | hold'
      · exact (mixed l' l b' b k' k hl' hl hbb.symm hge' hn' hold h1).elim
      · obtain ⟨k0, hk0, hor⟩ := hold
        obtain ⟨k0', hk0', hor'⟩ := hold'
        exact h.inj l l' b b' k0 k0' (old l b k0 hl hk0) (old l' b' k0' hl' hk0') hbb hk0 hk0' (wasLive l k k0 hk0 hor h1) (wasLive l' k' k0' hk0' hor' h2)

theorem R.fresh {S : Nat → Prop} {w0 : World} {g : GM} {ts : List AV} {mem : List Blk} {a : Act} {w : World} (h : R S w0 g ts mem a w) (i : Nat) : g (mem.length + i) = none := by
  cases hg : g (mem.length + i) with
  | none => rfl
  | some b => have := h.dom _ (by rw [hg]; simp); omega

end Go.Ev
namespace Go.Ev
open Go

theorem Act.put_undef_rel {g : GM} {ts : List AV} {mem : List Blk} {a : Act} {w : World} {S : Nat → Prop} {w0 : World} (h : R S w0 g ts mem a w) (d : Option Nat) (v : Value) :
    R S w0 g (putO ts d .top) mem (a.put d v) w :=
  ⟨tsR_put h.ts d (AV.top_rel g v), by rw [Act.put_defers']; exact h.defers, h.ms, h.gw, h.dom, h.inj⟩

theorem wantA_R {S : Nat → Prop} {w0 : World} {all : List Oper} {ts : List AV} {mem : List Blk} {o : Oper} {g : GM} {a : Act} {w : World} {r : Bool} (h : wantA all ts o = some r) (hr : R S w0 g ts mem a w) :
    Region.wanted o (yielded all.toArray a.tmps) = r := wantA_ok h fun _ _ d _ _ => hr.ts.2 d

theorem seq_ok {P : Program} {S : Nat → Prop} {w0 : World} {all : List Oper} {Q : Exit → Act → World → Prop} : ∀ {os : List Oper} {ts : List AV} {mem : List Blk} {es : List Ent} {ts' : List AV} {mem' : List Blk},
    Tr P S w0 all os ts mem es ts' mem' → ∀ (g : GM) (a : Act) (w : World), R S w0 g ts mem a w →
    (∀ g' a' w', GM.le g g' → R S w0 g' ts' mem' a' w' → Q .normal a' w') → wpList P all.toArray Q os a w := by
  intro os ts mem es ts' mem' h
  induction h with
  | nil ts mem => intro g a w hr hq; exact hq g a w (GM.le_refl g) hr
  | skip o os ts mem es ts' mem' hw _ ih =>
    intro g a w hr hq
    unfold wpList
    rw [wantA_R hw hr]
    simp only [Bool.false_eq_true, if_false]
    exact ih g _ w (Act.put_undef_rel hr o.dst undef) hq
  | exec o os ts mem rd av e es ts' mem' hw hx _ ih =>
    intro g a w hr hq
    unfold wpList
    rw [wantA_R hw hr]
    simp only [if_true]
    refine .inl (hx g a w (fun x _ => opv_rel hr.ts x) (fun l _ b k h1 h2 => hr.ms l b k h1 h2) hr.gw (fun i _ => hr.fresh i) (fun l _ l' _ b b' k k' h1 h2 h3 h4 h5 h6 h7 => hr.inj l l' b b' k k' h1 h2 h3 h4 h5 h6 h7) _ _ fun v w' g' hv hp => ?_)
    exact ih g' _ w' (hr.step hv hp fun i _ => hr.fresh i) fun g'' a' w'' hle hr' => hq g'' a' w'' (GM.le_trans hp.le hle) hr'

/-- The entries that D lets, in the order of the text, upon x. -/
def app {α : Type} (upd : Ent → α → α) : List Ent → (Nat → Bool) → α → α
  | [], _, x => x
  | e :: es, D, x => app upd es (fun k => D (k + 1)) (match D 0 with
    | true => upd e x
    | false => x)

theorem app_congr {α : Type} {upd : Ent → α → α} {T : Ent → Prop} (hT : ∀ e, ¬ T e → ∀ x, upd e x = x) : ∀ (es : List Ent) (D D' : Nat → Bool) (x : α),
    (∀ k e, es[k]? = some e → T e → D k = D' k) → app upd es D x = app upd es D' x
  | [], _, _, _, _ => rfl
  | e :: es, D, D', x, h => by
    simp only [app]
    have h1 : (match D 0 with | true => upd e x | false => x) = (match D' 0 with | true => upd e x | false => x) := by
      by_cases ht : T e
      · rw [h 0 e rfl ht]
      · rw [hT e ht x]; cases D 0 <;> cases D' 0 <;> rfl
    rw [h1]
    exact app_congr hT es _ _ _ fun k e' hk ht => h (k + 1) e' (by simpa using hk) ht

theorem app_none {α : Type} {upd : Ent → α → α} : ∀ (es : List Ent) (D : Nat → Bool) (x : α), (∀ k, D k = false) → app upd es D x = x
  | [], _, _, _ => rfl
  | e :: es, D, x, h => by simp only [app, h 0]; exact app_none es _ x fun k => h (k + 1)

theorem app_insert {α : Type} {upd : Ent → α → α} {T : Ent → Prop} (hT : ∀ e, ¬ T e → ∀ x, upd e x = x) : ∀ (es : List Ent) (i : Nat) (e : Ent) (D : Nat → Bool) (x : α), es[i]? = some e → D i = false →
    (∀ k e', i < k → es[k]? = some e' → T e' → D k = false) → app upd es (fun k => D k || Nat.beq k i) x = upd e (app upd es D x)
  | e0 :: es, 0, e, D, x, he, hD, hk => by
    simp only [List.getElem?_cons_zero, Option.some.injEq] at he
    subst he
    simp only [app, hD, Nat.beq, Bool.or_true, Bool.or_false]
    have h1 : ∀ y : α, app upd es (fun k => D (k + 1)) y = y := fun y => by
      rw [app_congr hT es _ (fun _ => false) y fun k e' hk' ht => hk (k + 1) e' (by omega) (by simpa using hk') ht]
      exact app_none es _ y fun _ => rfl
    rw [h1, h1]
  | e0 :: es, i + 1, e, D, x, he, hD, hk => by
    simp only [List.getElem?_cons_succ] at he
    simp only [app, Nat.beq, Bool.or_false]
    exact app_insert hT es i e (fun k => D (k + 1)) _ he hD fun k e' hik hk' ht => hk (k + 1) e' (by omega) (by simpa using hk') ht

theorem app_succ {α : Type} {upd : Ent → α → α} (es : List Ent) (i : Nat) (e : Ent) (x : α) (he : es[i]? = some e) :
    app upd es (fun k => decide (k < i + 1)) x = upd e (app upd es (fun k => decide (k < i)) x) := by
  rw [← app_insert (upd := upd) (T := fun _ => True) (fun _ h => (h trivial).elim) es i e (fun k => decide (k < i)) x he (by simp) (fun k e' h _ _ => by simp; omega)]
  congr 1
  funext k
  rw [Bool.eq_iff_iff]
  simp only [decide_eq_true_eq, Bool.or_eq_true, Nat.beq_eq]
  omega

def updS (n t : Nat) (e : Ent) (x : AV) : AV := if e.dst = some t ∧ t < n then e.av else x
def updM (l : Nat) (e : Ent) (x : Option Blk) : Option Blk :=
  if e.base ≤ l ∧ l < e.base + e.eff.news.length then e.eff.news[l - e.base]?
  else match wrFind e.eff.wrs l with
    | some c => x.map fun k => (c, k.2)
    | none => x

theorem putO_get {ts : List AV} {d : Option Nat} {v : AV} (t : Nat) : lnth (putO ts d v) t = if d = some t ∧ t < ts.length then v else lnth ts t := by
  cases d with
  | none => simp [putO]
  | some d => simp [putO, lnth_lset]

theorem applyEff_get {mem : List Blk} {e : Eff} (hw : ∀ l c, (l, c) ∈ e.wrs → l < mem.length) (dst : Option Nat) (av : AV) (rd : List Nat) (l : Nat) : (applyEff mem e)[l]? = updM l ⟨dst, av, e, mem.length, rd⟩ (mem[l]?) := by
  unfold applyEff updM
  simp only
  rw [List.getElem?_append, wrAll_length]
  by_cases h : l < mem.length
  · rw [if_pos h, if_neg (by omega), wrAll_get]
    simp only [Nat.zero_add]
    cases wrFind e.wrs l with
    | none => simp
    | some c => simp
  · rw [if_neg h]
    by_cases h2 : l < mem.length + e.news.length
    · rw [if_pos ⟨by omega, h2⟩]
    · rw [if_neg (by omega), List.getElem?_eq_none (by omega)]
      have : wrFind e.wrs l = none := by
        cases hf : wrFind e.wrs l with
        | none => rfl
        | some c => exact absurd (hw l c (wrFind_mem _ _ _ hf)) h
      rw [this]
      simp [List.getElem?_eq_none (show mem.length ≤ l by omega)]

/-- What the trace says of operation i. -/
structure At (P : Program) (S : Nat → Prop) (w0 : World) (all : List Oper) (o : Oper) (e : Ent) (ts : List AV) (mem : List Blk) : Prop where
  dst : e.dst = o.dst
  base : e.base = mem.length
  rule : (wantA all ts o = some false ∧ e.av = .top ∧ e.eff = noEff) ∨ (wantA all ts o = some true ∧ Exec P S w0 o ts mem e.rd e.av e.eff)

theorem Tr.length {P : Program} {S : Nat → Prop} {w0 : World} {all os : List Oper} {ts ts' : List AV} {mem mem' : List Blk} {es : List Ent} (h : Tr P S w0 all os ts mem es ts' mem') : es.length = os.length := by
  induction h with
  | nil => rfl
  | skip _ _ _ _ _ _ _ _ _ ih => simp [ih]
  | exec _ _ _ _ _ _ _ _ _ _ _ _ _ ih => simp [ih]

theorem Tr.at_ {P : Program} {S : Nat → Prop} {w0 : World} {all os : List Oper} {ts ts' : List AV} {mem mem' : List Blk} {es : List Ent} (h : Tr P S w0 all os ts mem es ts' mem') :
    (∀ e ∈ es, ∀ l c, (l, c) ∈ e.eff.wrs → l < e.base) →
    (∀ e ∈ es, mem.length ≤ e.base) ∧
    (∀ (i j : Nat) (e e' : Ent), es[i]? = some e → es[j]? = some e' → i < j → e.base + e.eff.news.length ≤ e'.base) ∧
    (∀ t, lnth ts' t = app (updS ts.length t) es (fun _ => true) (lnth ts t)) ∧
    (∀ l, mem'[l]? = app (updM l) es (fun _ => true) (mem[l]?)) ∧
    ∀ i o, os[i]? = some o → ∃ e tsi memi, es[i]? = some e ∧ At P S w0 all o e tsi memi ∧ (∀ t, lnth tsi t = app (updS ts.length t) es (fun k => decide (k < i)) (lnth ts t)) ∧
      (∀ l, memi[l]? = app (updM l) es (fun k => decide (k < i)) (mem[l]?)) := by
  induction h with
  | nil ts mem => intro _; exact ⟨by simp, by simp, fun _ => rfl, fun _ => rfl, by simp⟩
  | skip o os ts mem es ts' mem' hw _ ih =>
    intro hb
    obtain ⟨h1, h2, h3, h4, h5⟩ := ih fun e he => hb e (List.mem_cons_of_mem _ he)
    have hlen := putO_length .top ts o.dst
    have hs : ∀ t, lnth (putO ts o.dst .top) t = updS ts.length t ⟨o.dst, .top, noEff, mem.length, []⟩ (lnth ts t) := fun t => putO_get t
    have hm : ∀ l, mem[l]? = updM l ⟨o.dst, .top, noEff, mem.length, []⟩ (mem[l]?) := fun l => by unfold updM noEff; simp [wrFind]; omega
    refine ⟨?_, ?_, ?_, ?_, ?_⟩
    · intro e he
      rcases List.mem_cons.1 he with rfl | he
      · exact Nat.le_refl _
      · exact h1 e he
    · intro i j e e' hi hj hij
      cases j with
      | zero => omega
      | succ j =>
        simp only [List.getElem?_cons_succ] at hj
        cases i with
        | zero => simp only [List.getElem?_cons_zero, Option.some.injEq] at hi; subst hi; exact h1 e' (List.mem_of_getElem? hj)
        | succ i => exact h2 i j e e' (by simpa using hi) hj (by omega)
    · intro t; rw [h3 t, hlen, hs t]; rfl
    · intro l; rw [h4 l]; show _ = app _ es _ (updM l _ (mem[l]?)); rw [← hm l]
    · intro i o' hi
      cases i with
      | zero =>
        simp only [List.getElem?_cons_zero, Option.some.injEq] at hi; subst hi
        exact ⟨_, ts, mem, rfl, ⟨rfl, rfl, .inl ⟨hw, rfl, rfl⟩⟩, fun t => (app_none _ _ _ fun k => by simp).symm, fun l => (app_none _ _ _ fun k => by simp).symm⟩
      | succ i =>
        obtain ⟨e, tsi, memi, q1, q2, q3, q4⟩ := h5 i o' (by simpa using hi)
        refine ⟨e, tsi, memi, by simpa using q1, q2, fun t => ?_, fun l => ?_⟩
        · rw [q3 t, hlen, hs t]; simp [app]
        · rw [q4 l]; simp only [app, Nat.zero_lt_succ, decide_true, Nat.succ_lt_succ_iff]; rw [← hm l]
  | exec o os ts mem rd av e es ts' mem' hw hx _ ih =>
    intro hb
    obtain ⟨h1, h2, h3, h4, h5⟩ := ih fun e he => hb e (List.mem_cons_of_mem _ he)
    have hlen := putO_length av ts o.dst
    have hs : ∀ t, lnth (putO ts o.dst av) t = updS ts.length t ⟨o.dst, av, e, mem.length, rd⟩ (lnth ts t) := fun t => putO_get t
    have hm : ∀ l, (applyEff mem e)[l]? = updM l ⟨o.dst, av, e, mem.length, rd⟩ (mem[l]?) := fun l => applyEff_get (hb _ (List.mem_cons_self ..)) _ _ _ l
    have hml : (applyEff mem e).length = mem.length + e.news.length := by unfold applyEff; rw [List.length_append, wrAll_length]
    refine ⟨?_, ?_, ?_, ?_, ?_⟩
    · intro e he
      rcases List.mem_cons.1 he with rfl | he
      · exact Nat.le_refl _
      · have := h1 e he; omega
    · intro i j e1 e' hi hj hij
      cases j with
      | zero => omega
      | succ j =>
        simp only [List.getElem?_cons_succ] at hj
        cases i with
        | zero => simp only [List.getElem?_cons_zero, Option.some.injEq] at hi; subst hi; have := h1 e' (List.mem_of_getElem? hj); simp only; omega
        | succ i => exact h2 i j e1 e' (by simpa using hi) hj (by omega)
    · intro t; rw [h3 t, hlen, hs t]; rfl
    · intro l; rw [h4 l, hm l]; rfl
    · intro i o' hi
      cases i with
      | zero =>
        simp only [List.getElem?_cons_zero, Option.some.injEq] at hi; subst hi
        exact ⟨_, ts, mem, rfl, ⟨rfl, rfl, .inr ⟨hw, hx⟩⟩, fun t => (app_none _ _ _ fun k => by simp).symm, fun l => (app_none _ _ _ fun k => by simp).symm⟩
      | succ i =>
        obtain ⟨e1, tsi, memi, q1, q2, q3, q4⟩ := h5 i o' (by simpa using hi)
        refine ⟨e1, tsi, memi, by simpa using q1, q2, fun t => ?_, fun l => ?_⟩
        · rw [q3 t, hlen, hs t]; simp [app]
        · rw [q4 l, hm l]; simp [app]

end Go.Ev
namespace Go.Ev
open Go

def maskOf (acc : List Nat) (o : Oper) : Nat := o.after.toList.foldl (fun s e => if Region.binds .any e then s ||| (2 ^ e.on ||| acc.getD e.on 0) else s) 0
def masks : List Oper → List Nat → List Nat
  | [], acc => acc
  | o :: os, acc => masks os (acc ++ [maskOf acc o])

/-- What of memory an operation looks at and writes, and which new blocks are its. -/
structure FP where
  rd : List Nat
  wr : List Nat
  base : Nat
  len : Nat

def fpOf (e : Ent) : FP := ⟨e.rd, e.eff.wrs.map (·.1), e.base, e.eff.news.length⟩

def okSlots (all : List Oper) : Bool :=
  let ms := masks all []
  (List.range all.length).all fun j => match all[j]? with
    | some b => (b.after.toList.all fun e => !Region.binds .any e || Nat.blt e.on j) && (List.range j).all fun i => match all[i]? with
      | some a => a.apart all.toArray b || (ms.getD j 0).testBit i
      | none => true
    | none => true

def disj (x y : List Nat) : Bool := x.all fun l => !y.contains l
def okMem (all : List Oper) (fps : List FP) : Bool :=
  let ms := masks all []
  (List.range fps.length).all fun j => match fps[j]? with
    | some b => (b.wr.all fun l => b.rd.contains l && Nat.blt l b.base) && (List.range j).all fun i => match fps[i]? with
      | some a => (disj a.wr b.rd && disj b.wr a.rd && b.wr.all fun l => Nat.blt l a.base || Nat.ble (a.base + a.len) l) || (ms.getD j 0).testBit i
      | none => true
    | none => true

theorem maskOf_bit (acc : List Nat) (o : Oper) (i : Nat) (h : (maskOf acc o).testBit i = true) : ∃ e ∈ o.after, Region.binds .any e = true ∧ (e.on = i ∨ (acc.getD e.on 0).testBit i = true) := by
  unfold maskOf at h
  have key : ∀ (l : List Edge) (s : Nat), (l.foldl (fun s e => if Region.binds .any e then s ||| (2 ^ e.on ||| acc.getD e.on 0) else s) s).testBit i = true →
      s.testBit i = true ∨ ∃ e ∈ l, Region.binds .any e = true ∧ (e.on = i ∨ (acc.getD e.on 0).testBit i = true) := by
    intro l
    induction l with
    | nil => intro s hs; exact .inl hs
    | cons e l ih =>
      intro s hs
      rw [List.foldl_cons] at hs
      rcases ih _ hs with h1 | ⟨e', h1, h2⟩
      · by_cases hb : Region.binds .any e = true
        · rw [if_pos hb, Nat.testBit_or, Nat.testBit_or, Bool.or_eq_true, Bool.or_eq_true] at h1
          rcases h1 with h1 | h1 | h1
          · exact .inl h1
          · refine .inr ⟨e, List.mem_cons_self .., hb, .inl ?_⟩
            rw [Nat.testBit_two_pow] at h1
            simpa using h1
          · exact .inr ⟨e, List.mem_cons_self .., hb, .inr h1⟩
        · rw [if_neg hb] at h1; exact .inl h1
      · exact .inr ⟨e', List.mem_cons_of_mem _ h1, h2⟩
  rcases key _ 0 h with h1 | ⟨e, h1, h2⟩
  · simp at h1
  · exact ⟨e, Array.mem_toList_iff.1 h1, h2⟩

theorem masks_ok (all : List Oper) (D : Nat → Bool) (hD : ∀ j o, all[j]? = some o → D j = true → ∀ e ∈ o.after, Region.binds .any e = true → D e.on = true) :
    ∀ (j : Nat) (o : Oper), all[j]? = some o → (∀ e ∈ o.after, Region.binds .any e = true → D e.on = true) → ∀ i, ((masks all []).getD j 0).testBit i = true → D i = true := by
  have key : ∀ (os : List Oper) (acc : List Nat), (∀ k, os[k]? = all[acc.length + k]?) →
      (∀ j o, all[j]? = some o → (∀ e ∈ o.after, Region.binds .any e = true → D e.on = true) → ∀ i, (acc.getD j 0).testBit i = true → D i = true) →
      ∀ j o, all[j]? = some o → (∀ e ∈ o.after, Region.binds .any e = true → D e.on = true) → ∀ i, ((masks os acc).getD j 0).testBit i = true → D i = true := by
    intro os
    induction os with
    | nil => intro acc _ h; exact h
    | cons o os ih =>
      intro acc hk h
      refine ih (acc ++ [maskOf acc o]) (fun k => ?_) ?_
      · have := hk (k + 1)
        simp only [List.getElem?_cons_succ] at this
        rw [this, List.length_append, List.length_singleton]
        congr 1; omega
      · intro j o' hj he i hi
        by_cases hlt : j < acc.length
        · rw [List.getD_eq_getElem?_getD, List.getElem?_append_left hlt, ← List.getD_eq_getElem?_getD] at hi
          exact h j o' hj he i hi
        · by_cases hje : j = acc.length
          · subst hje
            have h0 := hk 0
            simp only [List.getElem?_cons_zero, Nat.add_zero] at h0
            rw [hj] at h0; injection h0 with h0; subst h0
            rw [List.getD_eq_getElem?_getD, List.getElem?_append_right (Nat.le_refl _)] at hi
            simp only [Nat.sub_self, List.getElem?_cons_zero, Option.getD_some] at hi
            obtain ⟨e, h1, h2, h3⟩ := maskOf_bit acc o i hi
            have hDe := he e h1 h2
            rcases h3 with h3 | h3
            · rw [← h3]; exact hDe
            · cases ho : all[e.on]? with
              | some oe => exact h e.on oe ho (fun e' he' hb' => hD e.on oe ho hDe e' he' hb') i h3
              | none =>
                by_cases hl : e.on < acc.length
                · have h5 := List.getElem?_eq_none_iff.1 ho
                  have h6 : ∃ y, all[acc.length]? = some y := ⟨_, hj⟩
                  obtain ⟨y, h6⟩ := h6
                  have := (List.getElem?_eq_some_iff.1 h6).1
                  omega
                · rw [List.getD_eq_getElem?_getD, List.getElem?_eq_none (by omega)] at h3; simp at h3
          · rw [List.getD_eq_getElem?_getD, List.getElem?_eq_none (by simp; omega)] at hi; simp at hi
  intro j o hj he i hi
  exact key all [] (fun k => by simp) (fun j o _ _ i h => by simp at h) j o hj he i hi

theorem okSlots_edge {all : List Oper} (h : okSlots all = true) {j : Nat} {o : Oper} (ho : all[j]? = some o) : ∀ e ∈ o.after, Region.binds .any e = true → e.on < j := by
  intro e he hb
  have hj := (List.getElem?_eq_some_iff.1 ho).1
  unfold okSlots at h
  have := List.all_eq_true.1 h j (List.mem_range.2 hj)
  simp only [ho, Bool.and_eq_true] at this
  have := List.all_eq_true.1 this.1 e (Array.mem_toList_iff.2 he)
  simp only [hb, Bool.not_true, Bool.false_or] at this
  simpa [Nat.blt_eq] using this

theorem okSlots_pair {all : List Oper} (h : okSlots all = true) {i j : Nat} {a b : Oper} (ha : all[i]? = some a) (hb : all[j]? = some b) (hij : i < j) :
    a.apart all.toArray b = true ∨ ((masks all []).getD j 0).testBit i = true := by
  have hj := (List.getElem?_eq_some_iff.1 hb).1
  unfold okSlots at h
  have := List.all_eq_true.1 h j (List.mem_range.2 hj)
  simp only [hb, Bool.and_eq_true] at this
  have := List.all_eq_true.1 this.2 i (List.mem_range.2 hij)
  simp only [ha, Bool.or_eq_true] at this
  exact this

theorem okMem_own {all : List Oper} {es : List Ent} (h : okMem all (es.map fpOf) = true) {j : Nat} {e : Ent} (he : es[j]? = some e) : ∀ l c, (l, c) ∈ e.eff.wrs → l ∈ e.rd ∧ l < e.base := by
  intro l c hm
  have hj := (List.getElem?_eq_some_iff.1 he).1
  unfold okMem at h
  have := List.all_eq_true.1 h j (List.mem_range.2 (by simpa using hj))
  simp only [List.getElem?_map, he, Option.map_some, Bool.and_eq_true] at this
  have := List.all_eq_true.1 this.1 l (by simp only [fpOf, List.mem_map]; exact ⟨(l, c), hm, rfl⟩)
  simp only [fpOf, Bool.and_eq_true, List.contains_iff_mem, Nat.blt_eq] at this
  exact this

theorem okMem_pair {all : List Oper} {es : List Ent} (h : okMem all (es.map fpOf) = true) {i j : Nat} {a b : Ent} (ha : es[i]? = some a) (hb : es[j]? = some b) (hij : i < j) :
    ((∀ l c, (l, c) ∈ a.eff.wrs → l ∉ b.rd) ∧ (∀ l c, (l, c) ∈ b.eff.wrs → l ∉ a.rd) ∧ (∀ l c, (l, c) ∈ b.eff.wrs → ¬ (a.base ≤ l ∧ l < a.base + a.eff.news.length))) ∨
      ((masks all []).getD j 0).testBit i = true := by
  have hj := (List.getElem?_eq_some_iff.1 hb).1
  unfold okMem at h
  have := List.all_eq_true.1 h j (List.mem_range.2 (by simpa using hj))
  simp only [List.getElem?_map, hb, Option.map_some, Bool.and_eq_true] at this
  have := List.all_eq_true.1 this.2 i (List.mem_range.2 hij)
  simp only [ha, Option.map_some, Bool.or_eq_true, Bool.and_eq_true] at this
  rcases this with ⟨⟨h1, h2⟩, h3⟩ | h1
  · refine .inl ⟨fun l c hm hr => ?_, fun l c hm hr => ?_, fun l c hm hr => ?_⟩
    · have := List.all_eq_true.1 h1 l (by simp only [fpOf, List.mem_map]; exact ⟨(l, c), hm, rfl⟩)
      simp [fpOf, hr] at this
    · have := List.all_eq_true.1 h2 l (by simp only [fpOf, List.mem_map]; exact ⟨(l, c), hm, rfl⟩)
      simp [fpOf, hr] at this
    · have := List.all_eq_true.1 h3 l (by simp only [fpOf, List.mem_map]; exact ⟨(l, c), hm, rfl⟩)
      simp only [fpOf, Bool.or_eq_true, Nat.blt_eq, Nat.ble_eq] at this
      omega
  · exact .inr h1

/-- Some of the operations, D, have come up; the rest has not. -/
structure Inv (S : Nat → Prop) (w0 : World) (es : List Ent) (g0 : GM) (ts0 : List AV) (mem0 : List Blk) (D : Nat → Bool) (g : GM) (a : Act) (w : World) : Prop where
  size : ts0.length ≤ a.tmps.size
  slots : ∀ t, (app (updS ts0.length t) es D (lnth ts0 t)).rel g (a.tmps.getD t undef)
  defers : a.defers = []
  ms : ∀ l b k, g l = some b → app (updM l) es D (mem0[l]?) = some k → BlkRel S w0 g w b k
  dom : ∀ l, g l ≠ none → l < mem0.length ∨ ∃ i e, es[i]? = some e ∧ D i = true ∧ e.base ≤ l ∧ l < e.base + e.eff.news.length
  gw : GW g S w0 w
  le : GM.le g0 g
  inj : ∀ l l' b b' k k', g l = some b → g l' = some b' → b.b = b'.b → app (updM l) es D (mem0[l]?) = some k → app (updM l') es D (mem0[l']?) = some k' → live k → live k' → l = l'

def TS (t : Nat) (e : Ent) : Prop := e.dst = some t
def TM (l : Nat) (e : Ent) : Prop := (e.base ≤ l ∧ l < e.base + e.eff.news.length) ∨ ∃ c, (l, c) ∈ e.eff.wrs
theorem TS_not (n t : Nat) (e : Ent) (h : ¬ TS t e) (x : AV) : updS n t e x = x := by
  unfold updS; rw [if_neg fun h' => h h'.1]
theorem TM_not (l : Nat) (e : Ent) (h : ¬ TM l e) (x : Option Blk) : updM l e x = x := by
  unfold updM
  rw [if_neg fun h' => h (.inl h')]
  cases hf : wrFind e.eff.wrs l with
  | none => rfl
  | some c => exact absurd (.inr ⟨c, wrFind_mem _ _ _ hf⟩) h

theorem inv_step {P : Program} {S : Nat → Prop} {w0 : World} {all : List Oper} {ts ts' : List AV} {mem mem' : List Blk} {es : List Ent} (htr : Tr P S w0 all all ts mem es ts' mem')
    (hS : okSlots all = true) (hM : okMem all (es.map fpOf) = true) {D : Nat → Bool} (hcl : ∀ j o, all[j]? = some o → D j = true → ∀ e ∈ o.after, Region.binds .any e = true → D e.on = true)
    {g0 g : GM} {a : Act} {w : World} (hi : Inv S w0 es g0 ts mem D g a w) {i : Nat} {o : Oper} (ho : all[i]? = some o) (hDi : D i = false)
    (hready : ∀ e ∈ o.after, Region.binds .any e = true → D e.on = true) {Q : Exit → Act → World → Prop} {K : Act → World → Prop}
    (hK : ∀ g' a' w', Inv S w0 es g0 ts mem (fun k => D k || Nat.beq k i) g' a' w' → K a' w') : wpOp P all.toArray Q i K a w := by
  obtain ⟨hb0, hbb, _, _, hat⟩ := htr.at_ fun e he l c hm => by
    obtain ⟨j, hj, hje⟩ := List.getElem_of_mem he
    exact (okMem_own hM (List.getElem?_eq_some_iff.2 ⟨hj, hje⟩) l c hm).2
  obtain ⟨e, tsi, memi, hei, hAt, hts, hmem⟩ := hat i o ho
  have hlen := htr.length
  -- whoever comes ahead of i by the edges has come up
  have before : ∀ k, ((masks all []).getD i 0).testBit k = true → D k = true := masks_ok all D hcl i o ho hready
  -- whoever has come up does not wait for i
  have notafter : ∀ k o', all[k]? = some o' → D k = true → ((masks all []).getD k 0).testBit i = true → False := fun k o' hk hDk hb => by
    have := masks_ok all D hcl k o' hk (fun e he hb => hcl k o' hk hDk e he hb) i hb
    rw [hDi] at this; cases this
  have opOf : ∀ (k : Nat) (e' : Ent), es[k]? = some e' → ∃ o' : Oper, all[k]? = some o' ∧ e'.dst = o'.dst := fun k e' hk => by
    have hlt := (List.getElem?_eq_some_iff.1 hk).1
    have hlt' : k < all.length := by rw [← hlen]; exact hlt
    obtain ⟨e'', _, _, h1, h2, _⟩ := hat k all[k] (List.getElem?_eq_getElem hlt')
    rw [hk] at h1; injection h1 with h1; subst h1
    exact ⟨_, List.getElem?_eq_getElem hlt', h2.dst⟩
  -- the slots that operation i looks at, or writes, are as the order of the text has them
  have slotsame : ∀ t, t ∈ o.looksAt all.toArray ∨ o.dst = some t → ∀ k e', es[k]? = some e' → TS t e' → D k = decide (k < i) := by
    intro t ht k e' hk hT
    obtain ⟨o', ho', hd'⟩ := opOf k e' hk
    have hdst : o'.dst = some t := by rw [← hd']; exact hT
    rcases Nat.lt_trichotomy k i with hlt | heq | hgt
    · rw [decide_eq_true hlt]
      rcases okSlots_pair hS ho' ho hlt with hap | hb
      · obtain ⟨h1, h2, h3⟩ := Oper.apart_spec hap
        rcases ht with ht | ht
        · exact absurd ht (h1 t hdst)
        · exact absurd ht (h2 t hdst)
      · exact before k hb
    · subst heq; rw [hDi]; simp
    · rw [decide_eq_false (by omega)]
      cases hDk : D k with
      | false => rfl
      | true =>
        rcases okSlots_pair hS ho ho' hgt with hap | hb
        · obtain ⟨h1, h2, h3⟩ := Oper.apart_spec hap
          rcases ht with ht | ht
          · exact absurd ht (h3 t hdst)
          · exact absurd hdst (h2 t ht)
        · exact (notafter k o' ho' hDk hb).elim
  have slotrel : ∀ t, t ∈ o.looksAt all.toArray → (lnth tsi t).rel g (a.tmps.getD t undef) := fun t ht => by
    have := hi.slots t
    rw [app_congr (TS_not ts.length t) es D (fun k => decide (k < i)) _ (slotsame t (.inl ht))] at this
    rw [hts t]; exact this
  have hwant : ∀ r, wantA all tsi o = some r → Region.wanted o (yielded all.toArray a.tmps) = r := fun r hr => wantA_ok hr fun j x d hg hd => by
    refine slotrel d ?_
    unfold Oper.looksAt
    simp only [hg, List.mem_append, Option.mem_toList]
    right
    simpa using hd
  -- no operation behind i that has come up writes the slot of i
  have nolater : ∀ t, o.dst = some t → ∀ k e', i < k → es[k]? = some e' → TS t e' → D k = false := fun t ht k e' hik hk hT => by
    rw [slotsame t (.inr ht) k e' hk hT, decide_eq_false (by omega)]
  have slots' : ∀ (g' : GM) (v : Value) (t : Nat), GM.le g g' → e.av.rel g' v → (app (updS ts.length t) es (fun k => D k || Nat.beq k i) (lnth ts t)).rel g' ((a.put o.dst v).tmps.getD t undef) := by
    intro g' v t hle hv
    by_cases ht : o.dst = some t
    · by_cases htl : t < ts.length
      · rw [app_insert (TS_not ts.length t) es i e D _ hei hDi (nolater t ht), show updS ts.length t e _ = e.av from if_pos ⟨by rw [hAt.dst]; exact ht, htl⟩]
        have : t < a.tmps.size := Nat.lt_of_lt_of_le htl hi.size
        simp [Act.put, ht, this, hv]
      · rw [app_congr (upd := updS ts.length t) (T := fun _ => False) (fun e' _ x => if_neg fun h => htl h.2) es _ (fun _ => false) _ (fun _ _ _ h => h.elim), app_none _ _ _ (fun _ => rfl), lnth_ge ts t (by omega)]
        exact AV.top_rel _ _
    · rw [app_congr (TS_not ts.length t) es (fun k => D k || Nat.beq k i) D _ fun k e' hk hT => ?_]
      · have h1 := AV.rel_mono hle (hi.slots t)
        have h2 : (a.put o.dst v).tmps.getD t undef = a.tmps.getD t undef := by
          cases hd : o.dst with
          | none => rfl
          | some d =>
            have : d ≠ t := fun h => ht (by rw [hd, h])
            simp [Act.put, Array.getD_eq_getD_getElem?, Array.getElem?_setIfInBounds_ne this]
        rw [h2]; exact h1
      · by_cases hki : k = i
        · subst hki
          rw [hei] at hk; injection hk with hk; subst hk
          exact absurd (by rw [← hAt.dst]; exact hT) ht
        · have : Nat.beq k i = false := by cases hb : Nat.beq k i with | false => rfl | true => exact absurd (Nat.eq_of_beq_eq_true hb) hki
          simp [this]
  have size' : ∀ v, ts.length ≤ (a.put o.dst v).tmps.size := fun v => by
    have := hi.size
    cases o.dst <;> simpa [Act.put] using this
  unfold wpOp
  simp only [show all.toArray[i]? = some o by simpa using ho]
  rcases hAt.rule with ⟨hw, hav, heff⟩ | ⟨hw, hx⟩
  · rw [hwant _ hw]
    simp only [Bool.false_eq_true, if_false]
    have stay : ∀ l, app (updM l) es (fun k => D k || Nat.beq k i) (mem[l]?) = app (updM l) es D (mem[l]?) := by
      intro l
      refine app_congr (TM_not l) es (fun k => D k || Nat.beq k i) D _ fun k' e' hk' hT => ?_
      by_cases hki : k' = i
      · subst hki
        rw [hei] at hk'; injection hk' with hk'; subst hk'
        rcases hT with hT | ⟨c, hT⟩
        · rw [heff] at hT; simp [noEff] at hT; omega
        · rw [heff] at hT; simp [noEff] at hT
      · have : Nat.beq k' i = false := by cases hb : Nat.beq k' i with | false => rfl | true => exact absurd (Nat.eq_of_beq_eq_true hb) hki
        simp [this]
    refine hK g _ w ⟨size' _, fun t => slots' g undef t (GM.le_refl g) (by rw [hav]; exact AV.top_rel _ _), by rw [Act.put_defers']; exact hi.defers, ?_, ?_, hi.gw, hi.le, ?_⟩
    · intro l b k hl hk
      rw [stay l] at hk
      exact hi.ms l b k hl hk
    · intro l hl
      rcases hi.dom l hl with h | ⟨k, e', h1, h2, h3⟩
      · exact .inl h
      · exact .inr ⟨k, e', h1, by simp [h2], h3⟩
    · intro l l' b b' k k' h1 h2 hbb h3 h4
      rw [stay l] at h3; rw [stay l'] at h4
      exact hi.inj l l' b b' k k' h1 h2 hbb h3 h4
  · rw [hwant _ hw]
    simp only [if_true]
    -- new names of i are free
    have hfresh : ∀ q, q < e.eff.news.length → g (memi.length + q) = none := fun q hq => by
      cases hg : g (memi.length + q) with
      | none => rfl
      | some b =>
        have hbase := hAt.base
        rcases hi.dom _ (by rw [hg]; simp) with h | ⟨k, e', h1, h2, h3, h4⟩
        · have := hb0 e (List.mem_of_getElem? hei); omega
        · rcases Nat.lt_trichotomy k i with hlt | heq | hgt
          · have := hbb k i e' e h1 hei hlt; omega
          · subst heq; rw [hDi] at h2; cases h2
          · have := hbb i k e e' hei h1 hgt; omega
    -- the blocks that i looks at are as the order of the text has them
    have memsame : ∀ l, l ∈ e.rd → ∀ b, g l = some b → l < memi.length → ∀ k e', es[k]? = some e' → TM l e' → D k = decide (k < i) := by
      intro l hl b hg hlm k e' hk hT
      obtain ⟨o', ho', _⟩ := opOf k e' hk
      have hbase := hAt.base
      rcases Nat.lt_trichotomy k i with hlt | heq | hgt
      · rw [decide_eq_true hlt]
        rcases hT with hT | ⟨c, hT⟩
        · rcases hi.dom l (by rw [hg]; simp) with h | ⟨k2, e2, h1, h2, h3, h4⟩
          · have := hb0 e' (List.mem_of_getElem? hk); omega
          · rcases Nat.lt_trichotomy k2 k with q | q | q
            · have := hbb k2 k e2 e' h1 hk q; omega
            · rw [← q]; exact h2
            · have := hbb k k2 e' e2 hk h1 q; omega
        · rcases okMem_pair hM hk hei hlt with ⟨h1, _, _⟩ | hb
          · exact absurd hl (h1 l c hT)
          · exact before k hb
      · subst heq; rw [hDi]; simp
      · rw [decide_eq_false (by omega)]
        cases hDk : D k with
        | false => rfl
        | true =>
          rcases hT with hT | ⟨c, hT⟩
          · have := hbb i k e e' hei hk hgt; omega
          · rcases okMem_pair hM hei hk hgt with ⟨_, h1, _⟩ | hb
            · exact absurd hl (h1 l c hT)
            · exact (notafter k o' ho' hDk hb).elim
    refine .inl (hx g a w (fun x hxo => ?_) (fun l hl b k hg hk => ?_) hi.gw hfresh (fun l hl l' hl' b b' k k' h1 h2 h3 h4 h5 h6 h7 => hi.inj l l' b b' k k' h1 h2 h3 ?_ ?_ h6 h7) _ _ fun v w' g' hv hp => ?_)
    · cases x with
      | tmp t =>
        refine slotrel t ?_
        unfold Oper.looksAt
        rw [List.mem_append]
        left
        rw [List.mem_filterMap]
        exact ⟨_, by simpa using hxo, rfl⟩
      | const v => exact ofConst_rel g v
      | global n => rfl
      | func f => exact ⟨trivial, #[], rfl, rfl⟩
    · have hlm := (List.getElem?_eq_some_iff.1 hk).1
      refine hi.ms l b k hg ?_
      rw [app_congr (TM_not l) es D (fun k => decide (k < i)) _ (memsame l hl b hg hlm), ← hmem l]
      exact hk
    · rw [app_congr (TM_not l) es D (fun k => decide (k < i)) _ (memsame l hl b h1 (List.getElem?_eq_some_iff.1 h4).1), ← hmem l]
      exact h4
    · rw [app_congr (TM_not l') es D (fun k => decide (k < i)) _ (memsame l' hl' b' h2 (List.getElem?_eq_some_iff.1 h5).1), ← hmem l']
      exact h5
    · have hbase := hAt.base
      have oldName : ∀ l b, g' l = some b → ¬ (memi.length ≤ l ∧ l < memi.length + e.eff.news.length) → g l = some b := by
        intro l b hl hnew
        cases hg : g l with
        | some b' => exact (hp.le l b' hg).symm.trans hl ▸ rfl
        | none => have := hp.dom l (by rw [hl]; simp) hg; omega
      -- what a name stands for behind the operation
      have get : ∀ l b k, g' l = some b → app (updM l) es (fun k => D k || Nat.beq k i) (mem[l]?) = some k →
          ((memi.length ≤ l ∧ l < memi.length + e.eff.news.length) ∧ e.eff.news[l - memi.length]? = some k) ∨
          (g l = some b ∧ ((∃ c k0, wrFind e.eff.wrs l = some c ∧ memi[l]? = some k0 ∧ app (updM l) es D (mem[l]?) = some k0 ∧ k = (c, k0.2)) ∨ (wrFind e.eff.wrs l = none ∧ app (updM l) es D (mem[l]?) = some k))) := by
        intro l b k hl hk
        by_cases hnew : memi.length ≤ l ∧ l < memi.length + e.eff.news.length
        · left
          refine ⟨hnew, ?_⟩
          rw [app_insert (TM_not l) es i e D _ hei hDi ?_] at hk
          · unfold updM at hk
            rw [if_pos (by rw [hbase]; exact hnew), hbase] at hk
            exact hk
          · intro k' e' hik hk' hT
            obtain ⟨o', ho', _⟩ := opOf k' e' hk'
            cases hDk : D k' with
            | false => rfl
            | true =>
              rcases hT with hT | ⟨c, hT⟩
              · have := hbb i k' e e' hei hk' hik; omega
              · rcases okMem_pair hM hei hk' hik with ⟨_, _, h1⟩ | hb
                · exact absurd (by omega) (h1 l c hT)
                · exact (notafter k' o' ho' hDk hb).elim
        · right
          have hgl := oldName l b hl hnew
          refine ⟨hgl, ?_⟩
          cases hf : wrFind e.eff.wrs l with
          | some c =>
            left
            have hm := wrFind_mem _ _ _ hf
            have hown := okMem_own hM hei l c hm
            have hlm : l < memi.length := by rw [← hbase]; exact hown.2
            have hsame := memsame l hown.1 b hgl hlm
            have hmid : app (updM l) es D (mem[l]?) = memi[l]? := by
              rw [app_congr (TM_not l) es D (fun k => decide (k < i)) _ hsame, ← hmem l]
            rw [app_insert (TM_not l) es i e D _ hei hDi (fun k' e' hik hk' hT => by rw [hsame k' e' hk' hT, decide_eq_false (by omega)])] at hk
            rw [hmid] at hk
            unfold updM at hk
            rw [if_neg (by rw [hbase]; exact hnew), hf] at hk
            simp only at hk
            obtain ⟨k0, hk0⟩ : ∃ k0, memi[l]? = some k0 := ⟨_, List.getElem?_eq_getElem hlm⟩
            rw [hk0] at hk
            simp only [Option.map_some, Option.some.injEq] at hk
            exact ⟨c, k0, rfl, hk0, hmid.trans hk0, hk.symm⟩
          | none =>
            right
            refine ⟨rfl, ?_⟩
            have hnT : ¬ TM l e := by
              rintro (h | ⟨c, h⟩)
              · rw [hbase] at h; exact hnew h
              · exact wrFind_none _ _ hf c h
            rw [app_congr (TM_not l) es (fun k => D k || Nat.beq k i) D _ fun k' e' hk' hT => ?_] at hk
            · exact hk
            · by_cases hki : k' = i
              · subst hki
                rw [hei] at hk'; injection hk' with hk'; subst hk'
                exact absurd hT hnT
              · have : Nat.beq k' i = false := by cases hb : Nat.beq k' i with | false => rfl | true => exact absurd (Nat.eq_of_beq_eq_true hb) hki
                simp [this]
      -- a name that is written is live
      have wlive : ∀ l c b, (l, c) ∈ e.eff.wrs → g l = some b → ∃ k, app (updM l) es D (mem[l]?) = some k ∧ live k := by
        intro l c b hm hgl
        obtain ⟨k, h1, h2⟩ := hp.wl l c hm
        have hown := okMem_own hM hei l c hm
        have hlm : l < memi.length := by rw [← hbase]; exact hown.2
        have hsame := memsame l hown.1 b hgl hlm
        exact ⟨k, by rw [app_congr (TM_not l) es D (fun k => decide (k < i)) _ hsame, ← hmem l]; exact h1, h2⟩
      have freshN : ∀ l, memi.length ≤ l ∧ l < memi.length + e.eff.news.length → g l = none := by
        intro l hl
        have := hfresh (l - memi.length) (by omega)
        rwa [show memi.length + (l - memi.length) = l by omega] at this
      have wasLive : ∀ l b k, g l = some b → ((∃ c k0, wrFind e.eff.wrs l = some c ∧ memi[l]? = some k0 ∧ app (updM l) es D (mem[l]?) = some k0 ∧ k = (c, k0.2)) ∨ (wrFind e.eff.wrs l = none ∧ app (updM l) es D (mem[l]?) = some k)) → live k →
          ∃ k0, app (updM l) es D (mem[l]?) = some k0 ∧ live k0 := by
        intro l b k hgl hor hlive
        rcases hor with ⟨c, k0, hc, _, h2, rfl⟩ | ⟨_, h2⟩
        · exact wlive l c b (wrFind_mem _ _ _ hc) hgl
        · exact ⟨k, h2, hlive⟩
      have mixed : ∀ l l' b b' k k', g' l = some b → b.b = b'.b → (memi.length ≤ l ∧ l < memi.length + e.eff.news.length) → e.eff.news[l - memi.length]? = some k → g l' = some b' →
          ((∃ c k0, wrFind e.eff.wrs l' = some c ∧ memi[l']? = some k0 ∧ app (updM l') es D (mem[l']?) = some k0 ∧ k' = (c, k0.2)) ∨ (wrFind e.eff.wrs l' = none ∧ app (updM l') es D (mem[l']?) = some k')) → live k' → False := by
        intro l l' b b' k k' hl hbb2 hge _ hgl hor hlive
        have hgn := freshN l hge
        obtain ⟨k0, hk0, hli⟩ := wasLive l' b' k' hgl hor hlive
        rcases hp.nw (l - memi.length) b (by rw [show memi.length + (l - memi.length) = l by omega]; exact hl) (by rw [show memi.length + (l - memi.length) = l by omega]; exact hgn) with hq | ⟨l2, b2, hw2, hg2, hb2⟩
        · have := hi.gw.own l' b' hgl; omega
        · obtain ⟨k2, q1, q2⟩ := wlive l2 [] b2 (wrFind_mem _ _ _ hw2) hg2
          have := hi.inj l' l2 b' b2 k0 k2 hgl hg2 (by omega) hk0 q1 hli q2
          subst this
          rcases hor with ⟨c, _, hc, _, _, rfl⟩ | ⟨hc, _⟩
          · rw [hw2] at hc; injection hc with hc; subst hc; exact hlive.1 rfl
          · rw [hw2] at hc; cases hc
      refine hK g' _ w' ⟨size' _, fun t => slots' g' v t hp.le hv, by rw [Act.put_defers']; exact hi.defers, ?_, ?_, hp.gw, GM.le_trans hi.le hp.le, ?_⟩
      · intro l b k hl hk
        rcases get l b k hl hk with ⟨hnew, hn⟩ | ⟨hgl, ⟨c, k0, hc, hk0, _, rfl⟩ | ⟨hc, hk1⟩⟩
        · exact hp.new (l - memi.length) k hn b (by rw [show memi.length + (l - memi.length) = l by omega]; exact hl)
        · exact hp.wr l c hc b k0 hgl hk0
        · have hb0 := hi.ms l b k hgl hk1
          refine hb0.mono hp.le fun hne => hp.keep b.b (hi.gw.own l b hgl) fun l' c' b' hm e' hbb2 => ?_
          obtain ⟨k', h1, h2⟩ := wlive l' c' b' hm e'
          have hb1 := hi.ms l' b' k' e' h1
          have hl2 : live k := ⟨hne, by
            cases hx : isExt k.2 with
            | false => rfl
            | true => have hy := hb1.1.2 (by rw [hbb2]; exact hb0.1.1 hx); rw [h2.2] at hy; cases hy⟩
          have := hi.inj l l' b b' k k' hgl e' hbb2.symm hk1 h1 hl2 h2
          subst this
          exact wrFind_none _ _ hc c' hm
      · intro l hl
        cases hg : g l with
        | some b =>
          rcases hi.dom l (by rw [hg]; simp) with h | ⟨k, e', h1, h2, h3⟩
          · exact .inl h
          · exact .inr ⟨k, e', h1, by simp [h2], h3⟩
        | none =>
          have := hp.dom l hl hg
          exact .inr ⟨i, e, hei, by simp, by rw [hbase]; exact this⟩
      · intro l l' b b' k k' hl hl' hbb2 hk hk' h1 h2
        rcases get l b k hl hk with ⟨hnew, hn⟩ | ⟨hgl, hor⟩
        · rcases get l' b' k' hl' hk' with ⟨hnew', hn'⟩ | ⟨hgl', hor'⟩
          · have e1 := freshN l hnew
            have e2 := freshN l' hnew'
            have := hp.nn (l - memi.length) (l' - memi.length) b b' (by rw [show memi.length + (l - memi.length) = l by omega]; exact e1) (by rw [show memi.length + (l' - memi.length) = l' by omega]; exact e2)
              (by rw [show memi.length + (l - memi.length) = l by omega]; exact hl) (by rw [show memi.length + (l' - memi.length) = l' by omega]; exact hl') hbb2
            omega
          · exact (mixed l l' b b' k k' hl hbb2 hnew hn hgl' hor' h2).elim
        · rcases get l' b' k' hl' hk' with ⟨hnew', hn'⟩ | ⟨hgl', hor'⟩
          · exact (mixed l' l b' b k' k hl' hbb2.symm hnew' hn' hgl hor h1).elim
          · obtain ⟨k0, q1, q2⟩ := wasLive l b k hgl hor h1
            obtain ⟨k0', q1', q2'⟩ := wasLive l' b' k' hgl' hor' h2
            exact hi.inj l l' b b' k0 k0' hgl hgl' hbb2 q1 q1' q2 q2'

/-- How many have not come up. -/
def left (n : Nat) (D : Nat → Bool) : Nat := ((List.range n).filter fun k => !D k).length

theorem left_lt {n : Nat} {D : Nat → Bool} {i : Nat} (hi : i < n) (hD : D i = false) : left n (fun k => D k || Nat.beq k i) < left n D := by
  unfold left
  have key : ∀ (l : List Nat), i ∈ l → (l.filter fun k => !(D k || Nat.beq k i)).length < (l.filter fun k => !D k).length := by
    intro l
    have mono : ∀ (l : List Nat), (l.filter fun k => !(D k || Nat.beq k i)).length ≤ (l.filter fun k => !D k).length := by
      intro l
      induction l with
      | nil => simp
      | cons x l ih =>
        simp only [List.filter_cons]
        cases D x <;> cases Nat.beq x i <;> simp only [Bool.or_true, Bool.or_false, Bool.not_true, Bool.not_false, if_true, Bool.false_eq_true, if_false, List.length_cons] <;> omega
    induction l with
    | nil => intro h; cases h
    | cons x l ih =>
      intro h
      rcases List.mem_cons.1 h with e | e
      · subst e
        have := mono l
        simp only [List.filter_cons, hD, Nat.beq_refl, Bool.or_true, Bool.not_true, Bool.false_eq_true, if_false, Bool.not_false, if_true, List.length_cons]
        omega
      · have := ih e
        simp only [List.filter_cons]
        cases D x <;> cases Nat.beq x i <;> simp only [Bool.or_true, Bool.or_false, Bool.not_true, Bool.not_false, if_true, Bool.false_eq_true, if_false, List.length_cons] <;> omega
  exact key _ (List.mem_range.2 hi)

theorem all_up {all : List Oper} (hS : okSlots all = true) {listed : Array Bool} (hsz : listed.size = all.length)
    (hr : Region.ready .any all.toArray listed = []) : ∀ j, j < all.length → listed.getD j false = true := by
  intro j
  induction j using Nat.strongRecOn with
  | _ j ih =>
    intro hj
    cases hl : listed.getD j false with
    | true => rfl
    | false =>
      exfalso
      have hmem : j ∈ Region.ready .any all.toArray listed := by
        unfold Region.ready
        rw [List.mem_filter]
        refine ⟨List.mem_range.2 (by simpa using hj), ?_⟩
        have h1 : listed.getD j true = false := by
          have hjl : j < listed.size := by omega
          simp [Array.getD_eq_getD_getElem?, hjl] at hl ⊢
          exact hl
        simp only [h1, Bool.not_false, Bool.true_and]
        simp only [List.getElem?_toArray, List.getElem?_eq_getElem hj, Option.map_some, Option.getD_some]
        rw [Array.all_eq_true']
        intro e he
        cases hb : Region.binds .any e with
        | false => rfl
        | true =>
          have hlt := okSlots_edge hS (List.getElem?_eq_getElem hj) e he hb
          simp only [Bool.not_true, Bool.false_or]
          exact ih e.on hlt (by omega)
      rw [hr] at hmem; cases hmem

theorem Tr.width {P : Program} {S : Nat → Prop} {w0 : World} {all os : List Oper} {ts ts' : List AV} {mem mem' : List Blk} {es : List Ent} (h : Tr P S w0 all os ts mem es ts' mem') : ts'.length = ts.length := by
  induction h with
  | nil => rfl
  | skip _ _ _ _ _ _ _ _ _ ih => rw [ih, putO_length]
  | exec _ _ _ _ _ _ _ _ _ _ _ _ _ ih => rw [ih, putO_length]

theorem draw_ok {P : Program} {S : Nat → Prop} {w0 : World} {all : List Oper} {ts ts' : List AV} {mem mem' : List Blk} {es : List Ent} (htr : Tr P S w0 all all ts mem es ts' mem')
    (hS : okSlots all = true) (hM : okMem all (es.map fpOf) = true) {g0 : GM} {Q : Exit → Act → World → Prop}
    (hQ : ∀ g' a' w', GM.le g0 g' → R S w0 g' ts' mem' a' w' → Q .normal a' w') : ∀ (fuel : Nat) (listed : Array Bool) (g : GM) (a : Act) (w : World), listed.size = all.length →
      (∀ j o, all[j]? = some o → listed.getD j false = true → ∀ e ∈ o.after, Region.binds .any e = true → listed.getD e.on false = true) →
      left all.length (fun k => listed.getD k false) ≤ fuel → Inv S w0 es g0 ts mem (fun k => listed.getD k false) g a w → wpAny P .any all.toArray Q fuel listed a w := by
  obtain ⟨hb0, hbb, hts, hmem, hat⟩ := htr.at_ fun e he l c hm => by
    obtain ⟨j, hj, hje⟩ := List.getElem_of_mem he
    exact (okMem_own hM (List.getElem?_eq_some_iff.2 ⟨hj, hje⟩) l c hm).2
  have hlen := htr.length
  have fin : ∀ (listed : Array Bool) (g : GM) (a : Act) (w : World), (∀ j, j < all.length → listed.getD j false = true) → Inv S w0 es g0 ts mem (fun k => listed.getD k false) g a w → Q .normal a w := by
    intro listed g a w hall hi
    have hsame : ∀ k e', es[k]? = some e' → listed.getD k false = true := fun k e' hk => hall k (by rw [← hlen]; exact (List.getElem?_eq_some_iff.1 hk).1)
    have htl : ts'.length = ts.length := htr.width
    refine hQ g a w hi.le ⟨⟨by rw [htl]; exact hi.size, fun t => ?_⟩, hi.defers, fun l b k hl hk => ?_, hi.gw, fun l hl => ?_, fun l l' b b' k k' h1 h2 hbb2 h3 h4 => ?_⟩
    · rw [hts t, ← app_congr (TS_not ts.length t) es (fun k => listed.getD k false) (fun _ => true) _ fun k e' hk _ => hsame k e' hk]
      exact hi.slots t
    · refine hi.ms l b k hl ?_
      rw [app_congr (TM_not l) es (fun k => listed.getD k false) (fun _ => true) _ fun k e' hk _ => hsame k e' hk, ← hmem l]
      exact hk
    · rcases Nat.lt_or_ge l mem'.length with h | h
      · exact h
      · exfalso
        have hn : mem'[l]? = none := List.getElem?_eq_none h
        rw [hmem l] at hn
        have key : ∀ (es : List Ent) (x : Option Blk), app (updM l) es (fun _ => true) x = none → x = none ∧ ∀ e ∈ es, ¬ (e.base ≤ l ∧ l < e.base + e.eff.news.length) := by
          intro es
          induction es with
          | nil => intro x h; exact ⟨h, by simp⟩
          | cons e es ih =>
            intro x h
            simp only [app] at h
            obtain ⟨h1, h2⟩ := ih _ h
            unfold updM at h1
            split at h1
            · rename_i hr
              have : l - e.base < e.eff.news.length := by omega
              rw [List.getElem?_eq_getElem this] at h1; cases h1
            · rename_i hr
              refine ⟨?_, fun e' he' => ?_⟩
              · split at h1
                · cases x <;> simp at h1 ⊢
                · exact h1
              · rcases List.mem_cons.1 he' with rfl | he'
                · exact hr
                · exact h2 e' he'
        obtain ⟨h1, h2⟩ := key es _ hn
        rcases hi.dom l hl with h3 | ⟨i, e, h3, _, h4⟩
        · rw [List.getElem?_eq_getElem h3] at h1; cases h1
        · exact h2 e (List.mem_of_getElem? h3) h4
    · refine hi.inj l l' b b' k k' h1 h2 hbb2 ?_ ?_
      · rw [app_congr (TM_not l) es (fun k => listed.getD k false) (fun _ => true) _ fun k e' hk _ => hsame k e' hk, ← hmem l]
        exact h3
      · rw [app_congr (TM_not l') es (fun k => listed.getD k false) (fun _ => true) _ fun k e' hk _ => hsame k e' hk, ← hmem l']
        exact h4
  intro fuel
  induction fuel with
  | zero =>
    intro listed g a w hsz hcl hleft hi
    have hall : ∀ j, j < all.length → listed.getD j false = true := by
      intro j hj
      cases hl : listed.getD j false with
      | true => rfl
      | false =>
        have := left_lt (n := all.length) (D := fun k => listed.getD k false) hj hl
        omega
    refine ⟨?_, fin listed g a w hall hi⟩
    cases hr : Region.ready .any all.toArray listed with
    | nil => rfl
    | cons x xs =>
      have hx : x ∈ Region.ready .any all.toArray listed := by rw [hr]; exact List.mem_cons_self ..
      unfold Region.ready at hx
      rw [List.mem_filter] at hx
      have hlt : x < all.length := by simpa using hx.1
      have h1 := hall x hlt
      have h2 := hx.2
      have hjl : x < listed.size := by omega
      simp [Array.getD_eq_getD_getElem?, hjl] at h1 h2
      rw [h1] at h2; simp at h2
  | succ fuel ih =>
    intro listed g a w hsz hcl hleft hi
    refine ⟨fun hr => fin listed g a w (all_up hS hsz hr) hi, fun i hir => ?_⟩
    unfold Region.ready at hir
    rw [List.mem_filter] at hir
    obtain ⟨h1, h2⟩ := hir
    have hlt : i < all.length := by simpa using h1
    have hjl : i < listed.size := by omega
    have ho : all[i]? = some all[i] := List.getElem?_eq_getElem hlt
    simp only [List.getElem?_toArray, ho, Option.map_some, Option.getD_some, Bool.and_eq_true, Bool.not_eq_true'] at h2
    have hDi : listed.getD i false = false := by
      have := h2.1
      simp [Array.getD_eq_getD_getElem?, hjl] at this ⊢
      exact this
    have hready : ∀ e ∈ all[i].after, Region.binds .any e = true → listed.getD e.on false = true := fun e he hb => by
      have := (Array.all_eq_true'.1 h2.2) e he
      simpa [hb] using this
    have hset : ∀ k, (listed.setIfInBounds i true).getD k false = (listed.getD k false || Nat.beq k i) := fun k => by
      simp only [Array.getD_eq_getD_getElem?, Array.getElem?_setIfInBounds]
      by_cases hki : i = k
      · subst hki; simp [hjl]
      · have : Nat.beq k i = false := by cases hb : Nat.beq k i with | false => rfl | true => exact absurd (Nat.eq_of_beq_eq_true hb).symm hki
        simp [hki, this]
    refine inv_step htr hS hM hcl hi ho hDi hready fun g' a' w' hi' => ?_
    refine ih (listed.setIfInBounds i true) g' a' w' (by simpa using hsz) ?_ ?_ ?_
    · intro j o hj hl e he hb
      rw [hset] at hl ⊢
      by_cases hji : j = i
      · subst hji
        rw [ho] at hj; injection hj with hj; subst hj
        rw [hready e he hb]; rfl
      · have : Nat.beq j i = false := by cases hb : Nat.beq j i with | false => rfl | true => exact absurd (Nat.eq_of_beq_eq_true hb) hji
        rw [this, Bool.or_false] at hl
        rw [hcl j o hj hl e he hb]; rfl
    · have := left_lt (n := all.length) (D := fun k => listed.getD k false) hlt hDi
      have h3 : left all.length (fun k => (listed.setIfInBounds i true).getD k false) = left all.length (fun k => listed.getD k false || Nat.beq k i) := by
        unfold left; congr 1; apply List.filter_congr; intro k _; exact congrArg (!·) (hset k)
      omega
    · have h3 : (fun k => (listed.setIfInBounds i true).getD k false) = fun k => (listed.getD k false || Nat.beq k i) := funext hset
      rw [h3]; exact hi'

theorem region_draw {P : Program} {S : Nat → Prop} {w0 : World} {id : Nat} {all : List Oper} {ts ts' : List AV} {mem mem' : List Blk} {es : List Ent} (hP : P.follows .mixedOrders = true) (htr : Tr P S w0 all all ts mem es ts' mem')
    (hS : okSlots all = true) (hM : okMem all (es.map fpOf) = true) {g : GM} {a : Act} {w : World} (hr : R S w0 g ts mem a w) {Q : Exit → Act → World → Prop}
    (hQ : ∀ g' a' w', GM.le g g' → R S w0 g' ts' mem' a' w' → Q .normal a' w') : (Code.region id all.toArray true).wp P Q a w := by
  refine wp_region_any hP (draw_ok htr hS hM hQ _ _ g a _ (by simp) ?_ ?_ ?_)
  · intro j o hj hl
    rw [getD_rep] at hl; cases hl
  · have : ∀ D, left all.length D ≤ all.toArray.size := fun D => by
      unfold left
      have := List.length_filter_le (fun k => !D k) (List.range all.length)
      simpa using this
    exact this _
  · have hD : (fun k => (Array.replicate all.toArray.size false).getD k false) = fun _ => false := funext fun k => getD_rep _ k
    rw [hD]
    refine ⟨hr.ts.1, fun t => ?_, hr.defers, fun l b k hl hk => ?_, fun l hl => .inl (hr.dom l hl), ?_, GM.le_refl g, fun l l' b b' k k' h1 h2 hbb2 h3 h4 => ?_⟩
    · rw [app_none _ _ _ fun _ => rfl]; exact hr.ts.2 t
    · rw [app_none _ _ _ fun _ => rfl] at hk; exact hr.ms l b k hl hk
    · exact ⟨hr.gw.own, ⟨hr.gw.fr.os, hr.gw.fr.tape, hr.gw.fr.output, hr.gw.fr.size, hr.gw.fr.block⟩⟩
    · rw [app_none _ _ _ fun _ => rfl] at h3 h4; exact hr.inj l l' b b' k k' h1 h2 hbb2 h3 h4
where
  getD_rep (m j : Nat) : (Array.replicate m false).getD j false = false := by
    rcases Nat.lt_or_ge j m with h | h
    · simp [h]
    · simp [h]

theorem region_seq {P : Program} {S : Nat → Prop} {w0 : World} {id : Nat} {all : List Oper} {ts ts' : List AV} {mem mem' : List Blk} {es : List Ent} (htr : Tr P S w0 all all ts mem es ts' mem')
    {g : GM} {a : Act} {w : World} (hr : R S w0 g ts mem a w) {Q : Exit → Act → World → Prop}
    (hQ : ∀ g' a' w', GM.le g g' → R S w0 g' ts' mem' a' w' → Q .normal a' w') : (Code.region id all.toArray false).wp P Q a w :=
  wp_region_lit (seq_ok htr g a w hr hQ)

end Go.Ev
namespace Go.Ev
open Go

def CV.cellOk : CV → Bool
  | .top => false
  | .v x => x.oneCell'
  | _ => true

theorem CV.cellOk_rel {g : GM} {c : CV} {y : Value} (h : c.cellOk = true) (hr : c.rel g y) : y.oneCell' = true := by
  cases c with
  | top => cases h
  | v x => rw [show y = x from hr]; exact h
  | bool b => rw [show y = _ from hr]; rfl
  | int k n => rw [hr.1]; rfl
  | ptr l o i => obtain ⟨b, _, rfl⟩ := hr; rfl
  | sl l o i n c => rcases hr with ⟨_, _, _, rfl⟩ | ⟨_, _, _, _, b, _, _, rfl⟩ <;> rfl
  | fn f fs cs => obtain ⟨_, ws, _, rfl⟩ := hr; rfl

theorem Ch.rel_one {g : GM} {c : Ch} {vs : List Value} (h : c.rel g vs) : ∀ y ∈ vs, y.oneCell' = true := by
  cases c with
  | cell c => obtain ⟨y, rfl, h1, _⟩ := h; simpa using h1
  | num x => rw [h.2]; intro y hy; simp only [limbs, List.mem_cons, List.not_mem_nil, or_false] at hy; rcases hy with rfl | rfl | rfl | rfl <;> rfl
  | vec n f => intro y hy; obtain ⟨i, hi, rfl⟩ := List.getElem_of_mem hy; exact (h.2 i _ (List.getElem?_eq_getElem hi)).1

theorem chsRel_one {g : GM} : ∀ (cs : List Ch) (vs : List Value), chsRel g cs vs → ∀ y ∈ vs, y.oneCell' = true
  | [], _, h, y, hy => by rw [show _ = [] from h] at hy; cases hy
  | c :: cs, _, ⟨us, ws, h1, h2, h3⟩, y, hy => by
    rw [h1, List.mem_append] at hy
    rcases hy with hy | hy
    · exact Ch.rel_one h2 y hy
    · exact chsRel_one cs ws h3 y hy

def bnth : List Blk → Nat → Option Blk
  | [], _ => none
  | k :: _, 0 => some k
  | _ :: ks, n + 1 => bnth ks n
theorem bnth_eq : ∀ (ks : List Blk) (n : Nat), bnth ks n = ks[n]?
  | [], _ => rfl
  | _ :: _, 0 => rfl
  | _ :: ks, n + 1 => by simp [bnth, bnth_eq ks n]

/-- From offset off on. -/
def dropCh : List Ch → Nat → Option (List Ch)
  | [], off => match Nat.beq off 0 with
    | true => some []
    | false => none
  | c :: r, off => match Nat.beq off 0 with
    | true => some (c :: r)
    | false => match Nat.ble c.size off with
      | true => dropCh r (off - c.size)
      | false => none
def takeCh : List Ch → Nat → Option (List Ch)
  | [], sz => match Nat.beq sz 0 with
    | true => some []
    | false => none
  | c :: r, sz => match Nat.beq sz 0 with
    | true => some []
    | false => match Nat.ble c.size sz with
      | true => match takeCh r (sz - c.size) with
        | some l => some (c :: l)
        | none => none
      | false => none
def appCh : List Ch → List Ch → List Ch
  | [], y => y
  | c :: x, y => c :: appCh x y
/-- The sz cells from off on are 'new' instead. -/
def replCh (new : List Ch) (sz : Nat) : List Ch → Nat → Option (List Ch)
  | [], off => match Nat.beq off 0 with
    | true => match Nat.beq sz 0 with
      | true => some new
      | false => none
    | false => none
  | c :: r, off => match Nat.beq off 0 with
    | true => match dropCh (c :: r) sz with
      | some q => some (appCh new q)
      | none => none
    | false => match Nat.ble c.size off with
      | true => match replCh new sz r (off - c.size) with
        | some q => some (c :: q)
        | none => none
      | false => none

theorem appCh_eq : ∀ (x y : List Ch), appCh x y = x ++ y
  | [], _ => rfl
  | c :: x, y => by simp [appCh, appCh_eq x y]

theorem chsSize_append : ∀ (x y : List Ch), chsSize (x ++ y) = chsSize x + chsSize y
  | [], y => by simp [chsSize]
  | c :: x, y => by simp [chsSize, chsSize_append x y]; omega

theorem dropCh_ok : ∀ (cs : List Ch) (off : Nat) (r : List Ch), dropCh cs off = some r → ∃ pre, cs = pre ++ r ∧ chsSize pre = off
  | [], off, r, h => by
    unfold dropCh at h
    split at h
    · rename_i hb
      injection h with h; subst h
      exact ⟨[], rfl, (Nat.eq_of_beq_eq_true hb).symm⟩
    · cases h
  | c :: cs, off, r, h => by
    unfold dropCh at h
    split at h
    · rename_i hb
      injection h with h; subst h
      exact ⟨[], rfl, (Nat.eq_of_beq_eq_true hb).symm⟩
    · split at h
      · rename_i hb
        have hle := Nat.le_of_ble_eq_true hb
        obtain ⟨pre, h1, h2⟩ := dropCh_ok cs _ r h
        exact ⟨c :: pre, by rw [h1]; rfl, by simp [chsSize, h2]; omega⟩
      · cases h

theorem takeCh_ok : ∀ (cs : List Ch) (sz : Nat) (l : List Ch), takeCh cs sz = some l → ∃ post, cs = l ++ post ∧ chsSize l = sz
  | [], sz, l, h => by
    unfold takeCh at h
    split at h
    · rename_i hb
      injection h with h; subst h
      exact ⟨[], rfl, (Nat.eq_of_beq_eq_true hb).symm⟩
    · cases h
  | c :: cs, sz, l, h => by
    unfold takeCh at h
    split at h
    · rename_i hb
      injection h with h; subst h
      exact ⟨c :: cs, rfl, (Nat.eq_of_beq_eq_true hb).symm⟩
    · split at h
      · rename_i hb
        have hle := Nat.le_of_ble_eq_true hb
        split at h
        · rename_i l' hl
          injection h with h; subst h
          obtain ⟨post, h1, h2⟩ := takeCh_ok cs _ l' hl
          exact ⟨post, by rw [h1]; rfl, by simp [chsSize, h2]; omega⟩
        · cases h
      · cases h

theorem replCh_ok (new : List Ch) (sz : Nat) : ∀ (cs : List Ch) (off : Nat) (r : List Ch), replCh new sz cs off = some r →
    ∃ pre mid post, cs = pre ++ (mid ++ post) ∧ chsSize pre = off ∧ chsSize mid = sz ∧ r = pre ++ (new ++ post)
  | [], off, r, h => by
    unfold replCh at h
    split at h
    · rename_i hb
      split at h
      · rename_i hb2
        injection h with h; subst h
        exact ⟨[], [], [], rfl, (Nat.eq_of_beq_eq_true hb).symm, (Nat.eq_of_beq_eq_true hb2).symm, by simp⟩
      · cases h
    · cases h
  | c :: cs, off, r, h => by
    unfold replCh at h
    split at h
    · rename_i hb
      split at h
      · rename_i q hq
        injection h with h; subst h
        obtain ⟨mid, h1, h2⟩ := dropCh_ok _ _ _ hq
        exact ⟨[], mid, q, h1, (Nat.eq_of_beq_eq_true hb).symm, h2, by rw [appCh_eq]; rfl⟩
      · cases h
    · split at h
      · rename_i hb
        have hle := Nat.le_of_ble_eq_true hb
        split at h
        · rename_i q hq
          injection h with h; subst h
          obtain ⟨pre, mid, post, h1, h2, h3, h4⟩ := replCh_ok new sz cs _ q hq
          exact ⟨c :: pre, mid, post, by rw [h1]; rfl, by simp [chsSize, h2]; omega, h3, by rw [h4]; rfl⟩
        · cases h
      · cases h

/-- The cell at place i of a row that begins with these. -/
def obl (b : Bool) (K : Prop) : Prop := match b with
  | true => K
  | false => False
theorem obl_of {b : Bool} {K : Prop} (hb : b = true) (h : K) : obl b K := by subst hb; exact h
theorem obl_ok {b : Bool} {K : Prop} (h : obl b K) : b = true ∧ K := by cases b with
  | true => exact ⟨rfl, h⟩
  | false => exact h.elim

def Ch.at_ (c : Ch) (i : Nat) (K : CV → Prop) : Prop := match c with
  | .cell c => obl (Nat.beq i 0) (K c)
  | .num x => obl (Nat.blt i 4) (K (.int .u64 (Int.ofNat (limb i x))))
  | .vec n f => obl (Nat.blt i n) (K (f i))

theorem limb_lt (i x : Nat) : limb i x < B64 := Nat.mod_lt _ (by decide)
theorem limb_has (i x : Nat) : IntKind.has .u64 (Int.ofNat (limb i x)) := by
  have h := limb_lt i x
  have h1 : IntKind.u64.min = 0 := rfl
  have h2 : IntKind.u64.max = 18446744073709551615 := rfl
  unfold B64 at h
  unfold IntKind.has
  rw [h1, h2]
  constructor
  · exact Int.natCast_nonneg _
  · show ((limb i x : Nat) : Int) ≤ _
    omega

theorem limbs_get (x i : Nat) (h : i < 4) : (limbs x)[i]? = some (.int .u64 (Int.ofNat (limb i x))) := by
  match i, h with
  | 0, _ => rfl
  | 1, _ => rfl
  | 2, _ => rfl
  | 3, _ => rfl

theorem Ch.at_ok {g : GM} {c : Ch} {vs : List Value} (hr : c.rel g vs) {i : Nat} {K : CV → Prop} (h : c.at_ i K) : ∃ cv y, K cv ∧ vs[i]? = some y ∧ cv.rel g y ∧ y.oneCell' = true := by
  cases c with
  | cell c =>
    obtain ⟨hb, hK⟩ := obl_ok h
    have := Nat.eq_of_beq_eq_true hb; subst this
    obtain ⟨y, rfl, h1, h2⟩ := hr
    exact ⟨c, y, hK, rfl, h2, h1⟩
  | num x =>
    obtain ⟨hb, hK⟩ := obl_ok h
    rw [Nat.blt_eq] at hb
    exact ⟨_, _, hK, by rw [hr.2]; exact limbs_get x i hb, ⟨rfl, limb_has i x⟩, rfl⟩
  | vec n f =>
    obtain ⟨hb, hK⟩ := obl_ok h
    rw [Nat.blt_eq] at hb
    have hlt : i < vs.length := by rw [hr.1]; exact hb
    exact ⟨_, _, hK, List.getElem?_eq_getElem hlt, (hr.2 i _ (List.getElem?_eq_getElem hlt)).2, (hr.2 i _ (List.getElem?_eq_getElem hlt)).1⟩

/-! ### In a world -/

theorem cell_blk {w : World} {b : Nat} {cs : Array Value} {t : TypeId} {fz : Nat × Nat} (h : w.heap[b]? = some (.cells cs t fz)) (j : Nat) : w.cell? ⟨b, j, none⟩ = cs[j]? := by
  simp [World.cell?, h]

theorem add_addr (b o n : Nat) : (⟨b, o, none⟩ : Addr).add n = ⟨b, o + n, none⟩ := by
  unfold Addr.add; split
  · rename_i h; subst h; rfl
  · rfl

/-- A type's place among the words of the evaluator. -/
inductive TI where
  | int (k : IntKind)
  | bool
  | str
  | sc (z : CV)
  | arr (n : Nat) (e : Nat) (esz : Nat) (z : List Ch)
  | st (fs : List (Nat × Nat)) (sz : Nat) (z : List Ch)
  | slice (e : Nat) (esz : Nat)
  | none

def isAggD : TypeDesc → Bool
  | .struct _ | .array _ _ => true
  | _ => false

def TyOk (P : Program) (t : Nat) : TI → Prop
  | .int k => (P.info? t).map (fun i => (i.zero, i.size)) = some (some (.int k 0), 1) ∧ P.underlying t = some (.int k)
  | .bool => (P.info? t).map (fun i => (i.zero, i.size)) = some (some (.bool false), 1) ∧ P.underlying t = some .bool
  | .str => (P.info? t).map (fun i => (i.zero, i.size)) = some (some (.string ByteArray.empty), 1) ∧ P.underlying t = some .string
  | .sc z => ∃ (v : Value) (d : TypeDesc), (P.info? t).map (fun i => (i.zero, i.size)) = some (some v, 1) ∧ P.underlying t = some d ∧ isAggD d = false ∧ z.cellOk = true ∧ ∀ g, z.rel g v
  | .arr n e esz z => ∃ (v : Array Value), (P.info? t).map (fun i => (i.zero, i.size)) = some (some (.agg v), n * esz) ∧ P.underlying t = some (.array n e) ∧ (P.info? e).map (·.size) = some esz ∧ 2 ≤ n ∧ ∀ g, chsRel g z v.toList
  | .st fs sz z => ∃ (v : Array Value) (F : Array Field), (P.info? t).map (fun i => (i.zero, i.size)) = some (some (.agg v), sz) ∧ P.underlying t = some (.struct F) ∧
      (F.toList.map fun f => (f.offset, (P.cellsOf f.type))) = fs ∧ (∀ p ∈ fs, p.2 ≠ 0) ∧ ∀ g, chsRel g z v.toList
  | .slice e esz => (P.info? t).map (fun i => (i.zero, i.size)) = some (some (.slice none 0 0), 1) ∧ P.underlying t = some (.slice e) ∧ (P.info? e).map (·.size) = some esz
  | .none => True

theorem run_underlying' {P : Program} {t : Nat} {d : TypeDesc} (h : P.underlying t = some d) (w : World) : (underlying t).run P w = .ok d w := by
  simp [underlying, h]

theorem run_sizeOf' {P : Program} {t n : Nat} (h : (P.info? t).map (·.size) = some n) (w : World) : (sizeOf t).run P w = .ok n w := by
  cases hq : P.info? t with
  | none => simp [hq] at h
  | some i => simp [hq] at h; simp [sizeOf, typeInfo, hq, h]

theorem run_zero' {P : Program} {t n : Nat} {v : Value} (h : (P.info? t).map (fun i => (i.zero, i.size)) = some (some v, n)) (w : World) : (zeroValue t).run P w = .ok v w ∧ (P.info? t).map (·.size) = some n := by
  cases hq : P.info? t with
  | none => simp [hq] at h
  | some i => simp [hq] at h; simp [zeroValue, typeInfo, hq, h]

theorem run_isAgg' {P : Program} {t : Nat} {d : TypeDesc} (h : P.underlying t = some d) (w : World) : (isAgg t).run P w = .ok (isAggD d) w := by
  unfold isAgg
  rw [Sem.run_bind, run_underlying' h w]
  cases d <;> rfl

theorem run_load_agg {P : Program} {t sz : Nat} {d : TypeDesc} (hu : P.underlying t = some d) (hd : isAggD d = true) (hs : (P.info? t).map (·.size) = some sz) {w : World} {b : Nat} {cs : Array Value} {ty : TypeId} {fz : Nat × Nat}
    (hb : w.heap[b]? = some (.cells cs ty fz)) {off : Nat} {vs : List Value} (hv : ∀ j v, vs[j]? = some v → cs[off + j]? = some v) (hl : vs.length = sz) : (loadVar t ⟨b, off, none⟩).run P w = .ok (.agg vs.toArray) w := by
  have h1 := run_loadCells_list (P := P) w ⟨b, off, none⟩ vs (fun j v hj => by rw [add_addr, cell_blk hb]; exact hv j v hj)
  unfold loadVar
  rw [Sem.run_bind, run_isAgg' hu, hd]
  simp only [Result.andThen_ok, if_true, Sem.run_bind, run_sizeOf' hs]
  rw [← hl, h1]
  rfl

theorem run_load_one {P : Program} {t : Nat} {d : TypeDesc} (hu : P.underlying t = some d) (hd : isAggD d = false) {w : World} {b : Nat} {cs : Array Value} {ty : TypeId} {fz : Nat × Nat}
    (hb : w.heap[b]? = some (.cells cs ty fz)) {off : Nat} {v : Value} (hv : cs[off]? = some v) : (loadVar t ⟨b, off, none⟩).run P w = .ok v w := by
  unfold loadVar
  rw [Sem.run_bind, run_isAgg' hu, hd]
  simp only [Result.andThen_ok, Bool.false_eq_true, if_false, run_load, cell_blk hb, hv]

/-- The world with block b as it is said. -/
def putB (w : World) (b : Nat) (o : Obj) : World := { w with heap := w.heap.setIfInBounds b o }
theorem putB_get (w : World) (b : Nat) (o : Obj) (k : Nat) (hb : b < w.heap.size) : (putB w b o).heap[k]? = if b = k then some o else w.heap[k]? := by
  unfold putB
  simp only [Array.getElem?_setIfInBounds]
  by_cases h : b = k
  · subst h; simp [hb]
  · simp [h]
theorem putB_size (w : World) (b : Nat) (o : Obj) : (putB w b o).heap.size = w.heap.size := by simp [putB]

theorem setCell_putB {w : World} {b : Nat} {cs : Array Value} {ty : TypeId} {fz : Nat × Nat} (hb : w.heap[b]? = some (.cells cs ty fz)) (j : Nat) (v : Value) :
    w.setCell ⟨b, j, none⟩ v = putB w b (.cells (cs.setIfInBounds j v) ty fz) := by
  have hlt : b < w.heap.size := by
    rcases Nat.lt_or_ge b w.heap.size with h | h
    · exact h
    · rw [Array.getElem?_eq_none h] at hb; cases hb
  have hg : w.heap[b] = .cells cs ty fz := by rw [Array.getElem?_eq_getElem hlt] at hb; exact Option.some.inj hb
  unfold World.setCell putB
  congr 1
  apply Array.ext_getElem?
  intro k
  rw [Array.getElem?_modify, Array.getElem?_setIfInBounds]
  by_cases h : b = k
  · subst h; simp [hlt, hg]
  · simp [h]

theorem putB_putB {w : World} {b : Nat} (o o' : Obj) : putB (putB w b o) b o' = putB w b o' := by
  unfold putB
  simp only [World.mk.injEq, and_self, and_true]
  apply Array.ext_getElem?
  intro k
  simp only [Array.getElem?_setIfInBounds, Array.size_setIfInBounds]
  by_cases h : b = k
  · subst h; by_cases h2 : b < w.heap.size <;> simp [h2]
  · simp [h]

def setL (cs : Array Value) (off : Nat) : List Value → Array Value
  | [] => cs
  | v :: vs => setL (cs.setIfInBounds off v) (off + 1) vs
theorem setL_size : ∀ (vs : List Value) (cs : Array Value) (off : Nat), (setL cs off vs).size = cs.size
  | [], _, _ => rfl
  | v :: vs, cs, off => by simp [setL, setL_size vs]
theorem setL_get : ∀ (vs : List Value) (cs : Array Value) (off k : Nat), off + vs.length ≤ cs.size → (setL cs off vs)[k]? = if off ≤ k ∧ k < off + vs.length then vs[k - off]? else cs[k]?
  | [], cs, off, k, _ => by simp [setL]; omega
  | v :: vs, cs, off, k, h => by
    simp only [List.length_cons] at h
    simp only [setL, List.length_cons]
    rw [setL_get vs _ _ k (by simp; omega)]
    by_cases h1 : off + 1 ≤ k ∧ k < off + 1 + vs.length
    · rw [if_pos h1, if_pos (by omega), show k - off = (k - (off + 1)) + 1 by omega]; simp
    · rw [if_neg h1]
      by_cases h2 : k = off
      · subst h2
        rw [if_pos (by omega), Array.getElem?_setIfInBounds]
        simp; omega
      · rw [if_neg (by omega), Array.getElem?_setIfInBounds]
        simp [Ne.symm h2]

theorem run_storeCells' {P : Program} {b : Nat} {ty : TypeId} {fz : Nat × Nat} : ∀ (vs : List Value) (w : World) (cs : Array Value) (off i : Nat), w.heap[b]? = some (.cells cs ty fz) → off + i + vs.length ≤ cs.size →
    (∀ y ∈ vs, y.oneCell' = true) → (∀ o, o < cs.size → ¬ (fz.1 ≤ o ∧ o < fz.2)) → (storeCells ⟨b, off, none⟩ vs i).run P w = .ok () (match vs with | [] => w | _ => putB w b (.cells (setL cs (off + i) vs) ty fz))
  | [], w, _, _, _, _, _, _, _ => rfl
  | v :: vs, w, cs, off, i, hb, hl, h1, hz => by
    simp only [List.length_cons] at hl
    have hlt : b < w.heap.size := by
      rcases Nat.lt_or_ge b w.heap.size with h | h
      · exact h
      · rw [Array.getElem?_eq_none h] at hb; cases hb
    have hc : w.cell? ⟨b, off + i, none⟩ = some cs[off + i] := by rw [cell_blk hb]; simp
    have hf : w.frozen? ⟨b, off + i, none⟩ = false := by
      have h0 := hz (off + i) (by omega)
      have h2 : (decide (fz.1 ≤ off + i) && decide (off + i < fz.2)) = false := by
        rw [Bool.and_eq_false_iff, decide_eq_false_iff_not, decide_eq_false_iff_not]; omega
      simp only [World.frozen?, hb]
      exact h2
    rw [storeCells, Sem.run_bind, add_addr, run_store P w _ v _ (h1 v (List.mem_cons_self ..)), hc]
    simp only [hf, Bool.false_eq_true, if_false, Result.andThen_ok, setCell_putB hb]
    have hb' : (putB w b (.cells (cs.setIfInBounds (off + i) v) ty fz)).heap[b]? = some (.cells (cs.setIfInBounds (off + i) v) ty fz) := by rw [putB_get _ _ _ _ hlt, if_pos rfl]
    rw [run_storeCells' vs _ _ off (i + 1) hb' (by simp; omega) (fun y hy => h1 y (List.mem_cons_of_mem _ hy)) (fun o ho => hz o (by simpa using ho))]
    cases vs with
    | nil => rfl
    | cons v' vs => simp only [putB_putB]; rfl

theorem chsRel_split {g : GM} {pre r : List Ch} {vs : List Value} (h : chsRel g (pre ++ r) vs) : chsRel g pre (vs.take (chsSize pre)) ∧ chsRel g r (vs.drop (chsSize pre)) := by
  obtain ⟨us, ws, rfl, h1, h2⟩ := (chsRel_append pre r vs).1 h
  have := chsRel_size _ _ h1
  rw [← this]
  simp [h1, h2]

theorem chsRel_splice {g : GM} {cs cs' new : List Ch} {off sz : Nat} (hr : replCh new sz cs off = some cs') {vs us : List Value} (hv : chsRel g cs vs) (hu : chsRel g new us) (_hl : us.length = sz) :
    off + sz ≤ vs.length ∧ chsRel g cs' (vs.take off ++ (us ++ vs.drop (off + sz))) := by
  obtain ⟨pre, mid, post, rfl, h2, h3, rfl⟩ := replCh_ok _ _ _ _ _ hr
  obtain ⟨a, b, rfl, q1, q2⟩ := (chsRel_append _ _ _).1 hv
  obtain ⟨c, d, rfl, q3, q4⟩ := (chsRel_append _ _ _).1 q2
  have l1 := chsRel_size _ _ q1
  have l2 := chsRel_size _ _ q3
  have e1 : a.length = off := by omega
  have e2 : c.length = sz := by omega
  refine ⟨by simp; omega, ?_⟩
  have t1 : (a ++ (c ++ d)).take off = a := by rw [← e1]; simp
  have t2 : (a ++ (c ++ d)).drop (off + sz) = d := by rw [← e1, ← e2]; simp [← List.append_assoc, ← List.length_append]
  rw [t1, t2]
  exact (chsRel_append _ _ _).2 ⟨a, us ++ d, rfl, q1, (chsRel_append _ _ _).2 ⟨us, d, rfl, hu, q4⟩⟩

theorem setL_toList (cs : Array Value) (off : Nat) (vs : List Value) (h : off + vs.length ≤ cs.size) : (setL cs off vs).toList = cs.toList.take off ++ (vs ++ cs.toList.drop (off + vs.length)) := by
  apply List.ext_getElem?
  intro k
  rw [Array.getElem?_toList, setL_get vs cs off k h]
  have htl : (cs.toList.take off).length = off := by simp; omega
  by_cases h1 : k < off
  · rw [if_neg (by omega), List.getElem?_append_left (by omega), List.getElem?_take, if_pos h1]; simp
  · rw [List.getElem?_append_right (by omega), htl]
    by_cases h2 : k < off + vs.length
    · rw [if_pos (by omega), List.getElem?_append_left (by omega)]
    · rw [if_neg (by omega), List.getElem?_append_right (by omega), List.getElem?_drop]
      rw [show off + vs.length + (k - off - vs.length) = k by omega]
      simp

end Go.Ev
namespace Go.Ev
open Go

variable {P : Program} {S : Nat → Prop} {w0 : World} {ts : List AV} {mem : List Blk}

theorem Post.same {g : GM} {w : World} (hg : GW g S w0 w) : Post S w0 mem noEff g g w w :=
  ⟨GM.le_refl g, hg, fun l h h' => absurd h' h, Nat.le_refl _, fun _ _ _ => rfl, fun i k h => by simp [noEff] at h, fun l c h => by simp [noEff, wrFind] at h, fun l c h => by simp [noEff] at h, fun i b h h' => (by rw [h'] at h; cases h), fun i j b b2 q1 q2 q3 q4 _ => (by rw [q1] at q3; cases q3)⟩

/-- An operation that hands back a value and leaves the world. -/
theorem exec_read {o : Oper} {rd : List Nat} {av : AV}
    (h : ∀ (g : GM) (a : Act) (w : World), (∀ x ∈ o.op.operands, (opv ts x).rel g (a.eval x)) → (∀ l ∈ rd, ∀ b k, g l = some b → mem[l]? = some k → BlkRel S w0 g w b k) → GW g S w0 w →
      ∃ v, (execOp a.eval o).run P w = .ok (.value v) w ∧ av.rel g v) : Exec P S w0 o ts mem rd av noEff := by
  intro g a w hx hrd hg _ _ next Q hn
  obtain ⟨v, h1, h2⟩ := h g a w hx hrd hg
  unfold Oper.wp
  rw [h1]
  exact hn v w g h2 (Post.same hg)

theorem exec_pure {o : Oper} {av : AV} (h : ∀ (g : GM) (a : Act) (w : World), (∀ x ∈ o.op.operands, (opv ts x).rel g (a.eval x)) →
      ∃ v, (execOp a.eval o).run P w = .ok (.value v) w ∧ av.rel g v) : Exec P S w0 o ts mem [] av noEff :=
  exec_read fun g a w hx _ _ => h g a w hx

/-- The next name stands for the next block. -/
def GM.ext (g : GM) (n : Nat) (b : BR) : GM := fun l => if l = n then some b else g l
theorem GM.ext_same (g : GM) (n : Nat) (b : BR) : g.ext n b n = some b := by simp [GM.ext]
theorem GM.ext_le {g : GM} {n : Nat} {b : BR} (h : g n = none) : GM.le g (g.ext n b) := by
  intro l x hl
  unfold GM.ext
  by_cases e : l = n
  · subst e; rw [h] at hl; cases hl
  · simp [e, hl]

theorem push_get (w : World) (o : Obj) (k : Nat) (h : k < w.heap.size) : (w.heap.push o)[k]? = w.heap[k]? := by
  rw [Array.getElem?_push, if_neg (by omega)]

/-- A world with one block more (and some draws). -/
def moreW (w : World) (o : Obj) (d : Nat) : World := { w with heap := w.heap.push o, drawn := w.drawn + d }

theorem GW.more {g : GM} {w : World} (hg : GW g S w0 w) {n r e' : Nat} (_hf : g n = none) (o : Obj) (d : Nat) : GW (g.ext n ⟨w.heap.size, r, e'⟩) S w0 (moreW w o d) := by
  have hsz : (moreW w o d).heap.size = w.heap.size + 1 := by simp [moreW]
  refine ⟨fun l b h => ?_, ?_⟩
  · rw [hsz]
    unfold GM.ext at h
    by_cases e : l = n
    · rw [if_pos e] at h; injection h with h; subst h
      show w.heap.size < _
      omega
    · rw [if_neg e] at h
      have := hg.own l b h
      omega
  · refine ⟨hg.fr.os, hg.fr.tape, hg.fr.output, by rw [hsz]; have := hg.fr.size; omega, fun k hk hs => ?_⟩
    have h1 := hg.fr.block k hk hs
    have h2 : k < w.heap.size := Nat.lt_of_lt_of_le hk hg.fr.size
    show (w.heap.push o)[k]? = _
    rw [push_get w o k h2]; exact h1

/-- An operation that makes one block. -/
theorem exec_new {o : Oper} {rd : List Nat} {av : AV} {chs : List Ch} {mk : Nat} (hmk : isExt mk = false)
    (h : ∀ (g : GM) (a : Act) (w : World), (∀ x ∈ o.op.operands, (opv ts x).rel g (a.eval x)) → (∀ l ∈ rd, ∀ b k, g l = some b → mem[l]? = some k → BlkRel S w0 g w b k) → GW g S w0 w → g mem.length = none →
      ∃ (v : Value) (cs : Array Value) (t : TypeId) (fz : Nat × Nat) (d : Nat), (execOp a.eval o).run P w = .ok (.value v) (moreW w (.cells cs t fz) d) ∧ av.rel (g.ext mem.length ⟨w.heap.size, cs.size, emk mk⟩) v ∧ (∃ us rest, cs.toList = us ++ rest ∧ chsRel (g.ext mem.length ⟨w.heap.size, cs.size, emk mk⟩) chs us) ∧
        ∀ off, off < cs.size → ¬ (fz.1 ≤ off ∧ off < fz.2)) : Exec P S w0 o ts mem rd av ⟨[(chs, mk)], []⟩ := by
  intro g a w hx hrd hg hf _ next Q hn
  have hf0 : g mem.length = none := hf 0 (by simp)
  obtain ⟨v, cs, t, fz, d, h1, h2, ⟨us, rest, h3a, h3⟩, h4⟩ := h g a w hx hrd hg hf0
  unfold Oper.wp
  rw [h1]
  refine hn v _ _ h2 ⟨GM.ext_le hf0, hg.more hf0 _ _, fun l hl hl' => ?_, ?_, fun b hb _ => ?_, fun i k hi b hb => ?_, fun l c h => by simp [wrFind] at h, fun l c h => by simp at h, fun i b hb hn => ?_, fun i j b b' h1 h2 h3 h4 hbb => ?_⟩
  · unfold GM.ext at hl
    by_cases e : l = mem.length
    · subst e; simp
    · rw [if_neg e] at hl; exact absurd hl' hl
  · show w.heap.size ≤ (w.heap.push _).size
    simp
  · exact push_get w _ b hb
  · cases i with
    | succ i => simp at hi
    | zero =>
      simp only [List.getElem?_cons_zero, Option.some.injEq] at hi
      subst hi
      rw [Nat.add_zero, GM.ext_same] at hb
      injection hb with hb
      subst hb
      refine ⟨⟨fun h => (by rw [hmk] at h; cases h), fun h => absurd (.inr hg.fr.size) h⟩, .inr ⟨cs, t, fz, us, rest, by show (w.heap.push _)[w.heap.size]? = _; simp, ⟨rfl, rfl⟩, h3a, h3, fun _ => h4⟩⟩
  · unfold GM.ext at hb
    by_cases e : mem.length + i = mem.length
    · rw [if_pos e] at hb; injection hb with hb; subst hb; exact .inl (Nat.le_refl _)
    · rw [if_neg e, hn] at hb; cases hb
  · unfold GM.ext at h3 h4
    by_cases e : mem.length + i = mem.length
    · by_cases e' : mem.length + j = mem.length
      · omega
      · rw [if_neg e', h2] at h4; cases h4
    · rw [if_neg e, h1] at h3; cases h3

theorem GW.put {g : GM} {w : World} (hg : GW g S w0 w) {l : Nat} {b : BR} (hl : g l = some b) (ho : S b.b ∨ w0.heap.size ≤ b.b) (o : Obj) : GW g S w0 (putB w b.b o) := by
  have hb := hg.own l b hl
  refine ⟨fun l' b' h => by rw [putB_size]; exact hg.own l' b' h, ⟨hg.fr.os, hg.fr.tape, hg.fr.output, by rw [putB_size]; exact hg.fr.size, fun k hk hs => ?_⟩⟩
  rw [putB_get _ _ _ _ hb, if_neg ?_]
  · exact hg.fr.block k hk hs
  · intro hk2
    rcases ho with h | h
    · exact hs (hk2 ▸ h)
    · omega

/-- An operation that writes into one own block. -/
theorem exec_write {o : Oper} {rd : List Nat} {l : Nat} {c' : List Ch}
    (h : ∀ (g : GM) (a : Act) (w : World), (∀ x ∈ o.op.operands, (opv ts x).rel g (a.eval x)) → (∀ l ∈ rd, ∀ b k, g l = some b → mem[l]? = some k → BlkRel S w0 g w b k) → GW g S w0 w →
      ∃ (b : BR) (k : Blk) (cs : Array Value) (ty : TypeId) (fz : Nat × Nat) (us rest : List Value), g l = some b ∧ mem[l]? = some k ∧ live k ∧ BlkRel S w0 g w b k ∧ (execOp a.eval o).run P w = .ok .skip (putB w b.b (.cells cs ty fz)) ∧ (cs.size = b.room ∧ b.e = emk k.2) ∧ cs.toList = us ++ rest ∧ chsRel g c' us ∧
        ∀ off, off < cs.size → ¬ (fz.1 ≤ off ∧ off < fz.2)) : Exec P S w0 o ts mem rd .top ⟨[], [(l, c')]⟩ := by
  intro g a w hx hrd hg _ _ next Q hn
  obtain ⟨b, k, cs, ty, fz, us, rest, h1, h2, hlive, hbr, h3, hroom, h3a, h4, h5⟩ := h g a w hx hrd hg
  have hb := hg.own l b h1
  have hown : S b.b ∨ w0.heap.size ≤ b.b := Classical.byContradiction fun hc => by have := hbr.1.2 hc; rw [hlive.2] at this; cases this
  unfold Oper.wp
  rw [h3]
  refine hn undef _ g (AV.top_rel _ _) ⟨GM.le_refl g, hg.put h1 hown _, fun l h h' => absurd h' h, by rw [putB_size]; exact Nat.le_refl _, fun b' hb' hne => ?_, fun i k h => by simp at h, fun l' c hw b' k' hb' hk' => ?_, fun l' c hm => ?_, fun i b' hb' hn' => (by rw [hn'] at hb'; cases hb'), fun i j b' b2 q1 q2 q3 q4 _ => (by rw [q1] at q3; cases q3)⟩
  · rw [putB_get _ _ _ _ hb, if_neg ?_]
    intro hbe
    exact hne l c' b (by simp) h1 hbe
  · simp only [wrFind] at hw
    split at hw
    · rename_i he
      have he := Nat.eq_of_beq_eq_true he
      subst he
      injection hw with hw; subst hw
      rw [h1] at hb'; injection hb' with hb'; subst hb'
      rw [h2] at hk'; injection hk' with hk'; subst hk'
      exact ⟨hbr.1, .inr ⟨cs, ty, fz, us, rest, by rw [putB_get _ _ _ _ hb, if_pos rfl], hroom, h3a, h4, fun _ => h5⟩⟩
    · cases hw
  · simp only [List.mem_cons, List.not_mem_nil, or_false, Prod.mk.injEq] at hm
    obtain ⟨rfl, rfl⟩ := hm
    exact ⟨k, h2, hlive⟩

/-! ### Words for arguments -/

/-- The cells of a value. -/
def chsOf : AV → Option (List Ch)
  | .b (.cv c) => match c.cellOk with
    | true => some [.cell c]
    | false => none
  | .b (.agg cs) => some cs
  | .tup _ => none

theorem one_cells {y : Value} (h : y.oneCell' = true) : y.cells = #[y] := by
  cases y <;> first | rfl | cases h

theorem chsOf_rel {g : GM} {av : AV} {y : Value} {cs : List Ch} (h : chsOf av = some cs) (hr : av.rel g y) : chsRel g cs y.cells.toList := by
  cases av with
  | tup xs => cases h
  | b x =>
    cases x with
    | agg c =>
      simp only [chsOf, Option.some.injEq] at h; subst h
      obtain ⟨a, rfl, h2⟩ := hr
      exact h2
    | cv c =>
      simp only [chsOf] at h
      split at h
      · rename_i hc
        injection h with h; subst h
        have h1 := CV.cellOk_rel hc hr
        rw [one_cells h1]
        exact ⟨[y], [], rfl, ⟨y, rfl, h1, hr⟩, rfl⟩
      · cases h

def zeroOf : TI → Option (List Ch)
  | .int k => some [.cell (.int k 0)]
  | .bool => some [.cell (.bool false)]
  | .str => some [.cell (.v (.string ByteArray.empty))]
  | .sc z => some [.cell z]
  | .arr _ _ _ z => some z
  | .st _ _ z => some z
  | .slice _ _ => some [.cell (.v (.slice none 0 0))]
  | .none => none

theorem has_zero (k : IntKind) : IntKind.has k 0 := by cases k <;> (unfold IntKind.has; decide)

theorem zeroOf_rel {t : Nat} {ti : TI} {z : List Ch} (hT : TyOk P t ti) (h : zeroOf ti = some z) : ∃ v, (∀ w, (zeroValue t).run P w = .ok v w) ∧ ∀ g, chsRel g z v.cells.toList := by
  cases ti with
  | int k =>
    simp only [zeroOf, Option.some.injEq] at h; subst h
    exact ⟨_, fun w => (run_zero' hT.1 w).1, fun g => ⟨[.int k 0], [], rfl, ⟨_, rfl, rfl, rfl, has_zero k⟩, rfl⟩⟩
  | bool =>
    simp only [zeroOf, Option.some.injEq] at h; subst h
    exact ⟨_, fun w => (run_zero' hT.1 w).1, fun g => ⟨[.bool false], [], rfl, ⟨_, rfl, rfl, rfl⟩, rfl⟩⟩
  | str =>
    simp only [zeroOf, Option.some.injEq] at h; subst h
    exact ⟨_, fun w => (run_zero' hT.1 w).1, fun g => ⟨[.string ByteArray.empty], [], rfl, ⟨_, rfl, rfl, rfl⟩, rfl⟩⟩
  | sc z' =>
    simp only [zeroOf, Option.some.injEq] at h; subst h
    obtain ⟨v, d, h1, _, _, h3, h4⟩ := hT
    refine ⟨v, fun w => (run_zero' h1 w).1, fun g => ?_⟩
    have := CV.cellOk_rel h3 (h4 g)
    rw [one_cells this]
    exact ⟨[v], [], rfl, ⟨v, rfl, this, h4 g⟩, rfl⟩
  | arr n e esz z' =>
    simp only [zeroOf, Option.some.injEq] at h; subst h
    obtain ⟨v, h1, _, _, _, h4⟩ := hT
    exact ⟨.agg v, fun w => (run_zero' h1 w).1, fun g => h4 g⟩
  | st fs sz z' =>
    simp only [zeroOf, Option.some.injEq] at h; subst h
    obtain ⟨v, F, h1, _, _, _, h4⟩ := hT
    exact ⟨.agg v, fun w => (run_zero' h1 w).1, fun g => h4 g⟩
  | slice e esz =>
    simp only [zeroOf, Option.some.injEq] at h; subst h
    exact ⟨_, fun w => (run_zero' hT.1 w).1, fun g => ⟨[.slice none 0 0], [], rfl, ⟨_, rfl, rfl, rfl⟩, rfl⟩⟩
  | none => cases h

/-! ### alloc, box -/

theorem exec_alloc {o : Oper} {t : TypeId} (ho : o.op = .alloc t) {ti : TI} (hT : TyOk P t ti) {z : List Ch} (hz : zeroOf ti = some z) : Exec P S w0 o ts mem [] (.b (.cv (.ptr mem.length 0 0))) ⟨[(z, 0)], []⟩ := by
  refine exec_new rfl fun g a w _ _ _ hf => ?_
  obtain ⟨v, h1, h2⟩ := zeroOf_rel hT hz
  refine ⟨.pointer (some ⟨w.heap.size, 0, none⟩), v.cells, t, (0, 0), 0, ?_, ⟨_, GM.ext_same _ _ _, rfl⟩, ⟨_, [], (List.append_nil _).symm, h2 _⟩, fun off _ => by simp⟩
  simp [execOp, ho, Instr.alloc, h1, newVar, newRow, moreW]

theorem exec_box {o : Oper} {t : TypeId} {x : Operand} (ho : o.op = .box t x) {cs : List Ch} (hc : chsOf (opv ts x) = some cs) : Exec P S w0 o ts mem [] (.b (.cv (.ptr mem.length 0 0))) ⟨[(cs, 0)], []⟩ := by
  refine exec_new rfl fun g a w hx _ _ hf => ?_
  have h1 := chsOf_rel hc (hx x (by simp [ho, Op.operands]))
  refine ⟨.pointer (some ⟨w.heap.size, 0, none⟩), (a.eval x).cells, t, (0, 0), 0, ?_, ⟨_, GM.ext_same _ _ _, rfl⟩, ⟨_, [], (List.append_nil _).symm, chsRel_mono (GM.ext_le hf) _ _ h1⟩, fun off _ => by simp⟩
  simp [execOp, ho, Instr.box, newVar, newRow, moreW]

/-! ### load -/

def szOf : TI → Option Nat
  | .arr n _ esz _ => some (n * esz)
  | .st _ sz _ => some sz
  | _ => none
def isSc : TI → Bool
  | .int _ => true
  | .bool => true
  | .str => true
  | .sc _ => true
  | .slice _ _ => true
  | _ => false

theorem ty_agg {t : Nat} {ti : TI} {sz : Nat} (hT : TyOk P t ti) (h : szOf ti = some sz) : ∃ d, P.underlying t = some d ∧ isAggD d = true ∧ (P.info? t).map (·.size) = some sz := by
  cases ti with
  | arr n e esz z =>
    simp only [szOf, Option.some.injEq] at h; subst h
    obtain ⟨v, h1, h2, _⟩ := hT
    exact ⟨_, h2, rfl, (run_zero' h1 default).2⟩
  | st fs sz z =>
    simp only [szOf, Option.some.injEq] at h; subst h
    obtain ⟨v, F, h1, h2, _⟩ := hT
    exact ⟨_, h2, rfl, (run_zero' h1 default).2⟩
  | _ => cases h
theorem ty_sc {t : Nat} {ti : TI} (hT : TyOk P t ti) (h : isSc ti = true) : ∃ d, P.underlying t = some d ∧ isAggD d = false ∧ (P.info? t).map (·.size) = some 1 := by
  cases ti with
  | int k => exact ⟨_, hT.2, rfl, (run_zero' hT.1 default).2⟩
  | bool => exact ⟨_, hT.2, rfl, (run_zero' hT.1 default).2⟩
  | str => exact ⟨_, hT.2, rfl, (run_zero' hT.1 default).2⟩
  | sc z => obtain ⟨v, d, h1, h2, h3, _⟩ := hT; exact ⟨d, h2, h3, (run_zero' h1 default).2⟩
  | slice e esz => exact ⟨_, hT.2.1, rfl, (run_zero' hT.1 default).2⟩
  | _ => cases h

/-- A load of a whole from an own block. -/
theorem exec_load_agg {o : Oper} {t : TypeId} {x : Operand} (ho : o.op = .load t x) {ti : TI} (hT : TyOk P t ti) {sz : Nat} (hsz : szOf ti = some sz) {l off : Nat} (hx0 : opv ts x = .b (.cv (.ptr l off 0)))
    {k : Blk} (hk : mem[l]? = some k) {r q : List Ch} (hr : dropCh k.1 off = some r) (hq : takeCh r sz = some q) (hq0 : q ≠ []) : Exec P S w0 o ts mem [l] (.b (.agg q)) noEff := by
  refine exec_read fun g a w hx hrd _ => ?_
  have h1 := hx x (by simp [ho, Op.operands])
  rw [hx0] at h1
  obtain ⟨b, hb, hv⟩ := h1
  obtain ⟨d, hu, hd, hs⟩ := ty_agg hT hsz
  obtain ⟨pre, e1, e2⟩ := dropCh_ok _ _ _ hr
  obtain ⟨post, e3, e4⟩ := takeCh_ok _ _ _ hq
  obtain ⟨cs, ty, fz, us0, rest, h2, _, h2a, h3, _⟩ := (hrd l (by simp) b k hb hk).2.resolve_left (by rw [e1, e3]; simp [hq0])
  rw [e1, e3] at h3
  obtain ⟨us, ws, e5, q1, q2⟩ := (chsRel_append _ _ _).1 h3
  obtain ⟨us', ws', rfl, q3, q4⟩ := (chsRel_append _ _ _).1 q2
  rw [e5, List.append_assoc, List.append_assoc] at h2a
  have l1 := chsRel_size _ _ q1
  have l2 := chsRel_size _ _ q3
  have hload := run_load_agg hu hd hs h2 (off := off) (vs := us') (fun j v hj => by
    rw [← Array.getElem?_toList, h2a, List.getElem?_append_right (by omega), List.getElem?_append_left (by
      have := (List.getElem?_eq_some_iff.1 hj).1; omega)]
    rw [show off + j - us.length = j by omega]; exact hj) (by omega)
  refine ⟨.agg us'.toArray, ?_, ⟨_, rfl, by simpa using q3⟩⟩
  simp only [Nat.add_zero] at hv
  simp only [execOp, ho, hv, Instr.loadAt, Instr.sureAddr, Sem.run_bind, Sem.run_pure, Result.andThen_ok, hload]

/-- A load of one cell from an own block. -/
theorem exec_load_one {o : Oper} {t : TypeId} {x : Operand} (ho : o.op = .load t x) {ti : TI} (hT : TyOk P t ti) (hsc : isSc ti = true) {l off i : Nat} (hx0 : opv ts x = .b (.cv (.ptr l off i)))
    {k : Blk} (hk : mem[l]? = some k) {c : Ch} {r : List Ch} (hr : dropCh k.1 off = some (c :: r)) {K : CV → Prop} (hK : c.at_ i K) : ∃ cv, Exec P S w0 o ts mem [l] (.b (.cv cv)) noEff ∧ K cv := by
  have hc : ∃ cv, K cv ∧ ∀ (g : GM) (vs : List Value), c.rel g vs → ∃ y, vs[i]? = some y ∧ cv.rel g y := by
    cases c with
    | cell c =>
      obtain ⟨hb, h⟩ := obl_ok hK
      have := Nat.eq_of_beq_eq_true hb; subst this
      exact ⟨c, h, fun g vs ⟨y, e, _, h2⟩ => ⟨y, by rw [e]; rfl, h2⟩⟩
    | num x =>
      obtain ⟨hb, h⟩ := obl_ok hK
      rw [Nat.blt_eq] at hb
      exact ⟨_, h, fun g vs hr => ⟨_, by rw [hr.2]; exact limbs_get x i hb, ⟨rfl, limb_has i x⟩⟩⟩
    | vec n f =>
      obtain ⟨hb, h⟩ := obl_ok hK
      rw [Nat.blt_eq] at hb
      refine ⟨_, h, fun g vs hr => ?_⟩
      have hlt : i < vs.length := by rw [hr.1]; exact hb
      exact ⟨_, List.getElem?_eq_getElem hlt, (hr.2 i _ (List.getElem?_eq_getElem hlt)).2⟩
  obtain ⟨cv, h1, h2⟩ := hc
  refine ⟨cv, exec_read fun g a w hx hrd _ => ?_, h1⟩
  have h3 := hx x (by simp [ho, Op.operands])
  rw [hx0] at h3
  obtain ⟨b, hb, hv⟩ := h3
  obtain ⟨d, hu, hd, hs⟩ := ty_sc hT hsc
  obtain ⟨pre, e1, e2⟩ := dropCh_ok _ _ _ hr
  obtain ⟨cs, ty, fz, us0, rest, h4, _, h4a, h5, _⟩ := (hrd l (by simp) b k hb hk).2.resolve_left (by rw [e1]; simp)
  rw [e1] at h5
  obtain ⟨us, ws, e5, q1, q2⟩ := (chsRel_append _ _ _).1 h5
  obtain ⟨us', ws', rfl, q3, q4⟩ := q2
  rw [e5, List.append_assoc, List.append_assoc] at h4a
  obtain ⟨y, hy, hyr⟩ := h2 g us' q3
  have l1 := chsRel_size _ _ q1
  refine ⟨y, ?_, hyr⟩
  have hcs : cs[off + i]? = some y := by
    rw [← Array.getElem?_toList, h4a, List.getElem?_append_right (by omega), List.getElem?_append_left (by
      have := (List.getElem?_eq_some_iff.1 hy).1; omega)]
    rw [show off + i - us.length = i by omega]; exact hy
  simp only [execOp, ho, hv, Instr.loadAt, Instr.sureAddr, Sem.run_bind, Sem.run_pure, Result.andThen_ok, run_load_one hu hd h4 hcs]

/-! ### store -/

def num4 (a b c d : Nat) : Nat := a + B64 * b + B64 ^ 2 * c + B64 ^ 3 * d
def setl (i v x : Nat) : Nat := match i with
  | 0 => num4 v (limb 1 x) (limb 2 x) (limb 3 x)
  | 1 => num4 (limb 0 x) v (limb 2 x) (limb 3 x)
  | 2 => num4 (limb 0 x) (limb 1 x) v (limb 3 x)
  | _ => num4 (limb 0 x) (limb 1 x) (limb 2 x) v
def fupd (f : Nat → CV) (i : Nat) (c : CV) : Nat → CV := fun j => match Nat.beq j i with
  | true => c
  | false => f j

theorem limb_num4 {a b c d : Nat} (ha : a < B64) (hb : b < B64) (hc : c < B64) (hd : d < B64) :
    limb 0 (num4 a b c d) = a ∧ limb 1 (num4 a b c d) = b ∧ limb 2 (num4 a b c d) = c ∧ limb 3 (num4 a b c d) = d ∧ num4 a b c d < BW := by
  unfold limb num4 B64 BW at *
  refine ⟨?_, ?_, ?_, ?_, ?_⟩ <;> omega

theorem num4_limb {x : Nat} (h : x < BW) : num4 (limb 0 x) (limb 1 x) (limb 2 x) (limb 3 x) = x := by
  unfold limb num4 B64 BW at *
  omega

/-- Cell i of a chunk is written. -/
def Ch.upd (c : Ch) (i : Nat) (v : CV) (K : Ch → Prop) : Prop := match c with
  | .cell _ => obl (Nat.beq i 0) (K (.cell v))
  | .num x => match v with
    | .int .u64 n => obl (Nat.blt i 4) (K (.num (setl i n.toNat x)))
    | _ => False
  | .vec n f => obl (Nat.blt i n) (K (.vec n (fupd f i v)))

theorem upd_ok {c : Ch} {i : Nat} {v : CV} {K : Ch → Prop} (h : c.upd i v K) (hv : v.cellOk = true) :
    ∃ c', K c' ∧ c'.size = c.size ∧ i < c.size ∧ ∀ g vs y, c.rel g vs → v.rel g y → c'.rel g (vs.set i y) := by
  cases c with
  | cell c0 =>
    obtain ⟨hb, h⟩ := obl_ok h
    have := Nat.eq_of_beq_eq_true hb; subst this
    refine ⟨_, h, rfl, Nat.lt_succ_self 0, fun g vs y hr hy => ?_⟩
    obtain ⟨y0, e, _⟩ := hr
    subst e
    exact ⟨y, rfl, CV.cellOk_rel hv hy, hy⟩
  | num x =>
    cases v with
    | int k n =>
      cases k with
      | u64 =>
        obtain ⟨hb, h⟩ := obl_ok h
        rw [Nat.blt_eq] at hb
        refine ⟨_, h, rfl, hb, fun g vs y hr hy => ?_⟩
        obtain ⟨hx, e⟩ := hr
        obtain ⟨e2, hn⟩ := hy
        subst e; subst e2
        have h0 : 0 ≤ n := hn.1
        have h1 : n.toNat < B64 := by
          have : n ≤ 18446744073709551615 := hn.2
          unfold B64; omega
        have hc : (Value.int .u64 n) = .int .u64 ((n.toNat : Nat) : Int) := by rw [Int.toNat_of_nonneg h0]
        rw [hc]
        have q := fun i => limb_lt i x
        match i, hb with
        | 0, _ => obtain ⟨a1, a2, a3, a4, a5⟩ := limb_num4 h1 (q 1) (q 2) (q 3); exact ⟨a5, by simp only [limbs, setl, a1, a2, a3, a4]; rfl⟩
        | 1, _ => obtain ⟨a1, a2, a3, a4, a5⟩ := limb_num4 (q 0) h1 (q 2) (q 3); exact ⟨a5, by simp only [limbs, setl, a1, a2, a3, a4]; rfl⟩
        | 2, _ => obtain ⟨a1, a2, a3, a4, a5⟩ := limb_num4 (q 0) (q 1) h1 (q 3); exact ⟨a5, by simp only [limbs, setl, a1, a2, a3, a4]; rfl⟩
        | 3, _ => obtain ⟨a1, a2, a3, a4, a5⟩ := limb_num4 (q 0) (q 1) (q 2) h1; exact ⟨a5, by simp only [limbs, setl, a1, a2, a3, a4]; rfl⟩
      | _ => exact h.elim
    | _ => exact h.elim
  | vec n f =>
    obtain ⟨hb, h⟩ := obl_ok h
    rw [Nat.blt_eq] at hb
    refine ⟨_, h, rfl, hb, fun g vs y hr hy => ⟨by rw [List.length_set]; exact hr.1, fun j z hz => ?_⟩⟩
    unfold fupd
    by_cases e : j = i
    · subst e
      rw [Nat.beq_refl]
      rw [List.getElem?_set] at hz
      simp only [if_true] at hz
      split at hz
      · injection hz with hz; subst hz; exact ⟨CV.cellOk_rel hv hy, hy⟩
      · cases hz
    · have : Nat.beq j i = false := by cases hb : Nat.beq j i with | false => rfl | true => exact absurd (Nat.eq_of_beq_eq_true hb) e
      rw [this]
      rw [List.getElem?_set_ne (Ne.symm e)] at hz
      exact hr.2 j z hz

theorem run_storeVar' {t n : Nat} (hs : (P.info? t).map (·.size) = some n) {w : World} {b off : Nat} {cs : Array Value} {ty : TypeId} {fz : Nat × Nat} (hb : w.heap[b]? = some (.cells cs ty fz)) {v : Value} (hl : v.cells.toList.length = n) (hn : n ≠ 0)
    (ho : off + n ≤ cs.size) (h1 : ∀ y ∈ v.cells.toList, y.oneCell' = true) (hz : ∀ o, o < cs.size → ¬ (fz.1 ≤ o ∧ o < fz.2)) :
    (storeVar t ⟨b, off, none⟩ v).run P w = .ok () (putB w b (.cells (setL cs off v.cells.toList) ty fz)) := by
  have h2 := run_storeCells' (P := P) v.cells.toList w cs off 0 hb (by omega) h1 hz
  unfold storeVar
  rw [Sem.run_bind, run_sizeOf' hs]
  simp only [Result.andThen_ok]
  have h3 : ¬ v.cells.size ≠ n := by rw [Array.length_toList] at hl; simp [hl]
  simp only [h3, if_false]
  rw [h2]
  cases hq : v.cells.toList with
  | nil => rw [hq] at hl; simp at hl; omega
  | cons y ys => rw [Nat.add_zero]

theorem replCh_ne {new cs c' : List Ch} {sz off : Nat} (h : replCh new sz cs off = some c') (hsz : sz ≠ 0) : cs ≠ [] := by
  rintro rfl
  unfold replCh at h
  split at h
  · split at h
    · rename_i hb; exact hsz (Nat.eq_of_beq_eq_true hb)
    · cases h
  · cases h
/-- A store of a whole into an own block. -/
theorem exec_store_agg {o : Oper} {t : TypeId} {x y : Operand} (ho : o.op = .store t x y) {ti : TI} (hT : TyOk P t ti) {sz : Nat} (hsz : szOf ti = some sz) (hsz0 : Nat.beq sz 0 = false) {l off : Nat} (hx0 : opv ts x = .b (.cv (.ptr l off 0)))
    {k : Blk} (hk : mem[l]? = some k) (hk2 : isExt k.2 = false) {new c' : List Ch} (hnew : chsOf (opv ts y) = some new) (hl : Nat.beq (chsSize new) sz = true) (hr : replCh new sz k.1 off = some c') : Exec P S w0 o ts mem [l] .top ⟨[], [(l, c')]⟩ := by
  refine exec_write fun g a w hx hrd _ => ?_
  have h1 := hx x (by simp [ho, Op.operands])
  rw [hx0] at h1
  obtain ⟨b, hb, hv⟩ := h1
  have hsz1 : sz ≠ 0 := by rintro rfl; cases hsz0
  have hne : k.1 ≠ [] := replCh_ne hr hsz1
  have hbr := hrd l (by simp) b k hb hk
  obtain ⟨cs, ty, fz, us0, rest, h2, hroom, h2a, h3, h4⟩ := hbr.2.resolve_left hne
  have h4 := h4 hk2
  obtain ⟨d, hu, hd, hs⟩ := ty_agg hT hsz
  have h5 := chsOf_rel hnew (hx y (by simp [ho, Op.operands]))
  have hl := Nat.eq_of_beq_eq_true hl
  have h6 := chsRel_size _ _ h5
  obtain ⟨h7, h8⟩ := chsRel_splice hr h3 h5 (by omega)
  have hlen : us0.length ≤ cs.size := by rw [← Array.length_toList, h2a]; simp
  have h9 := run_storeVar' hs h2 (v := a.eval y) (off := off) (by omega) hsz1 (by omega) (chsRel_one _ _ h5) h4
  refine ⟨b, k, setL cs off (a.eval y).cells.toList, ty, fz, _, rest, hb, hk, ⟨hne, hk2⟩, hbr, ?_, by rw [setL_size]; exact hroom, ?_, h8, fun o ho => h4 o (by rw [setL_size] at ho; exact ho)⟩
  · simp only [Nat.add_zero] at hv
    simp only [execOp, ho, hv, Instr.storeAt, Instr.sureAddr, Sem.run_bind, Sem.run_pure, Result.andThen_ok, h9]
  · rw [setL_toList _ _ _ (by omega), h6, hl, h2a, List.take_append_of_le_length (by omega), List.drop_append_of_le_length (by omega)]
    simp

/-- A store of one cell into an own block. -/
theorem exec_store_one {o : Oper} {t : TypeId} {x y : Operand} (ho : o.op = .store t x y) {ti : TI} (hT : TyOk P t ti) (hsc : isSc ti = true) {l off i : Nat} (hx0 : opv ts x = .b (.cv (.ptr l off i)))
    {k : Blk} (hk : mem[l]? = some k) (hk2 : isExt k.2 = false) {cv : CV} (hy0 : opv ts y = .b (.cv cv)) (hcv : cv.cellOk = true) {c : Ch} {r : List Ch} (hr : dropCh k.1 off = some (c :: r)) {K : Ch → Prop} (hK : c.upd i cv K) :
    ∃ c', K c' ∧ ∀ c2, replCh [c'] c.size k.1 off = some c2 → Exec P S w0 o ts mem [l] .top ⟨[], [(l, c2)]⟩ := by
  obtain ⟨c', h1, h2, h3, h4⟩ := upd_ok hK hcv
  refine ⟨c', h1, fun c2 hc2 => exec_write fun g a w hx hrd _ => ?_⟩
  have q1 := hx x (by simp [ho, Op.operands])
  rw [hx0] at q1
  obtain ⟨b, hb, hv⟩ := q1
  have hbr := hrd l (by simp) b k hb hk
  have hne : k.1 ≠ [] := by intro h0; rw [h0] at hr; unfold dropCh at hr; split at hr <;> simp at hr
  obtain ⟨cs, ty, fz, us0, rest, q2, hroom, q2a, q3, q4⟩ := hbr.2.resolve_left hne
  have q4 := q4 hk2
  obtain ⟨d, hu, hd, hs⟩ := ty_sc hT hsc
  have q5 := hx y (by simp [ho, Op.operands])
  rw [hy0] at q5
  have hone := CV.cellOk_rel hcv q5
  obtain ⟨pre, e1, e2⟩ := dropCh_ok _ _ _ hr
  have q3' := q3
  rw [e1] at q3'
  obtain ⟨us, ws, e5, p1, p2⟩ := (chsRel_append _ _ _).1 q3'
  obtain ⟨us', ws', rfl, p3, p4⟩ := p2
  have l1 := chsRel_size _ _ p1
  have l2 := Ch.rel_size p3
  have hlen0 : us0.length = us.length + (us'.length + ws'.length) := by rw [e5]; simp
  have hlen : us0.length ≤ cs.size := by rw [← Array.length_toList, q2a]; simp
  have h9 := run_storeVar' hs q2 (v := a.eval y) (off := off + i) (by rw [one_cells hone]; rfl) (by decide) (by omega) (by rw [one_cells hone]; simpa using hone) q4
  refine ⟨b, k, setL cs (off + i) (a.eval y).cells.toList, ty, fz, us0.take (off + i) ++ ([a.eval y] ++ us0.drop (off + i + 1)), rest, hb, hk, ⟨hne, hk2⟩, hbr, ?_, by rw [setL_size]; exact hroom, ?_, ?_, fun o ho => q4 o (by rw [setL_size] at ho; exact ho)⟩
  · simp only [execOp, ho, hv, Instr.storeAt, Instr.sureAddr, Sem.run_bind, Sem.run_pure, Result.andThen_ok, h9]
  · rw [one_cells hone, setL_toList _ _ _ (by simp; omega), q2a, List.take_append_of_le_length (by omega)]
    simp only [List.length_cons, List.length_nil]
    rw [List.drop_append_of_le_length (by omega)]
    simp
  · obtain ⟨_, h8⟩ := chsRel_splice hc2 q3 (us := us'.set i (a.eval y)) ⟨_, [], (List.append_nil _).symm, h4 g us' _ p3 q5, rfl⟩ (by rw [List.length_set]; exact l2)
    have : us0.take off ++ (us'.set i (a.eval y) ++ us0.drop (off + c.size)) = us0.take (off + i) ++ ([a.eval y] ++ us0.drop (off + i + 1)) := by
      rw [e5]
      have t1 : (us ++ (us' ++ ws')).take off = us := by rw [show off = us.length by omega]; simp
      have t2 : (us ++ (us' ++ ws')).drop (off + c.size) = ws' := by rw [show off + c.size = us.length + us'.length by omega]; simp [← List.append_assoc, ← List.length_append]
      rw [t1, t2]
      have t3 : (us ++ (us' ++ ws')).take (off + i) = us ++ us'.take i := by rw [show off + i = us.length + i by omega, List.take_length_add_append, List.take_append_of_le_length (by omega)]
      have t4 : (us ++ (us' ++ ws')).drop (off + i + 1) = us'.drop (i + 1) ++ ws' := by rw [show off + i + 1 = us.length + (i + 1) by omega, List.drop_length_add_append, List.drop_append_of_le_length (by omega)]
      rw [t3, t4, List.set_eq_take_append_cons_drop, if_pos (by omega)]
      simp
    rw [this] at h8
    exact h8

end Go.Ev
namespace Go.Ev
open Go

variable {P : Program} {S : Nat → Prop} {w0 : World} {ts : List AV} {mem : List Blk}

/-! ### Integers -/

theorem has_wrap (k : IntKind) (n : Int) : IntKind.has k (k.wrap n) := by
  unfold IntKind.has IntKind.wrap
  cases k <;> simp only [IntKind.min, IntKind.max, IntKind.bits, IntKind.signed, Bool.false_and, Bool.true_and, Bool.false_eq_true, if_false, if_true] <;> (try split) <;> (try simp only [ge_iff_le, decide_eq_true_eq] at *) <;> omega

theorem has_range (k : IntKind) : k.min ≤ 0 ∧ 0 ≤ k.max := has_zero k

theorem has_shr {k : IntKind} {x : Int} (h : IntKind.has k x) (n : Nat) : IntKind.has k (x.fdiv (2 ^ n)) := by
  have hp : (0 : Int) < 2 ^ n := by exact_mod_cast Nat.two_pow_pos n
  have hr := has_range k
  rw [Int.fdiv_eq_ediv_of_nonneg _ (Int.le_of_lt hp)]
  rcases Int.lt_or_le x 0 with h0 | h0
  · have h1 : x / 2 ^ n < 0 := Int.ediv_neg_of_neg_of_pos h0 hp
    have h2 : x ≤ x / 2 ^ n := by
      rw [Int.le_ediv_iff_mul_le hp]
      have h3 : (1 : Int) ≤ 2 ^ n := hp
      have := Int.mul_le_mul_of_nonpos_left (a := x) (Int.le_of_lt h0) h3
      rw [Int.mul_one] at this; exact this
    exact ⟨by have := h.1; omega, by omega⟩
  · have h1 : 0 ≤ x / 2 ^ n := Int.ediv_nonneg h0 (Int.le_of_lt hp)
    have h2 : x / 2 ^ n ≤ x := Int.ediv_le_self _ h0
    exact ⟨by omega, by have := h.2; omega⟩

theorem has_tmod {k : IntKind} {x : Int} (h : IntKind.has k x) (y : Int) : IntKind.has k (x.tmod y) := by
  have hr := has_range k
  rcases Int.lt_or_le x 0 with h0 | h0
  · have h1 : x.tmod y ≤ 0 := by
      have := Int.tmod_nonneg y (show 0 ≤ -x by omega)
      rw [Int.neg_tmod] at this; omega
    have h2 : x ≤ x.tmod y := by
      have h3 := Int.natAbs_tmod x y
      have h4 := Nat.mod_le x.natAbs y.natAbs
      omega
    exact ⟨by have := h.1; omega, by omega⟩
  · have h1 := Int.tmod_nonneg y h0
    have h2 : x.tmod y ≤ x := by
      have h3 := Int.natAbs_tmod x y
      have h4 := Nat.mod_le x.natAbs y.natAbs
      omega
    exact ⟨by omega, by have := h.2; omega⟩

def iltB : Int → Int → Bool
  | .ofNat a, .ofNat b => Nat.blt a b
  | .ofNat _, .negSucc _ => false
  | .negSucc _, .ofNat _ => true
  | .negSucc a, .negSucc b => Nat.blt b a
def ieqB : Int → Int → Bool
  | .ofNat a, .ofNat b => Nat.beq a b
  | .negSucc a, .negSucc b => Nat.beq a b
  | _, _ => false

theorem iltB_eq (x y : Int) : iltB x y = decide (x < y) := by
  rw [Bool.eq_iff_iff, decide_eq_true_eq]
  match x, y with
  | .ofNat a, .ofNat b => simp only [iltB, Nat.blt_eq, Int.ofNat_eq_natCast]; omega
  | .ofNat a, .negSucc b => simp only [iltB, Int.negSucc_eq, Int.ofNat_eq_natCast]; constructor <;> intro h <;> first | omega | contradiction
  | .negSucc a, .ofNat b => simp only [iltB, Int.negSucc_eq, Int.ofNat_eq_natCast]; constructor <;> intro h <;> first | omega | trivial
  | .negSucc a, .negSucc b => simp only [iltB, Nat.blt_eq, Int.negSucc_eq]; omega
theorem ieqB_eq (x y : Int) : ieqB x y = decide (x = y) := by
  rw [Bool.eq_iff_iff, decide_eq_true_eq]
  cases x <;> cases y <;> simp only [ieqB, Nat.beq_eq, Int.ofNat_eq_natCast] <;> (constructor <;> intro h <;> first | omega | contradiction)

def ibit (op : BinOp) (k : IntKind) (x y : Int) : Int :=
  k.wrap (Int.ofNat (match op with
    | .and => (BitVec.ofInt k.bits x &&& BitVec.ofInt k.bits y).toNat
    | .or => (BitVec.ofInt k.bits x ||| BitVec.ofInt k.bits y).toNat
    | .xor => (BitVec.ofInt k.bits x ^^^ BitVec.ofInt k.bits y).toNat
    | _ => (BitVec.ofInt k.bits x &&& ~~~(BitVec.ofInt k.bits y)).toNat))
def shN (k : IntKind) (y : Int) : Nat := match Nat.ble y.toNat k.bits with
  | true => y.toNat
  | false => k.bits

def kindB : IntKind → IntKind → Bool
  | .i8, .i8 => true | .i16, .i16 => true | .i32, .i32 => true | .i64, .i64 => true
  | .u8, .u8 => true | .u16, .u16 => true | .u32, .u32 => true | .u64, .u64 => true
  | _, _ => false
theorem kindB_eq {a b : IntKind} (h : kindB a b = true) : a = b := by cases a <;> cases b <;> first | rfl | cases h

/-- Two integers of one kind. -/
def intK (op : BinOp) (k : IntKind) (x y : Int) (K : CV → Prop) : Prop := match op with
  | .add => K (.int k (k.wrap (x + y)))
  | .sub => K (.int k (k.wrap (x - y)))
  | .mul => K (.int k (k.wrap (x * y)))
  | .quo => obl (!(ieqB y 0)) (K (.int k (k.wrap (x.tdiv y))))
  | .rem => obl (!(ieqB y 0)) (K (.int k (x.tmod y)))
  | .and => K (.int k (ibit .and k x y))
  | .or => K (.int k (ibit .or k x y))
  | .xor => K (.int k (ibit .xor k x y))
  | .andNot => K (.int k (ibit .andNot k x y))
  | .eql => K (.bool (ieqB x y))
  | .neq => K (.bool (!(ieqB x y)))
  | .lss => K (.bool (iltB x y))
  | .leq => K (.bool (!(iltB y x)))
  | .gtr => K (.bool (iltB y x))
  | .geq => K (.bool (!(iltB x y)))
  | _ => False

theorem min_shN (k : IntKind) (y : Int) : min y.toNat k.bits = shN k y := by
  unfold shN
  cases h : Nat.ble y.toNat k.bits with
  | true => exact Nat.min_eq_left (Nat.le_of_ble_eq_true h)
  | false =>
    refine Nat.min_eq_right ?_
    rcases Nat.lt_or_ge k.bits y.toNat with h1 | h1
    · exact Nat.le_of_lt h1
    · rw [Nat.ble_eq_true_of_le h1] at h; cases h

theorem beq_ieqB (x y : Int) : (x == y) = ieqB x y := by rw [ieqB_eq, Bool.eq_iff_iff]; simp
theorem bne_ieqB (x y : Int) : (x != y) = !(ieqB x y) := by rw [bne, beq_ieqB]
theorem le_iltB (x y : Int) : decide (x ≤ y) = !(iltB y x) := by rw [iltB_eq, Bool.eq_iff_iff]; simp

theorem int_ok {op : BinOp} {k : IntKind} {x y : Int} {K : CV → Prop} (h : intK op k x y K) (t : TypeId) : ∃ cv, K cv ∧ (IntKind.has k x → ∀ w, ∃ v, (binOp op t (.int k x) (.int k y)).run P w = .ok v w ∧ ∀ g, cv.rel g v) := by
  cases op with
  | add => exact ⟨_, h, fun _ w => ⟨.int k (k.wrap (x + y)), by simp [binOp, Op.intArith], fun g => ⟨rfl, has_wrap k _⟩⟩⟩
  | sub => exact ⟨_, h, fun _ w => ⟨.int k (k.wrap (x - y)), by simp [binOp, Op.intArith], fun g => ⟨rfl, has_wrap k _⟩⟩⟩
  | mul => exact ⟨_, h, fun _ w => ⟨.int k (k.wrap (x * y)), by simp [binOp, Op.intArith], fun g => ⟨rfl, has_wrap k _⟩⟩⟩
  | quo =>
    obtain ⟨hb, h⟩ := obl_ok h
    have hy : y ≠ 0 := by rw [ieqB_eq] at hb; simpa using hb
    exact ⟨_, h, fun _ w => ⟨.int k (k.wrap (x.tdiv y)), by simp [binOp, Op.intDiv, hy], fun g => ⟨rfl, has_wrap k _⟩⟩⟩
  | rem =>
    obtain ⟨hb, h⟩ := obl_ok h
    have hy : y ≠ 0 := by rw [ieqB_eq] at hb; simpa using hb
    exact ⟨_, h, fun hx w => ⟨.int k (x.tmod y), by simp [binOp, Op.intDiv, hy], fun g => ⟨rfl, has_tmod hx _⟩⟩⟩
  | and => exact ⟨_, h, fun _ w => ⟨.int k (ibit .and k x y), by simp [binOp, Op.intBits, ibit], fun g => ⟨rfl, has_wrap k _⟩⟩⟩
  | or => exact ⟨_, h, fun _ w => ⟨.int k (ibit .or k x y), by simp [binOp, Op.intBits, ibit], fun g => ⟨rfl, has_wrap k _⟩⟩⟩
  | xor => exact ⟨_, h, fun _ w => ⟨.int k (ibit .xor k x y), by simp [binOp, Op.intBits, ibit], fun g => ⟨rfl, has_wrap k _⟩⟩⟩
  | andNot => exact ⟨_, h, fun _ w => ⟨.int k (ibit .andNot k x y), by simp [binOp, Op.intBits, ibit], fun g => ⟨rfl, has_wrap k _⟩⟩⟩
  | eql => exact ⟨_, h, fun _ w => ⟨.bool (ieqB x y), by simp [binOp, Op.intCmp, beq_ieqB], fun g => rfl⟩⟩
  | neq => exact ⟨_, h, fun _ w => ⟨.bool (!(ieqB x y)), by simp [binOp, Op.intCmp, bne_ieqB], fun g => rfl⟩⟩
  | lss => exact ⟨_, h, fun _ w => ⟨.bool (iltB x y), by simp [binOp, Op.intCmp, iltB_eq], fun g => rfl⟩⟩
  | leq => exact ⟨_, h, fun _ w => ⟨.bool (!(iltB y x)), by simp [binOp, Op.intCmp, ← le_iltB], fun g => rfl⟩⟩
  | gtr => exact ⟨_, h, fun _ w => ⟨.bool (iltB y x), by simp [binOp, Op.intCmp, iltB_eq], fun g => rfl⟩⟩
  | geq => exact ⟨_, h, fun _ w => ⟨.bool (!(iltB x y)), by simp [binOp, Op.intCmp, ← le_iltB], fun g => rfl⟩⟩
  | _ => exact h.elim

def shK (op : BinOp) (k : IntKind) (x y : Int) (K : CV → Prop) : Prop := obl (!(iltB y 0)) (match op with
  | .shl => K (.int k (k.wrap (x * 2 ^ shN k y)))
  | .shr => K (.int k (x.fdiv (2 ^ shN k y)))
  | _ => False)

theorem sh_ok {op : BinOp} {k k' : IntKind} {x y : Int} {K : CV → Prop} (h : shK op k x y K) (t : TypeId) : ∃ cv, K cv ∧ (IntKind.has k x → ∀ w, ∃ v, (binOp op t (.int k x) (.int k' y)).run P w = .ok v w ∧ ∀ g, cv.rel g v) := by
  obtain ⟨hb, h⟩ := obl_ok h
  have hy : ¬ y < 0 := by rw [iltB_eq] at hb; simpa using hb
  cases op with
  | shl => exact ⟨_, h, fun _ w => ⟨.int k (k.wrap (x * 2 ^ shN k y)), by simp [binOp, Op.shift, hy, min_shN], fun g => ⟨rfl, has_wrap k _⟩⟩⟩
  | shr => exact ⟨_, h, fun hx w => ⟨.int k (x.fdiv (2 ^ shN k y)), by simp [binOp, Op.shift, hy, min_shN], fun g => ⟨rfl, has_shr hx _⟩⟩⟩
  | _ => exact h.elim

/-! ### Equal values of several cells -/

def cellsEq : List Value → List Value → Bool
  | .int _ a :: xs, .int _ b :: ys => ieqB a b && cellsEq xs ys
  | [], [] => true
  | _, _ => false
/-- Words, all of one kind. -/
def allU64 : List Value → Prop
  | [] => True
  | .int .u64 _ :: xs => allU64 xs
  | _ => False

def EqOk (P : Program) (t : TypeId) : Prop := P.eqGuardType P.depth t = false ∧ ∀ (xs ys : List Value), allU64 xs → allU64 ys → (P.info? t).map (·.size) = some xs.length → xs.length = ys.length →
  ∀ d w, (Op.equalIn (d + 4) t (.agg xs.toArray) (.agg ys.toArray)).run P w = .ok (cellsEq xs ys) w

def eqCh : List Ch → List Ch → Option Bool
  | [], [] => some true
  | [.num x], [.num y] => some (Nat.beq x y)
  | .num x :: r, .num y :: r' => match eqCh r r' with
    | some b => some (Nat.beq x y && b)
    | none => none
  | _, _ => none

theorem allU64_limbs (x : Nat) (vs : List Value) (h : allU64 vs) : allU64 (limbs x ++ vs) := h
theorem limbs_inj {x y : Nat} (hx : x < BW) (hy : y < BW) : (ieqB (limb 0 x) (limb 0 y) && (ieqB (limb 1 x) (limb 1 y) && (ieqB (limb 2 x) (limb 2 y) && ieqB (limb 3 x) (limb 3 y)))) = Nat.beq x y := by
  simp only [ieqB_eq]
  rw [Bool.eq_iff_iff]
  simp only [Bool.and_eq_true, decide_eq_true_eq, Nat.beq_eq]
  constructor
  · rintro ⟨h0, h1, h2, h3⟩
    rw [← num4_limb hx, ← num4_limb hy, Int.ofNat.inj h0, Int.ofNat.inj h1, Int.ofNat.inj h2, Int.ofNat.inj h3]
  · rintro rfl; exact ⟨rfl, rfl, rfl, rfl⟩
theorem cellsEq_limbs {x y : Nat} (hx : x < BW) (hy : y < BW) (xs ys : List Value) : cellsEq (limbs x ++ xs) (limbs y ++ ys) = (Nat.beq x y && cellsEq xs ys) := by
  rw [← limbs_inj hx hy]
  simp only [limbs, List.cons_append, List.nil_append, cellsEq, Bool.and_assoc]

theorem eqCh_ok {g : GM} : ∀ (xs ys : List Ch) (b : Bool) (us vs : List Value), eqCh xs ys = some b → chsRel g xs us → chsRel g ys vs → allU64 us ∧ allU64 vs ∧ us.length = vs.length ∧ cellsEq us vs = b
  | [], [], b, us, vs, h, h1, h2 => by
    rw [show us = [] from h1, show vs = [] from h2]
    simp only [eqCh, Option.some.injEq] at h; subst h
    exact ⟨trivial, trivial, rfl, rfl⟩
  | [.num x], [.num y], b, us, vs, h, ⟨u1, u2, e1, ⟨hx, e2⟩, e3⟩, ⟨v1, v2, f1, ⟨hy, f2⟩, f3⟩ => by
    simp only [eqCh, Option.some.injEq] at h; subst h
    rw [e1, f1, e2, f2, show u2 = [] from e3, show v2 = [] from f3]
    exact ⟨trivial, trivial, rfl, by rw [cellsEq_limbs hx hy]; simp [cellsEq]⟩
  | .num x :: r, .num y :: r', b, us, vs, h, ⟨u1, u2, e1, ⟨hx, e2⟩, e3⟩, ⟨v1, v2, f1, ⟨hy, f2⟩, f3⟩ => by
    have key : ∀ b', eqCh r r' = some b' → b = (Nat.beq x y && b') → allU64 us ∧ allU64 vs ∧ us.length = vs.length ∧ cellsEq us vs = b := fun b' hb he => by
      obtain ⟨q1, q2, q3, q4⟩ := eqCh_ok r r' b' u2 v2 hb e3 f3
      rw [e1, f1, e2, f2]
      exact ⟨q1, q2, by simp [limbs, q3], by rw [cellsEq_limbs hx hy, q4, he]⟩
    cases r with
    | nil =>
      cases r' with
      | nil => simp only [eqCh, Option.some.injEq] at h; exact key true rfl (by rw [← h]; simp)
      | cons d r' => cases d <;> simp [eqCh] at h
    | cons c r =>
      simp only [eqCh] at h
      split at h
      · rename_i b' hb; injection h with h; exact key b' hb h.symm
      · cases h
  | [], _ :: _, _, _, _, h, _, _ => by simp [eqCh] at h
  | .num _ :: _, [], _, _, _, h, _, _ => by simp [eqCh] at h
  | .num _ :: _, .cell _ :: _, _, _, _, h, _, _ => by simp [eqCh] at h
  | .num _ :: _, .vec _ _ :: _, _, _, _, h, _, _ => by simp [eqCh] at h
  | .cell _ :: _, _, _, _, _, h, _, _ => by simp [eqCh] at h
  | .vec _ _ :: _, _, _, _, _, h, _, _ => by simp [eqCh] at h

/-! ### Calls -/

def fvChs : List (Nat ⊕ Value) → List Ch
  | [] => []
  | .inl x :: r => .num x :: fvChs r
  | .inr v :: r => .cell (.v v) :: fvChs r
theorem fvChs_rel {g : GM} : ∀ (l : List (Nat ⊕ Value)), fvOk l → chsRel g (fvChs l) (fvCells l)
  | [], _ => rfl
  | .inl x :: r, ⟨h1, h2⟩ => ⟨limbs x, fvCells r, rfl, ⟨h1, rfl⟩, fvChs_rel r h2⟩
  | .inr v :: r, ⟨h1, h2⟩ => ⟨[v], fvCells r, rfl, ⟨v, rfl, h1, rfl⟩, fvChs_rel r h2⟩

def abList : List AV → Option (List AB)
  | [] => some []
  | .b x :: r => match abList r with
    | some l => some (x :: l)
    | none => none
  | .tup _ :: _ => none
def firstAB : List (List (Nat ⊕ Value)) → List AB → List AB
  | [], y => y
  | x :: r, y => .agg (fvChs x) :: firstAB r y
def capsAB : List Nat → List AB
  | [] => []
  | l :: r => .cv (.ptr l 0 0) :: capsAB r
def appAB : List AB → List AB → List AB
  | [], y => y
  | x :: r, y => x :: appAB r y

theorem absRel_append {g : GM} : ∀ (xs ys : List AB) (us vs : List Value), absRel g xs us → absRel g ys vs → absRel g (appAB xs ys) (us ++ vs)
  | [], _, us, _, h1, h2 => by rw [show us = [] from h1]; exact h2
  | _ :: xs, ys, _, vs, ⟨y, us, e, h1, h2⟩, h3 => by subst e; exact ⟨y, us ++ vs, rfl, h1, absRel_append xs ys us vs h2 h3⟩
theorem capsAB_rel {g : GM} : ∀ (l : List Nat) (vs : List Value), capsRel g l vs → absRel g (capsAB l) vs
  | [], _, h => h
  | _ :: r, _, ⟨b, ws, h1, e, h2⟩ => by subst e; exact ⟨_, ws, rfl, ⟨b, h1, rfl⟩, capsAB_rel r ws h2⟩
theorem firstAB_rel {g : GM} : ∀ (l : List (List (Nat ⊕ Value))) (ys : List AB) (vs : List Value), fvsOk l → absRel g ys vs → absRel g (firstAB l ys) (l.map (fun x => Value.agg (fvCells x).toArray) ++ vs)
  | [], _, _, _, h => h
  | x :: r, ys, vs, ⟨h1, h2⟩, h3 => ⟨_, _, rfl, ⟨_, rfl, by simpa using fvChs_rel x h1⟩, firstAB_rel r ys vs h2 h3⟩
theorem abList_rel {g : GM} : ∀ (l : List AV) (xs : List AB) (vs : List Value), abList l = some xs → (∀ (i : Nat) (a : AV) (y : Value), l[i]? = some a → vs[i]? = some y → a.rel g y) → l.length = vs.length → absRel g xs vs
  | [], xs, vs, h, _, hl => by
    simp only [abList, Option.some.injEq] at h; subst h
    cases vs with
    | nil => rfl
    | cons => simp at hl
  | .b x :: r, xs, vs, h, hr, hl => by
    simp only [abList] at h
    split at h
    · rename_i l hl'
      injection h with h; subst h
      cases vs with
      | nil => simp at hl
      | cons y ys =>
        refine ⟨y, ys, rfl, hr 0 _ y rfl rfl, abList_rel r l ys hl' (fun i a z h1 h2 => hr (i + 1) a z (by simpa using h1) (by simpa using h2)) (by simpa using hl)⟩
    · cases h
  | .tup _ :: _, _, _, h, _, _ => by simp [abList] at h

/-- What a call leaves. -/
def CallOk (P : Program) (S : Nat → Prop) (w0 : World) (f : FuncId) (args : List AB) (mem : List Blk) (rd : List Nat) (r : AV) (e : Eff) : Prop :=
  ∀ (g : GM) (w : World) (vs : List Value), absRel g args vs → (∀ l ∈ rd, ∀ b k, g l = some b → mem[l]? = some k → BlkRel S w0 g w b k) → GW g S w0 w → (∀ i, i < e.news.length → g (mem.length + i) = none) → InjOn g mem rd →
    (∃ v w' g', (callFunc f vs.toArray).run P w = .ok (.value v) w' ∧ r.rel g' v ∧ Post S w0 mem e g g' w w') ∨
    ((callFunc f vs.toArray).run P w = .ok (.enter f vs.toArray) w ∧ Calls P f vs.toArray w fun en w' => ∃ v g', en = .returned v ∧ r.rel g' v ∧ Post S w0 mem e g g' w w')

theorem exec_call {o : Oper} {c : Call} {fx : Operand} (ho : o.op = .call c) (hc : c.callee = .value fx) {f : FuncId} {fs : List (List (Nat ⊕ Value))} {cs : List Nat} (hf : opv ts fx = .b (.cv (.fn f fs cs)))
    {xs : List AB} (hxs : abList (c.args.toList.map (opv ts)) = some xs) {rd : List Nat} {r : AV} {e : Eff} (h : CallOk P S w0 f (firstAB fs (appAB xs (capsAB cs))) mem rd r e) : Exec P S w0 o ts mem rd r e := by
  intro g a w hx hrd hg hfr hij next Q hn
  have h1 := hx fx (by simp [ho, Op.operands, Call.operands, hc])
  rw [hf] at h1
  obtain ⟨h2, ws, h3, h4⟩ := h1
  have h5 : absRel g xs (c.args.toList.map a.eval) := abList_rel _ xs _ hxs (fun i av y q1 q2 => by
    simp only [List.getElem?_map, Option.map_eq_some_iff] at q1 q2
    obtain ⟨x, q3, rfl⟩ := q1
    obtain ⟨x', q4, rfl⟩ := q2
    rw [q3] at q4; injection q4 with q4; subst q4
    refine hx x ?_
    simp only [ho, Op.operands, Call.operands, hc]
    exact Array.mem_append.2 (.inr (Array.mem_toList_iff.1 (List.mem_of_getElem? q3)))) (by simp)
  have h6 := firstAB_rel fs _ _ h2 (absRel_append xs _ _ _ h5 (capsAB_rel cs _ h3))
  have hrun : (execOp a.eval o).run P w = (callFunc f (fs.map (fun x => Value.agg (fvCells x).toArray) ++ (c.args.toList.map a.eval ++ ws.toList)).toArray).run P w := by
    have he : ((fs.map (fun x => Value.agg (fvCells x).toArray)).toArray ++ c.args.map a.eval) ++ ws = (fs.map (fun x => Value.agg (fvCells x).toArray) ++ (c.args.toList.map a.eval ++ ws.toList)).toArray := by
      apply Array.toList_inj.1; simp
    simp [execOp, ho, resolve, hc, h4, Deferred.ofValue, invoke, he]
  unfold Oper.wp
  rw [hrun]
  rcases h g w _ h6 hrd hg hfr hij with ⟨v, w', g', q1, q2, q3⟩ | ⟨q1, q2⟩
  · rw [q1]
    exact hn v w' g' q2 q3
  · rw [q1]
    exact q2.mono fun en w' ⟨v, g', he, hr, hp⟩ => by subst he; exact hn v w' g' hr hp

/-- A call of a function that only reckons, and may make memory of its own. -/
def PureOk (P : Program) (f : FuncId) (args : List AB) (r : AV) : Prop :=
  ∀ (g : GM) (w : World) (vs : List Value), absRel g args vs →
    (∃ v, (callFunc f vs.toArray).run P w = .ok (.value v) w ∧ r.rel g v) ∨
    ((callFunc f vs.toArray).run P w = .ok (.enter f vs.toArray) w ∧ Calls P f vs.toArray w fun en w' => ∃ v, en = .returned v ∧ r.rel g v ∧ Fr (fun _ => False) w w')

theorem Post.pure {g : GM} {w w' : World} (hg : GW g S w0 w) (h : Fr (fun _ => False) w w') : Post S w0 mem noEff g g w w' :=
  ⟨GM.le_refl g, ⟨fun l b hl => Nat.lt_of_lt_of_le (hg.own l b hl) h.size,
    ⟨h.os.trans hg.fr.os, h.tape.trans hg.fr.tape, h.output.trans hg.fr.output, Nat.le_trans hg.fr.size h.size, fun k hk hs => (h.block k (Nat.lt_of_lt_of_le hk hg.fr.size) (fun h => h)).trans (hg.fr.block k hk hs)⟩⟩,
    fun l h h' => absurd h' h, h.size, fun b hb _ => h.block b hb (fun h => h), fun i k h => by simp [noEff] at h, fun l c h => by simp [noEff, wrFind] at h, fun l c h => by simp [noEff] at h, fun i b h h' => (by rw [h'] at h; cases h), fun i j b b2 q1 q2 q3 q4 _ => (by rw [q1] at q3; cases q3)⟩

theorem CallOk.of_pure {f : FuncId} {args : List AB} {r : AV} (h : PureOk P f args r) : CallOk P S w0 f args mem [] r noEff := by
  intro g w vs hv _ hg _ _
  rcases h g w vs hv with ⟨v, h1, h2⟩ | ⟨h1, h2⟩
  · exact .inl ⟨v, w, g, h1, h2, Post.same hg⟩
  · exact .inr ⟨h1, h2.mono fun en w' ⟨v, e, hr, hf⟩ => ⟨v, g, e, hr, Post.pure hg hf⟩⟩

end Go.Ev
namespace Go.Ev
open Go

abbrev OK3 := AV → Eff → List Nat → Prop

/-- What the evaluator is told of the program: its types, which of them are compared word by word, and what is known of functions. -/
structure Cx where
  T : Nat → TI
  eq : Nat → Bool
  O : FuncId → List AB → List Blk → Option (Prop × AV × Eff × List Nat)

structure CxOk (P : Program) (C : Cx) : Prop where
  ty : ∀ t, TyOk P t (C.T t)
  eq : ∀ t, C.eq t = true → EqOk P t
  O : ∀ f args mem p r e rd, C.O f args mem = some (p, r, e, rd) → p → ∀ S w0, CallOk P S w0 f args mem rd r e
  mixed : P.follows .mixedOrders = true

section
variable (P : Program) (S : Nat → Prop) (w0 : World) (C : Cx) (o : Oper) (ts : List AV) (mem : List Blk) (K : OK3)

/-- What the evaluator has no rule for: whoever calls it says what the operation leaves. -/
def byHand : Prop := ∃ av e rd, Exec P S w0 o ts mem rd av e ∧ K av e rd

def pickK (t : Bool) (A B : AV) (K : AV → Prop) : Prop := match A, B with
  | .b (.cv (.bool x)), .b (.cv (.bool y)) => K (.b (.cv (.bool (cond t x y))))
  | _, _ => match t with
    | true => K A
    | false => K B

def loadK (t : TypeId) (x : Operand) : Prop := match opv ts x with
  | .b (.cv (.ptr l off i)) => match bnth mem l with
    | some k => match szOf (C.T t) with
      | some sz => match Nat.beq i 0 with
        | true => match dropCh k.1 off with
          | some r => match takeCh r sz with
            | some (c :: q) => K (.b (.agg (c :: q))) noEff [l]
            | _ => byHand P S w0 o ts mem K
          | none => byHand P S w0 o ts mem K
        | false => byHand P S w0 o ts mem K
      | none => match isSc (C.T t) with
        | true => match dropCh k.1 off with
          | some (c :: _) => c.at_ i fun cv => K (.b (.cv cv)) noEff [l]
          | _ => byHand P S w0 o ts mem K
        | false => byHand P S w0 o ts mem K
    | none => byHand P S w0 o ts mem K
  | _ => byHand P S w0 o ts mem K

def storeK (t : TypeId) (x y : Operand) : Prop := match opv ts x with
  | .b (.cv (.ptr l off i)) => match bnth mem l with
    | some k => match isExt k.2 with
     | true => False
     | false => match szOf (C.T t) with
      | some sz => match Nat.beq i 0, Nat.beq sz 0, chsOf (opv ts y) with
        | true, false, some new => match Nat.beq (chsSize new) sz, replCh new sz k.1 off with
          | true, some c' => K .top ⟨[], [(l, c')]⟩ [l]
          | _, _ => byHand P S w0 o ts mem K
        | _, _, _ => byHand P S w0 o ts mem K
      | none => match isSc (C.T t), opv ts y, dropCh k.1 off with
        | true, .b (.cv cv), some (c :: _) => match cv.cellOk with
          | true => c.upd i cv fun c' => match replCh [c'] c.size k.1 off with
            | some c2 => K .top ⟨[], [(l, c2)]⟩ [l]
            | none => False
          | false => byHand P S w0 o ts mem K
        | _, _, _ => byHand P S w0 o ts mem K
    | none => byHand P S w0 o ts mem K
  | _ => byHand P S w0 o ts mem K

def fld : List (Nat × Nat) → Nat → Option (Nat × Nat)
  | [], _ => none
  | p :: _, 0 => some p
  | _ :: r, n + 1 => fld r n

def nrmL : List Ch → Nat → Nat → (Nat → Nat → Prop) → Prop
  | c :: c' :: r, off, i, K => match Nat.blt i c.size with
    | true => K off i
    | false => nrmL (c' :: r) (off + c.size) (i - c.size) K
  | _, off, i, K => K off i
def nrm (mem : List Blk) (l off i : Nat) (K : Nat → Nat → Prop) : Prop := match bnth mem l with
  | some k => match dropCh k.1 off with
    | some r => nrmL r off i K
    | none => K off i
  | none => K off i
/-- Does a row of single cells begin there? -/
def vecAt (mem : List Blk) (l off : Nat) : Bool := match bnth mem l with
  | some k => match dropCh k.1 off with
    | some (.vec _ _ :: _) => true
    | _ => false
  | none => false
def posAt (mem : List Blk) (l off i esz j : Nat) (K : Nat → Nat → Prop) : Prop := match Nat.beq esz 1 with
  | true => nrm mem l off (i + j) K
  | false => match vecAt mem l off with
    | true => nrm mem l off (i + j * esz) K
    | false => match Nat.beq i 0 with
      | true => K (off + j * esz) 0
      | false => False
/-- The place d cells further on. -/
def fieldAt (mem : List Blk) (l off i d : Nat) (K : Nat → Nat → Prop) : Prop := match vecAt mem l off with
  | true => nrm mem l off (i + d) K
  | false => match Nat.beq i 0 with
    | true => K (off + d) 0
    | false => False

def fieldK (t : TypeId) (x : Operand) (f : Nat) : Prop := match opv ts x with
  | .b (.cv (.ptr l off i)) => match C.T t with
    | .st fs _ _ => match fld fs f with
      | some p => fieldAt mem l off i p.1 fun o' i' => K (.b (.cv (.ptr l o' i'))) noEff []
      | none => byHand P S w0 o ts mem K
    | _ => byHand P S w0 o ts mem K
  | _ => byHand P S w0 o ts mem K

def idxAt (mem : List Blk) (l off i esz j : Nat) (K : AV → Prop) : Prop := posAt mem l off i esz j fun o' i' => K (.b (.cv (.ptr l o' i')))

def indexK (t : TypeId) (x y : Operand) : Prop := match opv ts x, opv ts y with
  | .b (.cv (.ptr l off i)), .b (.cv (.int _ j)) => match C.T t, j with
    | .arr n _ esz _, .ofNat j => obl (Nat.blt j n) (idxAt mem l off i esz j fun av => K av noEff [])
    | _, _ => byHand P S w0 o ts mem K
  | .b (.cv (.sl l off i n _)), .b (.cv (.int _ j)) => match C.T t, j with
    | .slice _ esz, .ofNat j => obl (Nat.blt j n) (idxAt mem l off i esz j fun av => K av noEff [])
    | _, _ => byHand P S w0 o ts mem K
  | _, _ => byHand P S w0 o ts mem K

def szB (ti : TI) (a : List Ch) : Bool := match szOf ti with
  | some sz => Nat.beq (chsSize a) sz
  | none => false

def binK (op : BinOp) (t : TypeId) (x y : Operand) : Prop := match opv ts x, opv ts y with
  | .b (.cv (.int k a)), .b (.cv (.int k' b)) => match op with
    | .shl => shK .shl k a b fun cv => K (.b (.cv cv)) noEff []
    | .shr => shK .shr k a b fun cv => K (.b (.cv cv)) noEff []
    | op => match kindB k k' with
      | true => intK op k a b fun cv => K (.b (.cv cv)) noEff []
      | false => False
  | .b (.cv (.bool a)), .b (.cv (.bool b)) => match op, C.T t with
    | .eql, .bool => K (.b (.cv (.bool (a == b)))) noEff []
    | .neq, .bool => K (.b (.cv (.bool (a != b)))) noEff []
    | _, _ => byHand P S w0 o ts mem K
  | .b (.agg a), .b (.agg b) => match op, C.eq t && szB (C.T t) a, eqCh a b with
    | .eql, true, some q => K (.b (.cv (.bool q))) noEff []
    | .neq, true, some q => K (.b (.cv (.bool (!q)))) noEff []
    | _, _, _ => byHand P S w0 o ts mem K
  | _, _ => byHand P S w0 o ts mem K

def convK (t t' : TypeId) (x : Operand) : Prop := match opv ts x, C.T t, C.T t' with
  | .b (.cv (.int _ a)), .int _, .int k' => K (.b (.cv (.int k' (k'.wrap a)))) noEff []
  | _, _, _ => byHand P S w0 o ts mem K

def unK (op : UnOp) (x : Operand) : Prop := match op, opv ts x with
  | .not, .b (.cv (.bool b)) => K (.b (.cv (.bool (!b)))) noEff []
  | .neg, .b (.cv (.int k a)) => K (.b (.cv (.int k (k.wrap (0 - a))))) noEff []
  | _, _ => byHand P S w0 o ts mem K

def xth : List AB → Nat → Option AB
  | [], _ => none
  | x :: _, 0 => some x
  | _ :: r, n + 1 => xth r n
def extrK (x : Operand) (i : Nat) : Prop := match opv ts x with
  | .tup xs => match xth xs i with
    | some ab => K (.b ab) noEff []
    | none => byHand P S w0 o ts mem K
  | _ => byHand P S w0 o ts mem K

def callK (c : Call) : Prop := match c.callee with
  | .value fx => match opv ts fx, abList (c.args.toList.map (opv ts)) with
    | .b (.cv (.fn f fs cs)), some xs => match C.O f (firstAB fs (appAB xs (capsAB cs))) mem with
      | some (p, r, e, rd) => p ∧ K r e rd
      | none => ∃ rd r e, CallOk P S w0 f (firstAB fs (appAB xs (capsAB cs))) mem rd r e ∧ K r e rd
    | _, _ => byHand P S w0 o ts mem K
  | .builtin .len => match c.args.toList.map (opv ts), c.argTypes.toList.map C.T with
    | [.b (.cv (.sl _ _ _ n _))], [.slice _ _] => K (.b (.cv (.int .i64 (Int.ofNat n)))) noEff []
    | [.b (.cv (.v (.slice _ n _)))], [.slice _ _] => obl (Nat.ble n 9223372036854775807) (K (.b (.cv (.int .i64 (Int.ofNat n)))) noEff [])
    | [.b (.cv (.v (.string s)))], [.str] => obl (Nat.ble s.size 9223372036854775807) (K (.b (.cv (.int .i64 (Int.ofNat s.size)))) noEff [])
    | _, _ => byHand P S w0 o ts mem K
  | .builtin .min => match c.args.toList.map (opv ts) with
    | [.b (.cv (.int k x)), .b (.cv (.int k' y))] => match kindB k k' with
      | true => K (.b (.cv (.int k (cond (iltB y x) y x)))) noEff []
      | false => byHand P S w0 o ts mem K
    | _ => byHand P S w0 o ts mem K
  | .builtin .max => match c.args.toList.map (opv ts) with
    | [.b (.cv (.int k x)), .b (.cv (.int k' y))] => match kindB k k' with
      | true => K (.b (.cv (.int k (cond (iltB x y) y x)))) noEff []
      | false => byHand P S w0 o ts mem K
    | _ => byHand P S w0 o ts mem K
  | _ => byHand P S w0 o ts mem K

def caps0 : List AV → Option (List Nat)
  | [] => some []
  | .b (.cv (.ptr l 0 0)) :: r => match caps0 r with
    | some q => some (l :: q)
    | none => none
  | _ => none
def mkK (fn : Fn) (first captured : Array Operand) : Prop := match fn, first.toList, caps0 (captured.toList.map (opv ts)) with
  | .func f, [], some q => K (.b (.cv (.fn f [] q))) noEff []
  | _, _, _ => byHand P S w0 o ts mem K

/-- A single cell of a row is written. -/
def updCell (c : CV) : List Ch → Nat → Option (List Ch)
  | [], _ => none
  | x :: r, off => match Nat.ble x.size off with
    | true => match updCell c r (off - x.size) with
      | some q => some (x :: q)
      | none => none
    | false => match x with
      | .vec n f => some (.vec n (fupd f off c) :: r)
      | _ => none
def putCh (new : List Ch) (sz : Nat) (cs : List Ch) (off : Nat) : Option (List Ch) := match replCh new sz cs off with
  | some q => some q
  | none => match new with
    | [.cell c] => match Nat.beq sz 1 with
      | true => updCell c cs off
      | false => none
    | _ => none
/-- So many times the same. -/
def repL : Nat → List Ch → List Ch
  | 0, _ => []
  | n + 1, z => appCh z (repL n z)
def repCh (n : Nat) (z : List Ch) : List Ch := match z with
  | [.cell c] => [.vec n (fun _ => c)]
  | z => repL n z
/-- The parts of a literal, laid one by one. -/
def partsK (C : Cx) (place : Nat → Option (Nat × Nat)) : List (Nat × AV) → List Ch → Option (List Ch)
  | [], cs => some cs
  | (i, av) :: r, cs => match place i, chsOf av with
    | some p, some new => match Nat.beq (chsSize new) p.2, putCh new p.2 cs p.1 with
      | true, some cs' => partsK C place r cs'
      | _, _ => none
    | _, _ => none

def buildK (t : TypeId) (parts : Array (Nat × Operand)) : Prop := match C.T t with
  | .st fs _ z => match partsK C (fld fs) (parts.toList.map fun p => (p.1, opv ts p.2)) z with
    | some cs => K (.b (.agg cs)) noEff []
    | none => byHand P S w0 o ts mem K
  | .arr _ _ esz z => match parts.toList, z with
    | [], z => K (.b (.agg z)) noEff []
    | [(0, x)], [.num n0] => match opv ts x, Nat.beq esz 1 with
      | .b (.cv (.int .u64 n)), true => K (.b (.agg [.num (setl 0 n.toNat n0)])) noEff []
      | _, _ => byHand P S w0 o ts mem K
    | _, z => match partsK C (fun i => some (i * esz, esz)) (parts.toList.map fun p => (p.1, opv ts p.2)) z with
      | some cs => K (.b (.agg cs)) noEff []
      | none => byHand P S w0 o ts mem K
  | _ => byHand P S w0 o ts mem K
def buildSlK (t : TypeId) (len : Nat) (parts : Array (Nat × Operand)) : Prop := match C.T t with
  | .slice e esz => match zeroOf (C.T e) with
    | some z => match partsK C (fun i => some (i * esz, esz)) (parts.toList.map fun p => (p.1, opv ts p.2)) (repCh len z) with
      | some cs => obl (Nat.ble (len * esz) 16777216 && (Nat.blt 0 esz && (!isExt (esz - 1) && Nat.beq (chsSize z) esz))) (K (.b (.cv (.sl mem.length 0 0 len len))) ⟨[(cs, esz - 1)], []⟩ [])
      | none => byHand P S w0 o ts mem K
    | none => byHand P S w0 o ts mem K
  | _ => byHand P S w0 o ts mem K

def bndv : Option AV → Nat → Option Nat
  | none, d => some d
  | some (.b (.cv (.int _ (.ofNat a)))), _ => some a
  | _, _ => none
def sliceK (t : TypeId) (x : Operand) (lo hi : Option Operand) : Prop := match opv ts x with
  | .b (.cv (.ptr l off i)) => match C.T t with
    | .arr n _ esz _ => match bndv (lo.map (opv ts)) 0, bndv (hi.map (opv ts)) n with
      | some a, some b => match bnth mem l with
        | some k => match Nat.beq esz (emk k.2), k.1 with
          | true, _ :: _ => obl (Nat.ble b n) (obl (Nat.ble a b) (obl (Nat.ble n 140737488355328) (obl (Nat.ble (off + i + n * esz) (chsSize k.1)) (posAt mem l off i esz a fun o' i' => K (.b (.cv (.sl l o' i' (b - a) (n - a)))) noEff [l]))))
          | _, _ => byHand P S w0 o ts mem K
        | none => byHand P S w0 o ts mem K
      | _, _ => byHand P S w0 o ts mem K
    | _ => byHand P S w0 o ts mem K
  | .b (.cv (.sl l off i n c)) => match C.T t with
    | .slice _ esz => match bndv (lo.map (opv ts)) 0, bndv (hi.map (opv ts)) n with
      | some a, some b => match bnth mem l with
        | some k => match Nat.beq esz (emk k.2), k.1 with
          | true, _ :: _ => obl (Nat.ble b c) (obl (Nat.ble a b) (posAt mem l off i esz a fun o' i' => K (.b (.cv (.sl l o' i' (b - a) (c - a)))) noEff [l]))
          | _, _ => byHand P S w0 o ts mem K
        | none => byHand P S w0 o ts mem K
      | _, _ => byHand P S w0 o ts mem K
    | _ => byHand P S w0 o ts mem K
  | .b (.cv (.v (.slice (some ad) n c))) => match C.T t with
    | .slice _ esz => match bndv (lo.map (opv ts)) 0, bndv (hi.map (opv ts)) n with
      | some a, some b => obl (Nat.ble b c) (obl (Nat.ble a b) (K (.b (.cv (.v (.slice (some (match Nat.blt a c with | true => ad.add (a * esz) | false => ad)) (b - a) (c - a))))) noEff []))
      | _, _ => byHand P S w0 o ts mem K
    | _ => byHand P S w0 o ts mem K
  | _ => byHand P S w0 o ts mem K
def arrayK (t : TypeId) (x : Operand) : Prop := match opv ts x, C.T t with
  | .b (.cv (.sl l off i n _)), .arr m _ _ _ => obl (Nat.ble m n) (K (.b (.cv (.ptr l off i))) noEff [])
  | _, _ => byHand P S w0 o ts mem K
def indexVK (t : TypeId) (x y : Operand) : Prop := match opv ts x, opv ts y with
  | .b (.agg cs), .b (.cv (.int _ (.ofNat j))) => match C.T t with
    | .arr n e esz _ => obl (Nat.blt j n) (match szOf (C.T e) with
      | some sz => match dropCh cs (j * esz) with
        | some r => match takeCh r sz with
          | some q => K (.b (.agg q)) noEff []
          | none => byHand P S w0 o ts mem K
        | none => byHand P S w0 o ts mem K
      | none => match isSc (C.T e), cs with
        | true, [c] => c.at_ j fun cv => K (.b (.cv cv)) noEff []
        | _, _ => byHand P S w0 o ts mem K)
    | _ => byHand P S w0 o ts mem K
  | _, _ => byHand P S w0 o ts mem K

def opK : Prop := match o.op with
  | .move x => K (opv ts x) noEff []
  | .assign x => K (opv ts x) noEff []
  | .pick c a b => match opv ts c with
    | .b (.cv (.bool t)) => pickK t (opv ts a) (opv ts b) fun av => K av noEff []
    | _ => byHand P S w0 o ts mem K
  | .alloc t => match zeroOf (C.T t) with
    | some z => K (.b (.cv (.ptr mem.length 0 0))) ⟨[(z, 0)], []⟩ []
    | none => byHand P S w0 o ts mem K
  | .box _ x => match chsOf (opv ts x) with
    | some cs => K (.b (.cv (.ptr mem.length 0 0))) ⟨[(cs, 0)], []⟩ []
    | none => byHand P S w0 o ts mem K
  | .build t parts => buildK P S w0 C o ts mem K t parts
  | .buildSlice t len parts => buildSlK P S w0 C o ts mem K t len parts
  | .load t x => loadK P S w0 C o ts mem K t x
  | .store t x y => storeK P S w0 C o ts mem K t x y
  | .nilCheck x => match opv ts x with
    | .b (.cv (.ptr l off i)) => K (.b (.cv (.ptr l off i))) noEff []
    | .b (.cv (.v (.pointer (some a)))) => K (.b (.cv (.v (.pointer (some a))))) noEff []
    | .b (.cv (.fn f fs cs)) => K (.b (.cv (.fn f fs cs))) noEff []
    | _ => byHand P S w0 o ts mem K
  | .binOp op t x y _ => binK P S w0 C o ts mem K op t x y
  | .unOp op _ x => unK P S w0 o ts mem K op x
  | .convert t t' x => convK P S w0 C o ts mem K t t' x
  | .makeFunc fn first captured => mkK P S w0 o ts mem K fn first captured
  | .fieldAddr t x f => fieldK P S w0 C o ts mem K t x f
  | .indexAddr t x y => indexK P S w0 C o ts mem K t x y
  | .extract x i => extrK P S w0 o ts mem K x i
  | .slice t x lo hi none => sliceK P S w0 C o ts mem K t x lo hi
  | .sliceToArrayPointer t x => arrayK P S w0 C o ts mem K t x
  | .index t x y => indexVK P S w0 C o ts mem K t x y
  | .call c => callK P S w0 C o ts mem K c
  | _ => byHand P S w0 o ts mem K
end

variable {P : Program} {S : Nat → Prop} {w0 : World} {C : Cx} {o : Oper} {ts : List AV} {mem : List Blk} {K : OK3}

theorem xth_eq : ∀ (l : List AB) (n : Nat), xth l n = l[n]?
  | [], _ => rfl
  | _ :: _, 0 => rfl
  | _ :: r, n + 1 => by simp [xth, xth_eq r n]
theorem fld_eq : ∀ (l : List (Nat × Nat)) (n : Nat), fld l n = l[n]?
  | [], _ => rfl
  | _ :: _, 0 => rfl
  | _ :: r, n + 1 => by simp [fld, fld_eq r n]

theorem absRel_get {g : GM} : ∀ (xs : List AB) (vs : List Value) (i : Nat) (x : AB), absRel g xs vs → xs[i]? = some x → ∃ v, vs[i]? = some v ∧ x.rel g v
  | _ :: _, _, 0, x, ⟨y, ys, e, h, _⟩, hi => by simp only [List.getElem?_cons_zero, Option.some.injEq] at hi; subst hi; subst e; exact ⟨y, rfl, h⟩
  | _ :: xs, _, i + 1, x, ⟨y, ys, e, _, h⟩, hi => by subst e; simpa using absRel_get xs ys i x h (by simpa using hi)

theorem load_ok (hC : CxOk P C) {t : TypeId} {x : Operand} (ho : o.op = .load t x) (h : loadK P S w0 C o ts mem K t x) : byHand P S w0 o ts mem K := by
  unfold loadK at h
  split at h
  · rename_i l off i hx
    split at h
    · rename_i k hk
      rw [bnth_eq] at hk
      split at h
      · rename_i sz hsz
        split at h
        · rename_i hi
          have := Nat.eq_of_beq_eq_true hi; subst this
          split at h
          · rename_i r hr
            split at h
            · rename_i q hq
              exact ⟨_, _, _, exec_load_agg ho (hC.ty t) hsz hx hk hr hq (by simp), h⟩
            · exact h
          · exact h
        · exact h
      · split at h
        · rename_i hsc
          split at h
          · rename_i c r hr
            obtain ⟨cv, h1, h2⟩ := exec_load_one (S := S) (w0 := w0) ho (hC.ty t) hsc hx hk hr h
            exact ⟨_, _, _, h1, h2⟩
          · exact h
        · exact h
    · exact h
  · exact h

theorem store_ok (hC : CxOk P C) {t : TypeId} {x y : Operand} (ho : o.op = .store t x y) (h : storeK P S w0 C o ts mem K t x y) : byHand P S w0 o ts mem K := by
  unfold storeK at h
  split at h
  · rename_i l off i hx
    split at h
    · rename_i k hk
      rw [bnth_eq] at hk
      split at h
      · exact h.elim
      · rename_i hext
        have hk2 : isExt k.2 = false := hext
        split at h
        · rename_i sz hsz
          split at h
          · rename_i new hi hs0 hnew
            have := Nat.eq_of_beq_eq_true hi; subst this
            split at h
            · rename_i c' hl hr
              exact ⟨_, _, _, exec_store_agg ho (hC.ty t) hsz hs0 hx hk hk2 hnew hl hr, h⟩
            · exact h
          · exact h
        · split at h
          · rename_i cv c r hsc hy hr
            split at h
            · rename_i hcv
              obtain ⟨c', h1, h2⟩ := exec_store_one (S := S) (w0 := w0) ho (hC.ty t) hsc hx hk hk2 hy hcv hr h
              split at h1
              · rename_i c2 hc2
                exact ⟨_, _, _, h2 c2 hc2, h1⟩
              · exact h1.elim
            · exact h
          · exact h
    · exact h
  · exact h

theorem nrmL_ok : ∀ (r : List Ch) (off i : Nat) (K : Nat → Nat → Prop), nrmL r off i K → ∃ o' i', o' + i' = off + i ∧ K o' i'
  | [], off, i, K, h => ⟨off, i, rfl, h⟩
  | [c], off, i, K, h => ⟨off, i, rfl, h⟩
  | c :: c' :: r, off, i, K, h => by
    unfold nrmL at h
    split at h
    · exact ⟨off, i, rfl, h⟩
    · rename_i hb
      obtain ⟨o', i', h1, h2⟩ := nrmL_ok (c' :: r) _ _ K h
      have : ¬ i < c.size := by rw [← Nat.blt_eq]; simp [hb]
      exact ⟨o', i', by omega, h2⟩
theorem nrm_ok {mem : List Blk} {l off i : Nat} {K : Nat → Nat → Prop} (h : nrm mem l off i K) : ∃ o' i', o' + i' = off + i ∧ K o' i' := by
  unfold nrm at h
  split at h
  · split at h
    · exact nrmL_ok _ _ _ _ h
    · exact ⟨off, i, rfl, h⟩
  · exact ⟨off, i, rfl, h⟩
theorem posAt_ok {mem : List Blk} {l off i esz j : Nat} {K : Nat → Nat → Prop} (h : posAt mem l off i esz j K) : ∃ o' i', o' + i' = off + i + j * esz ∧ K o' i' := by
  unfold posAt at h
  split at h
  · rename_i he
    have := Nat.eq_of_beq_eq_true he; subst this
    obtain ⟨o', i', h1, h2⟩ := nrm_ok h
    exact ⟨o', i', by omega, h2⟩
  · split at h
    · obtain ⟨o', i', h1, h2⟩ := nrm_ok h
      exact ⟨o', i', by omega, h2⟩
    · split at h
      · rename_i hi
        have := Nat.eq_of_beq_eq_true hi; subst this
        exact ⟨_, _, by omega, h⟩
      · exact h.elim
theorem fieldAt_ok {mem : List Blk} {l off i d : Nat} {K : Nat → Nat → Prop} (h : fieldAt mem l off i d K) : ∃ o' i', o' + i' = off + i + d ∧ K o' i' := by
  unfold fieldAt at h
  split at h
  · obtain ⟨o', i', h1, h2⟩ := nrm_ok h
    exact ⟨o', i', by omega, h2⟩
  · split at h
    · rename_i hi
      have := Nat.eq_of_beq_eq_true hi; subst this
      exact ⟨_, _, by omega, h⟩
    · exact h.elim
theorem field_ok (hC : CxOk P C) {t : TypeId} {x : Operand} {f : Nat} (ho : o.op = .fieldAddr t x f) (h : fieldK P S w0 C o ts mem K t x f) : byHand P S w0 o ts mem K := by
  unfold fieldK at h
  split at h
  · rename_i l off i hx0
    split at h
    · rename_i fs sz z hT
      split at h
      · rename_i p hp
        rw [fld_eq] at hp
        obtain ⟨o', i', hp', h⟩ := fieldAt_ok h
        have hty := hC.ty t
        rw [hT] at hty
        obtain ⟨v, F, _, hu, hfs, hnz, _⟩ := hty
        refine ⟨_, _, _, exec_pure fun g a w hx => ?_, h⟩
        have h1 := hx x (by simp [ho, Op.operands])
        rw [hx0] at h1
        obtain ⟨b, hb, hv⟩ := h1
        rw [← hfs, List.getElem?_map, Option.map_eq_some_iff] at hp
        obtain ⟨fd, hfd, hpe⟩ := hp
        have hne : P.cellsOf fd.type ≠ 0 := by
          have := hnz p (by rw [← hfs, ← hpe]; exact List.mem_map_of_mem (List.mem_of_getElem? hfd))
          rw [← hpe] at this; exact this
        have hsz : (P.info? fd.type).map (·.size) = some (P.cellsOf fd.type) := by
          unfold Program.cellsOf at hne ⊢
          cases hq : (P.info? fd.type).map (·.size) with
          | none => rw [hq] at hne; simp at hne
          | some n => rfl
        refine ⟨.pointer (some ⟨b.b, off + i + p.1, none⟩), ?_, ⟨b, hb, by rw [hp']⟩⟩
        have hfd' : F[f]? = some fd := by rw [← Array.getElem?_toList]; exact hfd
        simp only [execOp, ho, hv, Instr.fieldAt, Sem.run_bind, run_underlying' hu, Result.andThen_ok, hfd', Instr.sureAddr, Sem.run_pure, fieldPlace, run_sizeOf' hsz, if_neg hne, add_addr]
        rw [← hpe]
      · exact h
    · exact h
  · exact h

theorem at_all {c : Ch} {i : Nat} {K : CV → Prop} (hK : c.at_ i K) : ∃ cv, K cv ∧ ∀ (g : GM) (vs : List Value), c.rel g vs → ∃ y, vs[i]? = some y ∧ cv.rel g y := by
  cases c with
  | cell c =>
    obtain ⟨hb, h⟩ := obl_ok hK
    have := Nat.eq_of_beq_eq_true hb; subst this
    exact ⟨c, h, fun g vs ⟨y, e, _, h2⟩ => ⟨y, by rw [e]; rfl, h2⟩⟩
  | num x =>
    obtain ⟨hb, h⟩ := obl_ok hK
    rw [Nat.blt_eq] at hb
    exact ⟨_, h, fun g vs hr => ⟨_, by rw [hr.2]; exact limbs_get x i hb, ⟨rfl, limb_has i x⟩⟩⟩
  | vec n f =>
    obtain ⟨hb, h⟩ := obl_ok hK
    rw [Nat.blt_eq] at hb
    refine ⟨_, h, fun g vs hr => ?_⟩
    have hlt : i < vs.length := by rw [hr.1]; exact hb
    exact ⟨_, List.getElem?_eq_getElem hlt, (hr.2 i _ (List.getElem?_eq_getElem hlt)).2⟩
theorem idxAt_ok {mem : List Blk} {l off i esz j : Nat} {K : AV → Prop} (h : idxAt mem l off i esz j K) : ∃ av, K av ∧ ∀ (g : GM) b, g l = some b → av.rel g (.pointer (some ⟨b.b, off + i + j * esz, none⟩)) := by
  obtain ⟨o', i', h1, h2⟩ := posAt_ok h
  exact ⟨_, h2, fun g b hb => ⟨b, hb, by rw [h1]⟩⟩

theorem bndv_ok {g : GM} {a : Act} {x : Option Operand} {d n y : Nat} {code : BoundsCode} {w : World} (hx : ∀ z, x = some z → (opv ts z).rel g (a.eval z)) (h : bndv (x.map (opv ts)) d = some n) (hn : n ≤ y) (hd : x = none → True) :
    (match x.map a.eval with | some v => Instr.sliceBound v y code | none => pure d).run P w = .ok n w := by
  cases x with
  | none =>
    simp only [Option.map_none, bndv, Option.some.injEq] at h
    subst h; rfl
  | some z =>
    have q := hx z rfl
    simp only [Option.map_some] at h ⊢
    unfold bndv at h
    split at h
    · rename_i e; cases e
    · rename_i k m e
      simp only [Option.some.injEq] at h e
      subst h
      rw [e] at q
      rw [q.1]
      simp [Instr.sliceBound, asIntOf, hn]
    · cases h

theorem slice_ok (hC : CxOk P C) {t : TypeId} {x : Operand} {lo hi : Option Operand} (ho : o.op = .slice t x lo hi none) (h : sliceK P S w0 C o ts mem K t x lo hi) : byHand P S w0 o ts mem K := by
  have hops : ∀ z, lo = some z ∨ hi = some z ∨ x = z → z ∈ o.op.operands := by
    intro z hz
    rw [ho]
    rcases hz with rfl | rfl | rfl <;> simp [Op.operands]
  unfold sliceK at h
  split at h
  · rename_i l off i hx0
    split at h
    · rename_i n e esz z hT
      split at h
      · rename_i av b hlo hhi
        split at h
        rotate_left
        · exact h
        rename_i kb hkb
        rw [bnth_eq] at hkb
        split at h
        rotate_left
        · exact h
        rename_i hez hne0
        have hez := Nat.eq_of_beq_eq_true hez
        have hn0 : kb.1 ≠ [] := by rw [hne0]; simp
        clear hne0
        obtain ⟨hb1, h⟩ := obl_ok h
        obtain ⟨hb2, h⟩ := obl_ok h
        obtain ⟨hb4, h⟩ := obl_ok h
        obtain ⟨hb5, h⟩ := obl_ok h
        simp only [Nat.ble_eq] at hb1 hb2 hb4 hb5
        obtain ⟨o', i', hp, h⟩ := posAt_ok h
        have hty := hC.ty t
        rw [hT] at hty
        obtain ⟨v, _, hu, hs, hn, _⟩ := hty
        refine ⟨_, _, _, exec_read fun g a w hx hrd _ => ?_, h⟩
        have q1 := hx x (hops x (.inr (.inr rfl)))
        rw [hx0] at q1
        obtain ⟨bk, hgb, hv⟩ := q1
        have hroom : chsSize kb.1 ≤ bk.room ∧ bk.e = esz := by
          obtain ⟨_, hbr⟩ := hrd l (by simp) bk kb hgb hkb
          obtain ⟨cs, _, _, us, rest, _, ⟨r1, r1'⟩, r2, r3, _⟩ := hbr.resolve_left hn0
          refine ⟨?_, by rw [r1', hez]⟩
          rw [← r1, ← chsRel_size _ _ r3, ← Array.length_toList, r2]; simp
        obtain ⟨hroom, hbe⟩ := hroom
        have hmul : av * esz + (n - av) * esz = n * esz := by rw [← Nat.add_mul]; congr 1; omega
        refine ⟨.slice (some (if n = av then ⟨bk.b, off + i, none⟩ else ⟨bk.b, off + i + av * esz, none⟩)) (b - av) (n - av), ?_, ?_⟩
        rotate_left
        · by_cases hne : n = av
          · exact .inl ⟨by omega, by omega, _, by rw [if_pos hne, show b - av = 0 by omega, show n - av = 0 by omega]⟩
          · exact .inr ⟨by omega, n - av, Nat.le_refl _, by omega, bk, hgb, by rw [hbe]; omega, by rw [if_neg hne, hp]⟩
        have e1 : ∀ w, (match hi.map a.eval with | some v => Instr.sliceBound v n .sliceAlen | none => pure n).run P w = .ok b w := fun w => bndv_ok (fun z hz => hx z (hops z (.inr (.inl hz)))) hhi hb1 (fun _ => trivial)
        have e2 : ∀ w, (match lo.map a.eval with | some v => Instr.sliceBound v b .sliceB | none => pure 0).run P w = .ok av w := fun w => bndv_ok (fun z hz => hx z (hops z (.inl hz))) hlo hb2 (fun _ => trivial)
        have e3 : (Instr.sliceBounds false n n (lo.map a.eval) (hi.map a.eval) none).run P w = .ok (av, b, n) w := by
          cases lo <;> cases hi <;> simp_all [Instr.sliceBounds]
        simp only [execOp, ho, hv, Instr.sliceAt, Sem.run_bind, run_underlying' hu, Instr.sureAddr, Sem.run_pure, Result.andThen_ok, Option.map_none, e3, run_sizeOf' hs, add_addr]
      · exact h
    · exact h
  · rename_i l off i n c hx0
    split at h
    · rename_i e esz hT
      split at h
      · rename_i av b hlo hhi
        split at h
        rotate_left
        · exact h
        rename_i kb hkb
        rw [bnth_eq] at hkb
        split at h
        rotate_left
        · exact h
        rename_i hez hne0
        have hez := Nat.eq_of_beq_eq_true hez
        have hn0 : kb.1 ≠ [] := by rw [hne0]; simp
        clear hne0
        obtain ⟨hb1, h⟩ := obl_ok h
        obtain ⟨hb2, h⟩ := obl_ok h
        simp only [Nat.ble_eq] at hb1 hb2
        obtain ⟨o', i', hp, h⟩ := posAt_ok h
        have hty := hC.ty t
        rw [hT] at hty
        obtain ⟨_, hu, hs⟩ := hty
        refine ⟨_, _, _, exec_read fun g a w hx hrd _ => ?_, h⟩
        have q1 := hx x (hops x (.inr (.inr rfl)))
        rw [hx0] at q1
        obtain ⟨ad, cap, hv, hc1, hn2, hab⟩ : ∃ (ad : Option Addr) (cap : Nat), a.eval x = .slice ad n cap ∧ c ≤ cap ∧ cap ≤ 9223372036854775807 ∧ ((cap = 0) ∨ ∃ bk, g l = some bk ∧ off + i + cap * bk.e ≤ bk.room ∧ ad = some ⟨bk.b, off + i, none⟩) := by
          rcases q1 with ⟨r1, r2, ad, r3⟩ | ⟨_, cap, r1, r2, bk, r3, r4, r5⟩
          · exact ⟨ad, 0, by rw [r3, r1], by omega, by omega, .inl rfl⟩
          · exact ⟨_, cap, r5, r1, r2, .inr ⟨bk, r3, r4, rfl⟩⟩
        refine ⟨.slice (if cap = av then ad else ad.map (·.add (av * esz))) (b - av) (cap - av), ?_, ?_⟩
        rotate_left
        · by_cases hne : cap = av
          · exact .inl ⟨by omega, by omega, _, by rw [show b - av = 0 by omega, show cap - av = 0 by omega]⟩
          · obtain ⟨bk, hgb, hrm, rfl⟩ := hab.resolve_left (by omega)
            have hbe : bk.e = esz := by
              obtain ⟨_, hbr⟩ := hrd l (by simp) bk kb hgb hkb
              obtain ⟨cs, _, _, us, rest, _, ⟨_, r1'⟩, _⟩ := hbr.resolve_left hn0
              rw [r1', hez]
            have hmul : av * esz + (cap - av) * esz = cap * esz := by rw [← Nat.add_mul]; congr 1; omega
            rw [hbe] at hrm
            exact .inr ⟨by omega, cap - av, by omega, by omega, bk, hgb, by rw [hbe]; omega, by rw [if_neg hne, Option.map_some, add_addr, hp]⟩
        have e1 : ∀ w, (match hi.map a.eval with | some v => Instr.sliceBound v cap .sliceAcap | none => pure n).run P w = .ok b w := fun w => bndv_ok (fun z hz => hx z (hops z (.inr (.inl hz)))) hhi (by omega) (fun _ => trivial)
        have e2 : ∀ w, (match lo.map a.eval with | some v => Instr.sliceBound v b .sliceB | none => pure 0).run P w = .ok av w := fun w => bndv_ok (fun z hz => hx z (hops z (.inl hz))) hlo hb2 (fun _ => trivial)
        have e3 : (Instr.sliceBounds true n cap (lo.map a.eval) (hi.map a.eval) none).run P w = .ok (av, b, cap) w := by
          cases lo <;> cases hi <;> simp_all [Instr.sliceBounds]
        simp only [execOp, ho, hv, Instr.sliceAt, Instr.slice, Sem.run_bind, run_underlying' hu, Sem.run_pure, Result.andThen_ok, Option.map_none, e3, run_sizeOf' hs]
      · exact h
    · exact h
  · rename_i ad n c hx0
    split at h
    · rename_i e esz hT
      split at h
      · rename_i av b hlo hhi
        obtain ⟨hb1, h⟩ := obl_ok h
        obtain ⟨hb2, h⟩ := obl_ok h
        simp only [Nat.ble_eq] at hb1 hb2
        have hty := hC.ty t
        rw [hT] at hty
        obtain ⟨_, hu, hs⟩ := hty
        refine ⟨_, _, _, exec_pure fun g a w hx => ?_, h⟩
        have q1 := hx x (hops x (.inr (.inr rfl)))
        rw [hx0] at q1
        have hv : a.eval x = .slice (some ad) n c := q1
        have e1 : ∀ w, (match hi.map a.eval with | some v => Instr.sliceBound v c .sliceAcap | none => pure n).run P w = .ok b w := fun w => bndv_ok (fun z hz => hx z (hops z (.inr (.inl hz)))) hhi hb1 (fun _ => trivial)
        have e2 : ∀ w, (match lo.map a.eval with | some v => Instr.sliceBound v b .sliceB | none => pure 0).run P w = .ok av w := fun w => bndv_ok (fun z hz => hx z (hops z (.inl hz))) hlo hb2 (fun _ => trivial)
        have e3 : (Instr.sliceBounds true n c (lo.map a.eval) (hi.map a.eval) none).run P w = .ok (av, b, c) w := by
          cases lo <;> cases hi <;> simp_all [Instr.sliceBounds]
        refine ⟨.slice (some (match Nat.blt av c with | true => ad.add (av * esz) | false => ad)) (b - av) (c - av), ?_, rfl⟩
        by_cases hne : c = av
        · have hb3 : Nat.blt av c = false := by
            cases hh : Nat.blt av c with
            | false => rfl
            | true => rw [Nat.blt_eq] at hh; omega
          simp only [execOp, ho, hv, Instr.sliceAt, Instr.slice, Sem.run_bind, run_underlying' hu, Sem.run_pure, Result.andThen_ok, Option.map_none, e3, run_sizeOf' hs, if_pos hne, hb3]
        · have hb3 : Nat.blt av c = true := by rw [Nat.blt_eq]; omega
          simp only [execOp, ho, hv, Instr.sliceAt, Instr.slice, Sem.run_bind, run_underlying' hu, Sem.run_pure, Result.andThen_ok, Option.map_none, Option.map_some, e3, run_sizeOf' hs, if_neg hne, hb3]
      · exact h
    · exact h
  · exact h

theorem arrayAt_ok (hC : CxOk P C) {t : TypeId} {x : Operand} (ho : o.op = .sliceToArrayPointer t x) (h : arrayK P S w0 C o ts mem K t x) : byHand P S w0 o ts mem K := by
  unfold arrayK at h
  split at h
  · rename_i l off i n c m e esz z hx0 hT
    obtain ⟨hb, h⟩ := obl_ok h
    simp only [Nat.ble_eq] at hb
    have hty := hC.ty t
    rw [hT] at hty
    obtain ⟨v, _, hu, hs, hn, _⟩ := hty
    refine ⟨_, _, _, exec_pure fun g a w hx => ?_, h⟩
    have q1 := hx x (by simp [ho, Op.operands])
    rw [hx0] at q1
    obtain ⟨_, _, _, _, b, hgb, hrm, hv⟩ := Or.resolve_left q1 (fun h => by omega)
    refine ⟨_, ?_, ⟨b, hgb, rfl⟩⟩
    have : ¬ n < m := by omega
    simp [execOp, ho, hv, Instr.arrayAt, run_underlying' hu, this]
  · exact h

theorem indexV_ok (hC : CxOk P C) {t : TypeId} {x y : Operand} (ho : o.op = .index t x y) (h : indexVK P S w0 C o ts mem K t x y) : byHand P S w0 o ts mem K := by
  unfold indexVK at h
  split at h
  · rename_i cs kk j hx0 hy0
    split at h
    · rename_i n e esz z hT
      obtain ⟨hb, h⟩ := obl_ok h
      rw [Nat.blt_eq] at hb
      have hty := hC.ty t
      rw [hT] at hty
      obtain ⟨v, _, hu, hs, hn, _⟩ := hty
      split at h
      · rename_i sz hsz
        split at h
        · rename_i r hr
          split at h
          · rename_i q hq
            obtain ⟨d, hd1, hd2, hd3⟩ := ty_agg (hC.ty e) hsz
            obtain ⟨pre, hpre, hsize⟩ := dropCh_ok _ _ _ hr
            obtain ⟨post, hpost, hsz2⟩ := takeCh_ok _ _ _ hq
            refine ⟨_, _, _, exec_pure fun g a w hx => ?_, h⟩
            have q1 := hx x (by simp [ho, Op.operands])
            have q2 := hx y (by simp [ho, Op.operands])
            rw [hx0] at q1
            rw [hy0] at q2
            obtain ⟨arr, hv, hrel⟩ := q1
            rw [hpre, hpost] at hrel
            obtain ⟨us, ws, e1, r1, r2⟩ := (chsRel_append _ _ _).1 hrel
            obtain ⟨us2, ws2, e2, r3, r4⟩ := (chsRel_append _ _ _).1 r2
            have l1 := chsRel_size _ _ r1
            have l2 := chsRel_size _ _ r3
            have hesz : esz = sz := by rw [hs] at hd3; exact Option.some.inj hd3
            refine ⟨.agg (arr.extract (j * esz) (j * esz + esz)), ?_, ⟨_, rfl, ?_⟩⟩
            · have hcond : (0 : Int) ≤ Int.ofNat j ∧ Int.ofNat j < (n : Int) := ⟨Int.natCast_nonneg j, by show (j : Int) < n; omega⟩
              have htn : (Int.ofNat j).toNat = j := rfl
              simp [execOp, ho, hv, q2.1, Instr.index, asIntOf, run_underlying' hu, hb, run_sizeOf' hs, part, run_isAgg' hd1, hd2]
            · have : (arr.extract (j * esz) (j * esz + esz)).toList = us2 := by
                rw [Array.toList_extract, e1, e2]
                simp only [List.extract_eq_take_drop]
                rw [List.drop_append_of_le_length (by omega), List.drop_of_length_le (by omega), List.nil_append, List.take_append_of_le_length (by omega), List.take_of_length_le (by omega)]
              rw [this]; exact r3
          · exact h
        · exact h
      · split at h
        · obtain ⟨d, hd1, hd2, hd3⟩ := ty_sc (hC.ty e) ‹isSc (C.T e) = true›
          have hesz : esz = 1 := by rw [hs] at hd3; exact Option.some.inj hd3
          subst hesz
          obtain ⟨cv, h1, h2⟩ := at_all ‹Ch.at_ _ _ _›
          refine ⟨_, _, _, exec_pure fun g a w hx => ?_, h1⟩
          have q1 := hx x (by simp [ho, Op.operands])
          have q2 := hx y (by simp [ho, Op.operands])
          rw [hx0] at q1
          rw [hy0] at q2
          obtain ⟨arr, hv, us, ws, e1, r1, r2⟩ := q1
          obtain ⟨y, e2, e3⟩ := h2 g us r1
          refine ⟨y, ?_, e3⟩
          have hws : ws = [] := r2
          have hget : arr[j]? = some y := by rw [← Array.getElem?_toList, e1, hws, List.append_nil]; exact e2
          simp [execOp, ho, hv, q2.1, Instr.index, asIntOf, run_underlying' hu, hb, run_sizeOf' hs, part, run_isAgg' hd1, hd2, hget]
        · exact h
    · exact h
  · exact h

theorem index_ok (hC : CxOk P C) {t : TypeId} {x y : Operand} (ho : o.op = .indexAddr t x y) (h : indexK P S w0 C o ts mem K t x y) : byHand P S w0 o ts mem K := by
  unfold indexK at h
  split at h
  · rename_i l off i kk j hx0 hy0
    split at h
    · rename_i n e esz z j hT
      obtain ⟨hb, h⟩ := obl_ok h
      rw [Nat.blt_eq] at hb
      obtain ⟨av, h1, h2⟩ := idxAt_ok h
      have hty := hC.ty t
      rw [hT] at hty
      obtain ⟨v, _, hu, hs, hn, _⟩ := hty
      refine ⟨_, _, _, exec_pure fun g a w hx => ?_, h1⟩
      have q1 := hx x (by simp [ho, Op.operands])
      have q2 := hx y (by simp [ho, Op.operands])
      rw [hx0] at q1
      rw [hy0] at q2
      obtain ⟨b, hgb, hv⟩ := q1
      refine ⟨_, ?_, h2 g b hgb⟩
      have hcond : (0 : Int) ≤ Int.ofNat j ∧ Int.ofNat j < (n : Int) := ⟨Int.natCast_nonneg j, by show (j : Int) < n; omega⟩
      have htn : (Int.ofNat j).toNat = j := rfl
      simp [execOp, ho, hv, q2.1, Instr.indexAt, asIntOf, run_underlying' hu, Instr.sureAddr, hb, run_sizeOf' hs, add_addr]
    · exact h
  · rename_i l off i n c kk j hx0 hy0
    split at h
    · rename_i e esz j hT
      obtain ⟨hb, h⟩ := obl_ok h
      rw [Nat.blt_eq] at hb
      obtain ⟨av, h1, h2⟩ := idxAt_ok h
      have hty := hC.ty t
      rw [hT] at hty
      obtain ⟨_, hu, hs⟩ := hty
      refine ⟨_, _, _, exec_pure fun g a w hx => ?_, h1⟩
      have q1 := hx x (by simp [ho, Op.operands])
      have q2 := hx y (by simp [ho, Op.operands])
      rw [hx0] at q1
      rw [hy0] at q2
      obtain ⟨_, _, _, _, b, hgb, hrm, hv⟩ := Or.resolve_left q1 (fun h => by omega)
      refine ⟨_, ?_, h2 g b hgb⟩
      simp [execOp, ho, hv, q2.1, Instr.indexAt, asIntOf, run_underlying' hu, hb, run_sizeOf' hs, add_addr]
    · exact h
  · exact h

theorem bin_ok (hC : CxOk P C) {op : BinOp} {t t' : TypeId} {x y : Operand} (ho : o.op = .binOp op t x y t') (h : binK P S w0 C o ts mem K op t x y) : byHand P S w0 o ts mem K := by
  unfold binK at h
  split at h
  · rename_i k a k' b hx0 hy0
    have key : ∀ {q : OK3}, (∃ cv, q (.b (.cv cv)) noEff [] ∧ (IntKind.has k a → ∀ w, ∃ v, (binOp op t (.int k a) (.int k' b)).run P w = .ok v w ∧ ∀ g, cv.rel g v)) → byHand P S w0 o ts mem q := by
      rintro q ⟨cv, h1, h2⟩
      refine ⟨_, _, _, exec_pure fun g ac w hx => ?_, h1⟩
      have q1 := hx x (by simp [ho, Op.operands])
      have q2 := hx y (by simp [ho, Op.operands])
      rw [hx0] at q1
      rw [hy0] at q2
      obtain ⟨v, e1, e2⟩ := h2 q1.2 w
      refine ⟨v, ?_, e2 g⟩
      simp only [execOp, ho, q1.1, q2.1, Sem.run_bind, eqGuard_at_int, Sem.run_pure, Result.andThen_ok, e1]
    split at h
    · exact key (sh_ok h t)
    · exact key (sh_ok h t)
    · split at h
      · rename_i hk
        have := kindB_eq hk; subst this
        exact key (int_ok h t)
      · exact h.elim
  · rename_i a b hx0 hy0
    have hty := hC.ty t
    split at h
    · rename_i hT
      rw [hT] at hty
      refine ⟨_, _, _, exec_pure fun g ac w hx => ?_, h⟩
      have q1 := hx x (by simp [ho, Op.operands])
      have q2 := hx y (by simp [ho, Op.operands])
      rw [hx0] at q1
      rw [hy0] at q2
      have q1 : ac.eval x = .bool a := q1
      have q2 : ac.eval y = .bool b := q2
      refine ⟨.bool (a == b), ?_, rfl⟩
      have e : (Op.equal t (.bool a) (.bool b)).run P w = .ok (a == b) w := run_equalIn_bool' w 9999 t a b hty.2
      simp only [execOp, ho, q1, q2, Sem.run_bind, eqGuard_at_bool, Sem.run_pure, Result.andThen_ok, binOp, e]
    · rename_i hT
      rw [hT] at hty
      refine ⟨_, _, _, exec_pure fun g ac w hx => ?_, h⟩
      have q1 := hx x (by simp [ho, Op.operands])
      have q2 := hx y (by simp [ho, Op.operands])
      rw [hx0] at q1
      rw [hy0] at q2
      have q1 : ac.eval x = .bool a := q1
      have q2 : ac.eval y = .bool b := q2
      refine ⟨.bool (a != b), ?_, rfl⟩
      have e : (Op.equal t (.bool a) (.bool b)).run P w = .ok (a == b) w := run_equalIn_bool' w 9999 t a b hty.2
      simp only [execOp, ho, q1, q2, Sem.run_bind, eqGuard_at_bool, Sem.run_pure, Result.andThen_ok, binOp, e]
      rfl
    · exact h
  · rename_i a b hx0 hy0
    have key : ∀ (g : GM) (ac : Act) (w : World) (q : Bool), (C.eq t && szB (C.T t) a) = true → eqCh a b = some q → (opv ts x).rel g (ac.eval x) → (opv ts y).rel g (ac.eval y) →
        ∃ us vs : Array Value, ac.eval x = .agg us ∧ ac.eval y = .agg vs ∧ P.eqGuardType P.depth t = false ∧ (Op.equalIn 10000 t (.agg us) (.agg vs)).run P w = .ok q w := by
      intro g ac w q hE hq q1 q2
      rw [hx0] at q1
      rw [hy0] at q2
      obtain ⟨us, e1, r1⟩ := q1
      obtain ⟨vs, e2, r2⟩ := q2
      obtain ⟨s1, s2, s3, s4⟩ := eqCh_ok a b q _ _ hq r1 r2
      rw [Bool.and_eq_true] at hE
      obtain ⟨hE, hZ⟩ := hE
      unfold szB at hZ
      split at hZ
      · rename_i sz hsz
        have hZ := Nat.eq_of_beq_eq_true hZ
        obtain ⟨d, _, _, hs⟩ := ty_agg (hC.ty t) hsz
        obtain ⟨hg, he⟩ := hC.eq t hE
        refine ⟨us, vs, e1, e2, hg, ?_⟩
        have := he us.toList vs.toList s1 s2 (by rw [hs, chsRel_size _ _ r1, hZ]) s3 9996 w
        simpa [s4] using this
      · cases hZ
    split at h
    · rename_i q hE hq
      refine ⟨_, _, _, exec_pure fun g ac w hx => ?_, h⟩
      obtain ⟨us, vs, e1, e2, e3, e4⟩ := key g ac w q hE hq (hx x (by simp [ho, Op.operands])) (hx y (by simp [ho, Op.operands]))
      refine ⟨.bool q, ?_, rfl⟩
      simp only [execOp, ho, e1, e2, Sem.run_bind, run_eqGuard_agg w _ _ _ _ _ _ e3, Result.andThen_ok, run_eql_struct, e4, Sem.run_pure]
    · rename_i q hE hq
      refine ⟨_, _, _, exec_pure fun g ac w hx => ?_, h⟩
      obtain ⟨us, vs, e1, e2, e3, e4⟩ := key g ac w q hE hq (hx x (by simp [ho, Op.operands])) (hx y (by simp [ho, Op.operands]))
      refine ⟨.bool (!q), ?_, rfl⟩
      simp only [execOp, ho, e1, e2, Sem.run_bind, run_eqGuard_agg w _ _ _ _ _ _ e3, Result.andThen_ok, run_neq_struct, e4, Sem.run_pure]
    · exact h
  · exact h

end Go.Ev
namespace Go.Ev
open Go

variable {P : Program} {S : Nat → Prop} {w0 : World} {C : Cx} {o : Oper} {ts : List AV} {mem : List Blk} {K : OK3}

theorem conv_ok (hC : CxOk P C) {t t' : TypeId} {x : Operand} (ho : o.op = .convert t t' x) (h : convK P S w0 C o ts mem K t t' x) : byHand P S w0 o ts mem K := by
  unfold convK at h
  split at h
  · rename_i k a k0 k' hx0 hT hT'
    have h1 := hC.ty t
    have h2 := hC.ty t'
    rw [hT] at h1
    rw [hT'] at h2
    refine ⟨_, _, _, exec_pure fun g ac w hx => ?_, h⟩
    have q := hx x (by simp [ho, Op.operands])
    rw [hx0] at q
    refine ⟨.int k' (k'.wrap a), ?_, ⟨rfl, has_wrap _ _⟩⟩
    simp [execOp, ho, q.1, convert, run_underlying' h1.2, run_underlying' h2.2, Conv.intToInt]
  · exact h

theorem un_ok {op : UnOp} {t : TypeId} {x : Operand} (ho : o.op = .unOp op t x) (h : unK P S w0 o ts mem K op x) : byHand P S w0 o ts mem K := by
  unfold unK at h
  split at h
  · rename_i b hx0
    refine ⟨_, _, _, exec_pure fun g ac w hx => ?_, h⟩
    have q := hx x (by simp [ho, Op.operands])
    rw [hx0] at q
    have q : ac.eval x = .bool b := q
    exact ⟨.bool (!b), by simp [execOp, ho, q, Op.unary], rfl⟩
  · rename_i k a hx0
    refine ⟨_, _, _, exec_pure fun g ac w hx => ?_, h⟩
    have q := hx x (by simp [ho, Op.operands])
    rw [hx0] at q
    exact ⟨.int k (k.wrap (0 - a)), by simp [execOp, ho, q.1, Op.unary, Op.intArith], ⟨rfl, has_wrap _ _⟩⟩
  · exact h

theorem extr_ok {x : Operand} {i : Nat} (ho : o.op = .extract x i) (h : extrK P S w0 o ts mem K x i) : byHand P S w0 o ts mem K := by
  unfold extrK at h
  split at h
  · rename_i xs hx0
    split at h
    · rename_i ab hab
      rw [xth_eq] at hab
      refine ⟨_, _, _, exec_pure fun g ac w hx => ?_, h⟩
      have q := hx x (by simp [ho, Op.operands])
      rw [hx0] at q
      obtain ⟨a, e, hr⟩ := q
      obtain ⟨v, h1, h2⟩ := absRel_get xs _ i ab hr hab
      have h1 : a[i]? = some v := by rw [← Array.getElem?_toList]; exact h1
      exact ⟨v, by simp [execOp, ho, e, Instr.extract, h1], h2⟩
    · exact h
  · exact h

theorem move_ok {x : Operand} (ho : o.op = .move x ∨ o.op = .assign x) (h : K (opv ts x) noEff []) : byHand P S w0 o ts mem K := by
  refine ⟨_, _, _, exec_pure fun g ac w hx => ?_, h⟩
  have q := hx x (by rcases ho with ho | ho <;> simp [ho, Op.operands])
  exact ⟨ac.eval x, by rcases ho with ho | ho <;> simp [execOp, ho], q⟩

theorem pick_ok {c a b : Operand} {t : Bool} (ho : o.op = .pick c a b) (hc : opv ts c = .b (.cv (.bool t))) (h : pickK t (opv ts a) (opv ts b) fun av => K av noEff []) : byHand P S w0 o ts mem K := by
  have hrun : ∀ (g : GM) (ac : Act) (w : World), (∀ x ∈ o.op.operands, (opv ts x).rel g (ac.eval x)) → (execOp ac.eval o).run P w = .ok (.value (if t then ac.eval a else ac.eval b)) w := by
    intro g ac w hx
    have q := hx c (by simp [ho, Op.operands])
    rw [hc] at q
    have q : ac.eval c = .bool t := q
    simp [execOp, ho, q, asBool]
  unfold pickK at h
  split at h
  · rename_i x y ha hb
    refine ⟨_, _, _, exec_pure fun g ac w hx => ⟨_, hrun g ac w hx, ?_⟩, h⟩
    have q1 := hx a (by simp [ho, Op.operands])
    have q2 := hx b (by simp [ho, Op.operands])
    rw [ha] at q1
    rw [hb] at q2
    have q1 : ac.eval a = .bool x := q1
    have q2 : ac.eval b = .bool y := q2
    show _ = Value.bool (cond t x y)
    rw [q1, q2]; cases t <;> rfl
  · split at h
    · refine ⟨_, _, _, exec_pure fun g ac w hx => ⟨_, hrun g ac w hx, ?_⟩, h⟩
      exact hx a (by simp [ho, Op.operands])
    · refine ⟨_, _, _, exec_pure fun g ac w hx => ⟨_, hrun g ac w hx, ?_⟩, h⟩
      exact hx b (by simp [ho, Op.operands])

theorem two_args {ts : List AV} {l : List Operand} {x y : AV} (h : l.map (opv ts) = [x, y]) : ∃ a b, l = [a, b] ∧ opv ts a = x ∧ opv ts b = y := by
  cases l with
  | nil => simp at h
  | cons a l => cases l with
    | nil => simp at h
    | cons b l => cases l with
      | nil => simp at h; exact ⟨a, b, rfl, h.1, h.2⟩
      | cons => simp at h
theorem call_ok (hC : CxOk P C) {c : Call} (ho : o.op = .call c) (h : callK P S w0 C o ts mem K c) : byHand P S w0 o ts mem K := by
  unfold callK at h
  split at h
  · rename_i fx hfx
    split at h
    · rename_i f fs cs xs hf hxs
      split at h
      · rename_i p r e rd hr
        exact ⟨_, _, _, exec_call ho hfx hf hxs (hC.O _ _ _ _ _ _ _ hr h.1 S w0), h.2⟩
      · obtain ⟨rd, r, e, h1, h2⟩ := h
        exact ⟨_, _, _, exec_call ho hfx hf hxs h1, h2⟩
    · exact h
  · rename_i hb
    split at h
    · rename_i l off i n cc e esz hl hT
      refine ⟨_, _, _, exec_pure fun g ac w hx => ?_, h⟩
      obtain ⟨x, hax, hx0⟩ : ∃ x, c.args.toList = [x] ∧ opv ts x = .b (.cv (.sl l off i n cc)) := by
        cases hq : c.args.toList with
        | nil => rw [hq] at hl; simp at hl
        | cons x r => cases r with
          | nil => rw [hq] at hl; simp at hl; exact ⟨x, rfl, hl⟩
          | cons => rw [hq] at hl; simp at hl
      obtain ⟨t, hat, ht⟩ : ∃ t, c.argTypes.toList = [t] ∧ C.T t = .slice e esz := by
        cases hq : c.argTypes.toList with
        | nil => rw [hq] at hT; simp at hT
        | cons x r => cases r with
          | nil => rw [hq] at hT; simp at hT; exact ⟨x, rfl, hT⟩
          | cons => rw [hq] at hT; simp at hT
      have q := hx x (by simp only [ho, Op.operands, Call.operands, hb]; rw [Array.mem_append]; exact .inr (Array.mem_toList_iff.1 (by rw [hax]; simp)))
      rw [hx0] at q
      have hty := hC.ty t
      rw [ht] at hty
      have hbd : n ≤ 9223372036854775807 ∧ ∃ bs cap, ac.eval x = .slice bs n cap := by
        rcases q with ⟨r1, _, ad, r3⟩ | ⟨h1, cap, h1', h2, b, hgb, hrm, hv⟩
        · exact ⟨by omega, ad, 0, by rw [r1]; exact r3⟩
        · exact ⟨by omega, _, cap, hv⟩
      obtain ⟨h2, bs, cap, hv⟩ := hbd
      refine ⟨.int .i64 n, ?_, ⟨rfl, ?_⟩⟩
      · have e1 : c.args = #[x] := by rw [← Array.toList_inj]; exact hax
        have e2 : c.argTypes = #[t] := by rw [← Array.toList_inj]; exact hat
        simp [execOp, ho, resolve, hb, invoke, builtin, e1, e2, Builtin.len_, run_underlying' hty.2.1, hv, goInt]
      · have q1 : IntKind.i64.min = -9223372036854775808 := rfl
        have q2 : IntKind.i64.max = 9223372036854775807 := rfl
        unfold IntKind.has
        rw [q1, q2]
        show _ ∧ (n : Int) ≤ _
        constructor
        · show _ ≤ (n : Int); omega
        · omega
    · rename_i A n cc e esz hl hT
      obtain ⟨hbn, h⟩ := obl_ok h
      have hbn := Nat.le_of_ble_eq_true hbn
      refine ⟨_, _, _, exec_pure fun g ac w hx => ?_, h⟩
      obtain ⟨x, hax, hx0⟩ : ∃ x, c.args.toList = [x] ∧ opv ts x = .b (.cv (.v (.slice A n cc))) := by
        cases hq : c.args.toList with
        | nil => rw [hq] at hl; simp at hl
        | cons x r => cases r with
          | nil => rw [hq] at hl; simp at hl; exact ⟨x, rfl, hl⟩
          | cons => rw [hq] at hl; simp at hl
      obtain ⟨t, hat, ht⟩ : ∃ t, c.argTypes.toList = [t] ∧ C.T t = .slice e esz := by
        cases hq : c.argTypes.toList with
        | nil => rw [hq] at hT; simp at hT
        | cons x r => cases r with
          | nil => rw [hq] at hT; simp at hT; exact ⟨x, rfl, hT⟩
          | cons => rw [hq] at hT; simp at hT
      have q := hx x (by simp only [ho, Op.operands, Call.operands, hb]; rw [Array.mem_append]; exact .inr (Array.mem_toList_iff.1 (by rw [hax]; simp)))
      rw [hx0] at q
      have hv : ac.eval x = .slice A n cc := q
      have hty := hC.ty t
      rw [ht] at hty
      refine ⟨.int .i64 n, ?_, ⟨rfl, ?_⟩⟩
      · have e1 : c.args = #[x] := by rw [← Array.toList_inj]; exact hax
        have e2 : c.argTypes = #[t] := by rw [← Array.toList_inj]; exact hat
        simp [execOp, ho, resolve, hb, invoke, builtin, e1, e2, Builtin.len_, run_underlying' hty.2.1, hv, goInt]
      · have q1 : IntKind.i64.min = -9223372036854775808 := rfl
        have q2 : IntKind.i64.max = 9223372036854775807 := rfl
        unfold IntKind.has
        rw [q1, q2]
        constructor
        · show _ ≤ (n : Int); omega
        · show (n : Int) ≤ _; omega
    · rename_i s hl hT
      obtain ⟨hbn, h⟩ := obl_ok h
      have hbn := Nat.le_of_ble_eq_true hbn
      refine ⟨_, _, _, exec_pure fun g ac w hx => ?_, h⟩
      obtain ⟨x, hax, hx0⟩ : ∃ x, c.args.toList = [x] ∧ opv ts x = .b (.cv (.v (.string s))) := by
        cases hq : c.args.toList with
        | nil => rw [hq] at hl; simp at hl
        | cons x r => cases r with
          | nil => rw [hq] at hl; simp at hl; exact ⟨x, rfl, hl⟩
          | cons => rw [hq] at hl; simp at hl
      obtain ⟨t, hat, ht⟩ : ∃ t, c.argTypes.toList = [t] ∧ C.T t = .str := by
        cases hq : c.argTypes.toList with
        | nil => rw [hq] at hT; simp at hT
        | cons x r => cases r with
          | nil => rw [hq] at hT; simp at hT; exact ⟨x, rfl, hT⟩
          | cons => rw [hq] at hT; simp at hT
      have q := hx x (by simp only [ho, Op.operands, Call.operands, hb]; rw [Array.mem_append]; exact .inr (Array.mem_toList_iff.1 (by rw [hax]; simp)))
      rw [hx0] at q
      have hv : ac.eval x = .string s := q
      have hty := hC.ty t
      rw [ht] at hty
      refine ⟨.int .i64 s.size, ?_, ⟨rfl, ?_⟩⟩
      · have e1 : c.args = #[x] := by rw [← Array.toList_inj]; exact hax
        have e2 : c.argTypes = #[t] := by rw [← Array.toList_inj]; exact hat
        simp [execOp, ho, resolve, hb, invoke, builtin, e1, e2, Builtin.len_, run_underlying' hty.2, hv, goInt]
      · have q1 : IntKind.i64.min = -9223372036854775808 := rfl
        have q2 : IntKind.i64.max = 9223372036854775807 := rfl
        unfold IntKind.has
        rw [q1, q2]
        constructor
        · show _ ≤ (s.size : Int); omega
        · show (s.size : Int) ≤ _; omega
    · exact h
  · rename_i hb
    split at h
    · rename_i k x k' y hl
      split at h
      · rename_i hk
        have := kindB_eq hk; subst this
        refine ⟨_, _, _, exec_pure fun g ac w hx => ?_, h⟩
        obtain ⟨a, b, hab, ha0, hb0⟩ := two_args hl
        have q1 := hx a (by simp only [ho, Op.operands, Call.operands, hb]; rw [Array.mem_append]; exact .inr (Array.mem_toList_iff.1 (by rw [hab]; simp)))
        have q2 := hx b (by simp only [ho, Op.operands, Call.operands, hb]; rw [Array.mem_append]; exact .inr (Array.mem_toList_iff.1 (by rw [hab]; simp)))
        rw [ha0] at q1; rw [hb0] at q2
        have e1 : c.args = #[a, b] := by rw [← Array.toList_inj]; exact hab
        refine ⟨.int k (if y < x then y else x), ?_, ?_⟩
        · simp [execOp, ho, resolve, hb, invoke, builtin, e1, Builtin.min_, Builtin.min2, q1.1, q2.1]
        · have e2 : (bif iltB y x then y else x) = if y < x then y else x := by rw [iltB_eq]; simp [cond_eq_ite]
          rw [e2]
          refine ⟨rfl, ?_⟩
          split
          · exact q2.2
          · exact q1.2
      · exact h
    · exact h
  · rename_i hb
    split at h
    · rename_i k x k' y hl
      split at h
      · rename_i hk
        have := kindB_eq hk; subst this
        refine ⟨_, _, _, exec_pure fun g ac w hx => ?_, h⟩
        obtain ⟨a, b, hab, ha0, hb0⟩ := two_args hl
        have q1 := hx a (by simp only [ho, Op.operands, Call.operands, hb]; rw [Array.mem_append]; exact .inr (Array.mem_toList_iff.1 (by rw [hab]; simp)))
        have q2 := hx b (by simp only [ho, Op.operands, Call.operands, hb]; rw [Array.mem_append]; exact .inr (Array.mem_toList_iff.1 (by rw [hab]; simp)))
        rw [ha0] at q1; rw [hb0] at q2
        have e1 : c.args = #[a, b] := by rw [← Array.toList_inj]; exact hab
        refine ⟨.int k (if y > x then y else x), ?_, ?_⟩
        · simp [execOp, ho, resolve, hb, invoke, builtin, e1, Builtin.max_, Builtin.max2, q1.1, q2.1]
        · have e2 : (bif iltB x y then y else x) = if y > x then y else x := by rw [iltB_eq]; simp [cond_eq_ite]
          rw [e2]
          refine ⟨rfl, ?_⟩
          split
          · exact q2.2
          · exact q1.2
      · exact h
    · exact h
  · exact h

theorem caps0_ok {g : GM} : ∀ (l : List AV) (q : List Nat) (vs : List Value), caps0 l = some q → (∀ (i : Nat) (a : AV) (y : Value), l[i]? = some a → vs[i]? = some y → a.rel g y) → l.length = vs.length → capsRel g q vs
  | [], q, vs, h, _, hl => by
    simp only [caps0, Option.some.injEq] at h; subst h
    cases vs with
    | nil => rfl
    | cons => simp at hl
  | a :: r, q, vs, h, hr, hl => by
    cases vs with
    | nil => simp at hl
    | cons y ys =>
      unfold caps0 at h
      split at h
      · rename_i h0; cases h0
      · rename_i l r' h0
        injection h0 with e1 e2
        subst e1; subst e2
        split at h
        · rename_i q' hq
          injection h with h; subst h
          obtain ⟨b, hb, hv⟩ := hr 0 _ y rfl rfl
          exact ⟨b, ys, hb, by rw [hv], caps0_ok _ q' ys hq (fun i a z h1 h2 => hr (i + 1) a z (by simpa using h1) (by simpa using h2)) (by simpa using hl)⟩
        · cases h
      · cases h

theorem mk_ok {fn : Fn} {first captured : Array Operand} (ho : o.op = .makeFunc fn first captured) (h : mkK P S w0 o ts mem K fn first captured) : byHand P S w0 o ts mem K := by
  unfold mkK at h
  split at h
  · rename_i f q hf hq
    refine ⟨_, _, _, exec_pure fun g ac w hx => ?_, h⟩
    have e1 : first = #[] := by rw [← Array.toList_inj]; exact hf
    subst e1
    refine ⟨.func (.func f) #[] (captured.map ac.eval), by simp [execOp, ho, Instr.makeFunc], trivial, captured.map ac.eval, ?_, rfl⟩
    refine caps0_ok _ q _ hq (fun i a y h1 h2 => ?_) (by simp)
    rw [Array.toList_map] at h2
    simp only [List.getElem?_map, Option.map_eq_some_iff] at h1 h2
    obtain ⟨x, q1, rfl⟩ := h1
    obtain ⟨x', q2, rfl⟩ := h2
    rw [q1] at q2; injection q2 with q2; subst q2
    exact hx x (by simp only [ho, Op.operands]; exact Array.mem_append.2 (.inr (Array.mem_toList_iff.1 (List.mem_of_getElem? q1))))
  · exact h

theorem foldl_setL (vs : List Value) : ∀ (cs : Array Value) (off n : Nat), ((vs.zipIdx n).foldl (fun cs p => cs.setIfInBounds (off + p.2) p.1) cs) = setL cs (off + n) vs := by
  induction vs with
  | nil => intro cs off n; rfl
  | cons v vs ih => intro cs off n; rw [List.zipIdx_cons, List.foldl_cons, ih]; rfl

theorem updCell_ok {c : CV} : ∀ {cs cs' : List Ch} {off : Nat}, updCell c cs off = some cs' → ∀ (g : GM) (vs : List Value) (y : Value), chsRel g cs vs → y.oneCell' = true → c.rel g y → off + 1 ≤ vs.length ∧ chsRel g cs' (vs.set off y)
  | [], _, _, h => by simp [updCell] at h
  | x :: r, cs', off, h => by
    intro g vs y ⟨us, ws, e, h1, h2⟩ hy hc
    have hs := Ch.rel_size h1
    subst e
    unfold updCell at h
    split at h
    · rename_i hle
      have hle := Nat.le_of_ble_eq_true hle
      split at h
      · rename_i q hq
        injection h with h; subst h
        obtain ⟨q1, q2⟩ := updCell_ok hq g ws y h2 hy hc
        refine ⟨by simp; omega, us, ws.set (off - x.size) y, ?_, h1, q2⟩
        rw [List.set_append_right _ _ (by omega), hs]
      · cases h
    · rename_i hle
      have hlt : off < x.size := by
        rcases Nat.lt_or_ge off x.size with h | h
        · exact h
        · rw [Nat.ble_eq_true_of_le h] at hle; cases hle
      split at h
      · rename_i n f
        injection h with h; subst h
        have hsz : off < us.length := by omega
        refine ⟨by simp; omega, us.set off y, ws, by rw [List.set_append_left _ _ hsz], ⟨by rw [List.length_set]; exact h1.1, fun j z hz => ?_⟩, h2⟩
        unfold fupd
        by_cases e : j = off
        · subst e
          rw [Nat.beq_refl]
          rw [List.getElem?_set_self hsz] at hz
          injection hz with hz; subst hz; exact ⟨hy, hc⟩
        · have : Nat.beq j off = false := by cases hb : Nat.beq j off with | false => rfl | true => exact absurd (Nat.eq_of_beq_eq_true hb) e
          rw [this]
          rw [List.getElem?_set_ne (Ne.symm e)] at hz
          exact h1.2 j z hz
      · cases h
theorem set_splice {vs : List Value} {off : Nat} {y : Value} (h : off + 1 ≤ vs.length) : vs.set off y = vs.take off ++ ([y] ++ vs.drop (off + 1)) := by
  rw [List.set_eq_take_append_cons_drop, if_pos (by omega)]; simp
theorem putCh_ok {g : GM} {cs cs' new : List Ch} {off sz : Nat} (hr : putCh new sz cs off = some cs') {vs us : List Value} (hv : chsRel g cs vs) (hu : chsRel g new us) (hl : us.length = sz) :
    off + sz ≤ vs.length ∧ chsRel g cs' (vs.take off ++ (us ++ vs.drop (off + sz))) := by
  unfold putCh at hr
  split at hr
  · rename_i q hq
    injection hr with hr; subst hr
    exact chsRel_splice hq hv hu hl
  · split at hr
    · rename_i c
      split at hr
      · rename_i hsz
        have := Nat.eq_of_beq_eq_true hsz; subst this
        obtain ⟨us1, us2, rfl, ⟨y, rfl, hy, hc⟩, h2⟩ := hu
        rw [show us2 = [] from h2, List.append_nil]
        obtain ⟨q1, q2⟩ := updCell_ok hr g vs y hv hy hc
        exact ⟨by omega, by rw [← set_splice (by omega)]; exact q2⟩
      · cases hr
    · cases hr
theorem repL_ok {g : GM} {z : List Ch} {vs : List Value} (h : chsRel g z vs) : ∀ n, chsRel g (repL n z) ((List.replicate n vs).flatten)
  | 0 => rfl
  | n + 1 => by
    rw [repL, appCh_eq, List.replicate_succ, List.flatten_cons]
    exact (chsRel_append _ _ _).2 ⟨vs, _, rfl, h, repL_ok h n⟩
theorem repCh_ok {g : GM} {z : List Ch} {vs : List Value} (h : chsRel g z vs) (n : Nat) : chsRel g (repCh n z) ((List.replicate n vs).flatten) := by
  unfold repCh
  split
  · rename_i c
    obtain ⟨us, ws, rfl, ⟨y, rfl, hy, hc⟩, h2⟩ := h
    rw [show ws = [] from h2, List.append_nil]
    have e : (List.replicate n [y]).flatten = List.replicate n y := by simp [List.flatten_replicate_singleton]
    rw [e]
    refine ⟨List.replicate n y, [], by simp, ⟨by simp, fun i u hi => ?_⟩, rfl⟩
    rw [List.getElem?_replicate] at hi
    split at hi
    · injection hi with hi; subst hi; exact ⟨hy, hc⟩
    · cases hi
  · exact repL_ok h n
theorem flat_get {L : List Value} (hk : 0 < L.length) : ∀ (n i : Nat), i < n * L.length → (List.replicate n L).flatten[i]? = L[i % L.length]?
  | 0, i, h => by omega
  | n + 1, i, h => by
    rw [List.replicate_succ, List.flatten_cons]
    by_cases hi : i < L.length
    · rw [List.getElem?_append_left hi, Nat.mod_eq_of_lt hi]
    · rw [List.getElem?_append_right (by omega), flat_get hk n (i - L.length) (by rw [Nat.add_mul] at h; omega)]
      rw [Nat.mod_eq_sub_mod (a := i) (by omega)]
theorem zero_row {z : Array Value} (hk : 0 < z.size) (n : Nat) : ((Array.range (n * z.size)).map (z[· % z.size]!)).toList = (List.replicate n z.toList).flatten := by
  apply List.ext_getElem?
  intro i
  by_cases hi : i < n * z.size
  · rw [flat_get (by rw [Array.length_toList]; exact hk) n i (by rw [Array.length_toList]; exact hi)]
    have hm : i % z.size < z.size := Nat.mod_lt _ hk
    simp [hi, hm]
  · rw [List.getElem?_eq_none (by simp; omega), List.getElem?_eq_none (by simp; omega)]

theorem parts_ok {g : GM} {ac : Act} {place : Nat → Option (Nat × Nat)} : ∀ (parts : List (Nat × Operand)) (cs cs' : List Ch) (vs : Array Value), partsK C place (parts.map fun p => (p.1, opv ts p.2)) cs = some cs' → chsRel g cs vs.toList →
    (∀ p ∈ parts, (opv ts p.2).rel g (ac.eval p.2)) → ∃ vs', Instr.fill place vs (parts.map fun p => (p.1, ac.eval p.2)) = some vs' ∧ chsRel g cs' vs'.toList
  | [], cs, cs', vs, h, hr, _ => by
    simp only [List.map_nil, partsK, Option.some.injEq] at h; subst h
    exact ⟨vs, rfl, hr⟩
  | (i, x) :: parts, cs, cs', vs, h, hr, hx => by
    simp only [List.map_cons, partsK] at h
    split at h
    · rename_i p new hp hnew
      split at h
      · rename_i c2 hl hrep
        have hl := Nat.eq_of_beq_eq_true hl
        have h1 : chsRel g new (ac.eval x).cells.toList := chsOf_rel hnew (hx (i, x) (List.mem_cons_self ..))
        have h2 := chsRel_size _ _ h1
        obtain ⟨h3, h4⟩ := putCh_ok hrep hr h1 (by omega)
        have h5 : chsRel g c2 (setL vs p.1 (ac.eval x).cells.toList).toList := by
          rw [setL_toList _ _ _ (by rw [Array.length_toList] at h3; omega), h2, hl]; exact h4
        obtain ⟨vs', h6, h7⟩ := parts_ok parts c2 cs' _ h h5 fun q hq => hx q (List.mem_cons_of_mem _ hq)
        refine ⟨vs', ?_, h7⟩
        simp only [List.map_cons, Instr.fill, hp]
        rw [Array.length_toList] at h2 h3
        have hc : ((ac.eval x).cells.size ≠ p.2 || p.1 + (ac.eval x).cells.size > vs.size) = false := by
          rw [Bool.or_eq_false_iff]; constructor
          · simp; omega
          · simp; omega
        obtain ⟨po, ps⟩ := p
        simp only at hc h3 hl ⊢
        simp only [hc, Bool.false_eq_true, if_false]
        rw [← h6]
        congr 1
        have := foldl_setL (ac.eval x).cells.toList vs po 0
        rw [Nat.add_zero] at this
        rw [← this, ← Array.foldl_toList, Array.toList_zipIdx]
      · cases h
    · cases h

theorem mapM_places (F : Array Field) (w : World) (hs : ∀ f ∈ F.toList, P.cellsOf f.type ≠ 0) : (F.mapM fun f => (do pure (f.offset, ← sizeOf f.type) : Sem (Nat × Nat))).run P w = .ok (F.map fun f => (f.offset, P.cellsOf f.type)) w := by
  have key : ∀ (l : List Field) (hs : ∀ f ∈ l, P.cellsOf f.type ≠ 0), (l.mapM fun f => (do pure (f.offset, ← sizeOf f.type) : Sem (Nat × Nat))).run P w = .ok (l.map fun f => (f.offset, P.cellsOf f.type)) w := by
    intro l
    induction l with
    | nil => intro _; simp
    | cons f l ih =>
      intro hs
      have hne := hs f (List.mem_cons_self ..)
      have hsz : (P.info? f.type).map (·.size) = some (P.cellsOf f.type) := by
        unfold Program.cellsOf at hne ⊢
        cases hq : (P.info? f.type).map (·.size) with
        | none => rw [hq] at hne; simp at hne
        | some n => rfl
      rw [List.mapM_cons, Sem.run_bind, Sem.run_bind, run_sizeOf' hsz]
      simp only [Result.andThen_ok, Sem.run_pure, Sem.run_bind, ih fun f' h' => hs f' (List.mem_cons_of_mem _ h'), List.map_cons]
  rw [Array.mapM_eq_mapM_toList, Sem.run_map, key _ hs]
  simp only [Result.andThen_ok]
  congr 1
  apply Array.toList_inj.1; simp

theorem build_ok (hC : CxOk P C) {t : TypeId} {parts : Array (Nat × Operand)} (ho : o.op = .build t parts) (h : buildK P S w0 C o ts mem K t parts) : byHand P S w0 o ts mem K := by
  unfold buildK at h
  have hty := hC.ty t
  split at h
  · rename_i fs sz z hT
    rw [hT] at hty
    obtain ⟨v, F, hz, hu, hfs, hnz, hzr⟩ := hty
    split at h
    · rename_i cs hcs
      refine ⟨_, _, _, exec_pure fun g ac w hx => ?_, h⟩
      have hxp : ∀ p ∈ parts.toList, (opv ts p.2).rel g (ac.eval p.2) := fun p hp => hx p.2 (by simp only [ho, Op.operands, List.mem_toArray, List.mem_map]; exact ⟨p, hp, rfl⟩)
      obtain ⟨vs', h1, h2⟩ := parts_ok parts.toList z cs v hcs (hzr g) hxp
      refine ⟨.agg vs', ?_, ⟨vs', rfl, h2⟩⟩
      have hpl : (fun i => ((F.map fun f => (f.offset, P.cellsOf f.type))[i]? : Option (Nat × Nat))) = fld fs := by
        funext i
        rw [fld_eq, ← hfs]
        simp [List.getElem?_map]
      have hm := mapM_places (P := P) F w fun f hf => hnz (f.offset, P.cellsOf f.type) (by rw [← hfs]; exact List.mem_map_of_mem hf)
      simp only [execOp, ho, Instr.build, Sem.run_bind, (run_zero' hz w).1, Result.andThen_ok, run_underlying' hu, hm, hpl]
      have hpm : (parts.map fun p => (p.1, ac.eval p.2)).toList = parts.toList.map fun p => (p.1, ac.eval p.2) := by simp
      rw [hpm, show Value.cells (.agg v) = v from rfl, h1]
      rfl
    · exact h
  · rename_i n e esz z hT
    rw [hT] at hty
    obtain ⟨v, hz, hu, hs, hn, hzr⟩ := hty
    split at h
    · rename_i z' hp
      refine ⟨_, _, _, exec_pure fun g ac w hx => ?_, h⟩
      refine ⟨.agg v, ?_, ⟨v, rfl, hzr g⟩⟩
      have e1 : parts = #[] := by rw [← Array.toList_inj]; exact hp
      subst e1
      simp [execOp, ho, Instr.build, (run_zero' hz w).1, run_underlying' hu, run_sizeOf' hs, Instr.fill, Value.cells]
    · rename_i x n0 hp
      split at h
      · rename_i q hx0 hes
        have hes := Nat.eq_of_beq_eq_true hes; subst hes
        refine ⟨_, _, _, exec_pure fun g ac w hx => ?_, h⟩
        have hxm : x ∈ o.op.operands := by simp only [ho, Op.operands, List.mem_toArray, List.mem_map]; exact ⟨(0, x), by rw [hp]; simp, rfl⟩
        have q1 := hx x hxm
        rw [hx0] at q1
        obtain ⟨us, ws, e0, hnum, e2⟩ := hzr g
        have hws : ws = [] := e2
        subst hws
        rw [List.append_nil] at e0
        have hnum' := hnum
        obtain ⟨_, e3⟩ := hnum
        have hset : (Ch.num (setl 0 q.toNat n0)).rel g (us.set 0 (ac.eval x)) := by
          obtain ⟨c', hc', _, _, h5⟩ := upd_ok (c := .num n0) (i := 0) (v := .int .u64 q) (K := fun c => c = .num (setl 0 q.toNat n0)) (show obl (Nat.blt 0 4) _ from obl_of (by decide) rfl) rfl
          rw [← hc']; exact h5 g us _ hnum' q1
        have e1 : parts = #[(0, x)] := by rw [← Array.toList_inj]; exact hp
        subst e1
        refine ⟨.agg (v.setIfInBounds 0 (ac.eval x)), ?_, ⟨_, rfl, ⟨_, [], (List.append_nil _).symm, ?_, rfl⟩⟩⟩
        · have hsz : v.size = 4 := by rw [← Array.length_toList, e0, e3]; rfl
          have hne : ¬ v = #[] := fun h => by rw [h] at hsz; simp at hsz
          simp [execOp, ho, Instr.build, (run_zero' hz w).1, run_underlying' hu, run_sizeOf' hs, Instr.fill, Value.cells, q1.1, hne]
        · rw [Array.toList_setIfInBounds, e0]; exact hset
      · exact h
    · split at h
      · rename_i cs hcs
        refine ⟨_, _, _, exec_pure fun g ac w hx => ?_, h⟩
        have hxp : ∀ p ∈ parts.toList, (opv ts p.2).rel g (ac.eval p.2) := fun p hp => hx p.2 (by simp only [ho, Op.operands, List.mem_toArray, List.mem_map]; exact ⟨p, hp, rfl⟩)
        obtain ⟨vs', h1, h2⟩ := parts_ok parts.toList _ cs v hcs (hzr g) hxp
        refine ⟨.agg vs', ?_, ⟨vs', rfl, h2⟩⟩
        have hpm : (parts.map fun p => (p.1, ac.eval p.2)).toList = parts.toList.map fun p => (p.1, ac.eval p.2) := by simp
        simp only [execOp, ho, Instr.build, Sem.run_bind, (run_zero' hz w).1, Result.andThen_ok, run_underlying' hu, run_sizeOf' hs]
        rw [hpm, show Value.cells (.agg v) = v from rfl, h1]
        rfl
      · exact h
  · exact h

theorem zero_size {t : Nat} {ti : TI} {z : List Ch} (hT : TyOk P t ti) (h : zeroOf ti = some z) {v : Value} (hv : ∀ w, (zeroValue t).run P w = .ok v w) : v.cells.size = chsSize z := by
  obtain ⟨v', h1, h2⟩ := zeroOf_rel hT h
  have h3 := hv default
  rw [h1 default] at h3
  injection h3 with h3; subst h3
  rw [← Array.length_toList]; exact chsRel_size _ _ (h2 (fun _ => none))

theorem fill_size (place : Nat → Option (Nat × Nat)) : ∀ (parts : List (Nat × Value)) (cs cs' : Array Value), Instr.fill place cs parts = some cs' → cs'.size = cs.size
  | [], cs, cs', h => by simp only [Instr.fill, Option.some.injEq] at h; rw [h]
  | (i, v) :: r, cs, cs', h => by
    simp only [Instr.fill] at h
    split at h
    · cases h
    · split at h
      · cases h
      · rename_i po ps _ _
        have := fill_size place r _ cs' h
        rw [this, ← Array.foldl_toList, Array.toList_zipIdx]
        have h2 := foldl_setL v.cells.toList cs po 0
        rw [h2, setL_size]

theorem buildSl_ok (hC : CxOk P C) {t : TypeId} {len : Nat} {parts : Array (Nat × Operand)} (ho : o.op = .buildSlice t len parts) (h : buildSlK P S w0 C o ts mem K t len parts) : byHand P S w0 o ts mem K := by
  unfold buildSlK at h
  have hty := hC.ty t
  split at h
  · rename_i e esz hT
    rw [hT] at hty
    obtain ⟨_, hu, hs⟩ := hty
    split at h
    · rename_i z hz
      split at h
      · rename_i cs hcs
        obtain ⟨hb, h⟩ := obl_ok h
        simp only [Bool.and_eq_true, Nat.ble_eq, Nat.blt_eq, Bool.not_eq_true'] at hb
        obtain ⟨hb1, hb2, hsl, hz2⟩ := hb
        have hz2 := Nat.eq_of_beq_eq_true hz2
        obtain ⟨v, hv, hzr⟩ := zeroOf_rel (hC.ty e) hz
        refine ⟨_, _, _, exec_new (mk := esz - 1) hsl fun g ac w hx _ _ hfr => ?_, h⟩
        have hxp : ∀ p ∈ parts.toList, (opv ts p.2).rel (g.ext mem.length ⟨w.heap.size, len * esz, emk (esz - 1)⟩) (ac.eval p.2) := fun p hp => AV.rel_mono (GM.ext_le hfr) (hx p.2 (by simp only [ho, Op.operands, List.mem_toArray, List.mem_map]; exact ⟨p, hp, rfl⟩))
        have hzs : v.cells.size = esz := by rw [zero_size (hC.ty e) hz hv]; exact hz2
        have hrow := zero_row (z := v.cells) (by omega) len
        have hrow2 : ((Array.range (len * esz)).map ((if len * esz = 0 then #[] else v.cells)[· % (if len * esz = 0 then #[] else v.cells).size]!)).toList = (List.replicate len v.cells.toList).flatten := by
          split
          · rename_i h0
            have : len = 0 := by rcases Nat.mul_eq_zero.1 h0 with h | h <;> omega
            subst this; simp
          · rw [← hzs]; exact hrow
        have hz3 : chsRel (g.ext mem.length ⟨w.heap.size, len * esz, emk (esz - 1)⟩) (repCh len z) ((Array.range (len * esz)).map ((if len * esz = 0 then #[] else v.cells)[· % (if len * esz = 0 then #[] else v.cells).size]!)).toList := by
          rw [hrow2]; exact repCh_ok (hzr _) len
        obtain ⟨vs', h1, h2⟩ := parts_ok parts.toList (repCh len z) cs _ hcs hz3 hxp
        have hvs : vs'.size = len * esz := by
          have := fill_size _ _ _ _ h1
          rw [this]; simp
        refine ⟨.slice (some ⟨w.heap.size, 0, none⟩) len len, vs', e, (0, 0), 0, ?_, ?_, ?_, fun off _ => by simp⟩
        · have hpm : (parts.map fun p => (p.1, ac.eval p.2)).toList = parts.toList.map fun p => (p.1, ac.eval p.2) := by simp
          have hnb : ¬ (len * esz > 2 ^ 24) := by rw [show (2 : Nat) ^ 24 = 16777216 by decide]; omega
          by_cases h0 : len * esz = 0
          · simp only [if_pos h0] at h1
            simp only [execOp, ho, Instr.buildSlice, Sem.run_bind, run_underlying' hu, run_sizeOf' hs, Result.andThen_ok, if_neg hnb, if_pos h0, Sem.run_pure]
            rw [hpm, h1]
            rfl
          · simp only [if_neg h0] at h1
            simp only [execOp, ho, Instr.buildSlice, Sem.run_bind, run_underlying' hu, run_sizeOf' hs, Result.andThen_ok, if_neg hnb, if_neg h0, hv, Sem.run_pure]
            rw [hpm, h1]
            rfl
        · exact .inr ⟨Nat.le_refl _, len, Nat.le_refl _, by have := Nat.le_mul_of_pos_right len hb2; omega, _, GM.ext_same _ _ _, by
            show 0 + 0 + len * emk (esz - 1) ≤ vs'.size
            have hem : emk (esz - 1) = esz := by
              have h9 : Nat.ble EXTM (esz - 1) = false := hsl
              unfold emk; rw [h9]; show esz - 1 + 1 = esz; omega
            rw [hem, hvs]; omega, rfl⟩
        · exact ⟨vs'.toList, [], by simp, by rw [hvs]; exact h2⟩
      · exact h
    · exact h
  · exact h

theorem opK_ok (hC : CxOk P C) (h : opK P S w0 C o ts mem K) : byHand P S w0 o ts mem K := by
  unfold opK at h
  split at h
  · rename_i x ho; exact move_ok (.inl ho) h
  · rename_i x ho; exact move_ok (.inr ho) h
  · rename_i c a b ho
    split at h
    · rename_i t hc; exact pick_ok ho hc h
    · exact h
  · rename_i t ho
    split at h
    · rename_i z hz; exact ⟨_, _, _, exec_alloc ho (hC.ty t) hz, h⟩
    · exact h
  · rename_i t x ho
    split at h
    · rename_i cs hcs; exact ⟨_, _, _, exec_box ho hcs, h⟩
    · exact h
  · rename_i t parts ho; exact build_ok hC ho h
  · rename_i t len parts ho; exact buildSl_ok hC ho h
  · rename_i t x ho; exact load_ok hC ho h
  · rename_i t x y ho; exact store_ok hC ho h
  · rename_i x ho
    split at h
    · rename_i l off i hx0
      refine ⟨_, _, _, exec_pure fun g ac w hx => ?_, h⟩
      have q := hx x (by simp [ho, Op.operands])
      rw [hx0] at q
      obtain ⟨b, hb, hv⟩ := q
      exact ⟨_, by simp [execOp, ho, hv], ⟨b, hb, rfl⟩⟩
    · rename_i a hx0
      refine ⟨_, _, _, exec_pure fun g ac w hx => ?_, h⟩
      have q := hx x (by simp [ho, Op.operands])
      rw [hx0] at q
      have q : ac.eval x = .pointer (some a) := q
      exact ⟨_, by simp [execOp, ho, q], rfl⟩
    · rename_i f fs cs hx0
      refine ⟨_, _, _, exec_pure fun g ac w hx => ?_, h⟩
      have q := hx x (by simp [ho, Op.operands])
      rw [hx0] at q
      obtain ⟨h1, ws, h2, hv⟩ := q
      exact ⟨_, by simp [execOp, ho, hv], ⟨h1, ws, h2, rfl⟩⟩
    · exact h
  · rename_i op t x y t' ho; exact bin_ok hC ho h
  · rename_i op t x ho; exact un_ok ho h
  · rename_i t t' x ho; exact conv_ok hC ho h
  · rename_i fn first captured ho; exact mk_ok ho h
  · rename_i t x f ho; exact field_ok hC ho h
  · rename_i t x y ho; exact index_ok hC ho h
  · rename_i x i ho; exact extr_ok ho h
  · rename_i t x lo hi ho; exact slice_ok hC ho h
  · rename_i t x ho; exact arrayAt_ok hC ho h
  · rename_i t x y ho; exact indexV_ok hC ho h
  · rename_i c ho; exact call_ok hC ho h
  · exact h

end Go.Ev
