/- The evaluator of operations: one definition, and that it is right. No condition. -/
import Derived.Test.YtacjiajijigebaaEvG
namespace Go.Ev
open Go

abbrev OK3 := AV → Eff → List Nat → Prop

/-- What the evaluator is told of the program: its types, which of them are compared word by word, and what is known of functions. -/
structure Cx where
  T : Nat → TI
  eq : Nat → Bool
  O : FuncId → List AB → List Blk → Option (Prop × AV × Eff × List Nat)

structure CxOk (P : Program) (C : Cx) : Prop where
  ty : ∀ t, TyOk P t (C.T t)
  eq : ∀ t, C.eq t = true → EqOk P t
  O : ∀ f args mem p r e rd, C.O f args mem = some (p, r, e, rd) → p → ∀ S w0, CallOk P S w0 f args mem rd r e
  mixed : P.follows .mixedOrders = true

section
variable (P : Program) (S : Nat → Prop) (w0 : World) (C : Cx) (o : Oper) (ts : List AV) (mem : List Blk) (K : OK3)

/-- What the evaluator has no rule for: whoever calls it says what the operation leaves. -/
def byHand : Prop := ∃ av e rd, Exec P S w0 o ts mem rd av e ∧ K av e rd

def pickK (t : Bool) (A B : AV) (K : AV → Prop) : Prop := match A, B with
  | .b (.cv (.bool x)), .b (.cv (.bool y)) => K (.b (.cv (.bool (cond t x y))))
  | _, _ => match t with
    | true => K A
    | false => K B

def loadK (t : TypeId) (x : Operand) : Prop := match opv ts x with
  | .b (.cv (.ptr l off i)) => match bnth mem l with
    | some k => match szOf (C.T t) with
      | some sz => match Nat.beq i 0 with
        | true => match dropCh k.1 off with
          | some r => match takeCh r sz with
            | some (c :: q) => K (.b (.agg (c :: q))) noEff [l]
            | _ => byHand P S w0 o ts mem K
          | none => byHand P S w0 o ts mem K
        | false => byHand P S w0 o ts mem K
      | none => match isSc (C.T t) with
        | true => match dropCh k.1 off with
          | some (c :: _) => c.at_ i fun cv => K (.b (.cv cv)) noEff [l]
          | _ => byHand P S w0 o ts mem K
        | false => byHand P S w0 o ts mem K
    | none => byHand P S w0 o ts mem K
  | _ => byHand P S w0 o ts mem K

def storeK (t : TypeId) (x y : Operand) : Prop := match opv ts x with
  | .b (.cv (.ptr l off i)) => match bnth mem l with
    | some k => match isExt k.2 with
     | true => False
     | false => match szOf (C.T t) with
      | some sz => match Nat.beq i 0, Nat.beq sz 0, chsOf (opv ts y) with
        | true, false, some new => match Nat.beq (chsSize new) sz, replCh new sz k.1 off with
          | true, some c' => K .top ⟨[], [(l, c')]⟩ [l]
          | _, _ => byHand P S w0 o ts mem K
        | _, _, _ => byHand P S w0 o ts mem K
      | none => match isSc (C.T t), opv ts y, dropCh k.1 off with
        | true, .b (.cv cv), some (c :: _) => match cv.cellOk with
          | true => c.upd i cv fun c' => match replCh [c'] c.size k.1 off with
            | some c2 => K .top ⟨[], [(l, c2)]⟩ [l]
            | none => False
          | false => byHand P S w0 o ts mem K
        | _, _, _ => byHand P S w0 o ts mem K
    | none => byHand P S w0 o ts mem K
  | _ => byHand P S w0 o ts mem K

def fld : List (Nat × Nat) → Nat → Option (Nat × Nat)
  | [], _ => none
  | p :: _, 0 => some p
  | _ :: r, n + 1 => fld r n

def nrmL : List Ch → Nat → Nat → (Nat → Nat → Prop) → Prop
  | c :: c' :: r, off, i, K => match Nat.blt i c.size with
    | true => K off i
    | false => nrmL (c' :: r) (off + c.size) (i - c.size) K
  | _, off, i, K => K off i
def nrm (mem : List Blk) (l off i : Nat) (K : Nat → Nat → Prop) : Prop := match bnth mem l with
  | some k => match dropCh k.1 off with
    | some r => nrmL r off i K
    | none => K off i
  | none => K off i
/-- Does a row of single cells begin there? -/
def vecAt (mem : List Blk) (l off : Nat) : Bool := match bnth mem l with
  | some k => match dropCh k.1 off with
    | some (.vec _ _ :: _) => true
    | _ => false
  | none => false
def posAt (mem : List Blk) (l off i esz j : Nat) (K : Nat → Nat → Prop) : Prop := match Nat.beq esz 1 with
  | true => nrm mem l off (i + j) K
  | false => match vecAt mem l off with
    | true => nrm mem l off (i + j * esz) K
    | false => match Nat.beq i 0 with
      | true => K (off + j * esz) 0
      | false => False
/-- The place d cells further on. -/
def fieldAt (mem : List Blk) (l off i d : Nat) (K : Nat → Nat → Prop) : Prop := match vecAt mem l off with
  | true => nrm mem l off (i + d) K
  | false => match Nat.beq i 0 with
    | true => K (off + d) 0
    | false => False

def fieldK (t : TypeId) (x : Operand) (f : Nat) : Prop := match opv ts x with
  | .b (.cv (.ptr l off i)) => match C.T t with
    | .st fs _ _ => match fld fs f with
      | some p => fieldAt mem l off i p.1 fun o' i' => K (.b (.cv (.ptr l o' i'))) noEff []
      | none => byHand P S w0 o ts mem K
    | _ => byHand P S w0 o ts mem K
  | _ => byHand P S w0 o ts mem K

def idxAt (mem : List Blk) (l off i esz j : Nat) (K : AV → Prop) : Prop := posAt mem l off i esz j fun o' i' => K (.b (.cv (.ptr l o' i')))

def indexK (t : TypeId) (x y : Operand) : Prop := match opv ts x, opv ts y with
  | .b (.cv (.ptr l off i)), .b (.cv (.int _ j)) => match C.T t, j with
    | .arr n _ esz _, .ofNat j => obl (Nat.blt j n) (idxAt mem l off i esz j fun av => K av noEff [])
    | _, _ => byHand P S w0 o ts mem K
  | .b (.cv (.sl l off i n _)), .b (.cv (.int _ j)) => match C.T t, j with
    | .slice _ esz, .ofNat j => obl (Nat.blt j n) (idxAt mem l off i esz j fun av => K av noEff [])
    | _, _ => byHand P S w0 o ts mem K
  | _, _ => byHand P S w0 o ts mem K

def szB (ti : TI) (a : List Ch) : Bool := match szOf ti with
  | some sz => Nat.beq (chsSize a) sz
  | none => false

def binK (op : BinOp) (t : TypeId) (x y : Operand) : Prop := match opv ts x, opv ts y with
  | .b (.cv (.int k a)), .b (.cv (.int k' b)) => match op with
    | .shl => shK .shl k a b fun cv => K (.b (.cv cv)) noEff []
    | .shr => shK .shr k a b fun cv => K (.b (.cv cv)) noEff []
    | op => match kindB k k' with
      | true => intK op k a b fun cv => K (.b (.cv cv)) noEff []
      | false => False
  | .b (.cv (.bool a)), .b (.cv (.bool b)) => match op, C.T t with
    | .eql, .bool => K (.b (.cv (.bool (a == b)))) noEff []
    | .neq, .bool => K (.b (.cv (.bool (a != b)))) noEff []
    | _, _ => byHand P S w0 o ts mem K
  | .b (.agg a), .b (.agg b) => match op, C.eq t && szB (C.T t) a, eqCh a b with
    | .eql, true, some q => K (.b (.cv (.bool q))) noEff []
    | .neq, true, some q => K (.b (.cv (.bool (!q)))) noEff []
    | _, _, _ => byHand P S w0 o ts mem K
  | _, _ => byHand P S w0 o ts mem K

def convK (t t' : TypeId) (x : Operand) : Prop := match opv ts x, C.T t, C.T t' with
  | .b (.cv (.int _ a)), .int _, .int k' => K (.b (.cv (.int k' (k'.wrap a)))) noEff []
  | _, _, _ => byHand P S w0 o ts mem K

def unK (op : UnOp) (x : Operand) : Prop := match op, opv ts x with
  | .not, .b (.cv (.bool b)) => K (.b (.cv (.bool (!b)))) noEff []
  | .neg, .b (.cv (.int k a)) => K (.b (.cv (.int k (k.wrap (0 - a))))) noEff []
  | _, _ => byHand P S w0 o ts mem K

def xth : List AB → Nat → Option AB
  | [], _ => none
  | x :: _, 0 => some x
  | _ :: r, n + 1 => xth r n
def extrK (x : Operand) (i : Nat) : Prop := match opv ts x with
  | .tup xs => match xth xs i with
    | some ab => K (.b ab) noEff []
    | none => byHand P S w0 o ts mem K
  | _ => byHand P S w0 o ts mem K

def callK (c : Call) : Prop := match c.callee with
  | .value fx => match opv ts fx, abList (c.args.toList.map (opv ts)) with
    | .b (.cv (.fn f fs cs)), some xs => match C.O f (firstAB fs (appAB xs (capsAB cs))) mem with
      | some (p, r, e, rd) => p ∧ K r e rd
      | none => ∃ rd r e, CallOk P S w0 f (firstAB fs (appAB xs (capsAB cs))) mem rd r e ∧ K r e rd
    | _, _ => byHand P S w0 o ts mem K
  | .builtin .len => match c.args.toList.map (opv ts), c.argTypes.toList.map C.T with
    | [.b (.cv (.sl _ _ _ n _))], [.slice _ _] => K (.b (.cv (.int .i64 (Int.ofNat n)))) noEff []
    | [.b (.cv (.v (.slice _ n _)))], [.slice _ _] => obl (Nat.ble n 9223372036854775807) (K (.b (.cv (.int .i64 (Int.ofNat n)))) noEff [])
    | [.b (.cv (.v (.string s)))], [.str] => obl (Nat.ble s.size 9223372036854775807) (K (.b (.cv (.int .i64 (Int.ofNat s.size)))) noEff [])
    | _, _ => byHand P S w0 o ts mem K
  | .builtin .min => match c.args.toList.map (opv ts) with
    | [.b (.cv (.int k x)), .b (.cv (.int k' y))] => match kindB k k' with
      | true => K (.b (.cv (.int k (cond (iltB y x) y x)))) noEff []
      | false => byHand P S w0 o ts mem K
    | _ => byHand P S w0 o ts mem K
  | .builtin .max => match c.args.toList.map (opv ts) with
    | [.b (.cv (.int k x)), .b (.cv (.int k' y))] => match kindB k k' with
      | true => K (.b (.cv (.int k (cond (iltB x y) y x)))) noEff []
      | false => byHand P S w0 o ts mem K
    | _ => byHand P S w0 o ts mem K
  | _ => byHand P S w0 o ts mem K

def caps0 : List AV → Option (List Nat)
  | [] => some []
  | .b (.cv (.ptr l 0 0)) :: r => match caps0 r with
    | some q => some (l :: q)
    | none => none
  | _ => none
def mkK (fn : Fn) (first captured : Array Operand) : Prop := match fn, first.toList, caps0 (captured.toList.map (opv ts)) with
  | .func f, [], some q => K (.b (.cv (.fn f [] q))) noEff []
  | _, _, _ => byHand P S w0 o ts mem K

/-- A single cell of a row is written. -/
def updCell (c : CV) : List Ch → Nat → Option (List Ch)
  | [], _ => none
  | x :: r, off => match Nat.ble x.size off with
    | true => match updCell c r (off - x.size) with
      | some q => some (x :: q)
      | none => none
    | false => match x with
      | .vec n f => some (.vec n (fupd f off c) :: r)
      | _ => none
def putCh (new : List Ch) (sz : Nat) (cs : List Ch) (off : Nat) : Option (List Ch) := match replCh new sz cs off with
  | some q => some q
  | none => match new with
    | [.cell c] => match Nat.beq sz 1 with
      | true => updCell c cs off
      | false => none
    | _ => none
/-- So many times the same. -/
def repL : Nat → List Ch → List Ch
  | 0, _ => []
  | n + 1, z => appCh z (repL n z)
def repCh (n : Nat) (z : List Ch) : List Ch := match z with
  | [.cell c] => [.vec n (fun _ => c)]
  | z => repL n z
/-- The parts of a literal, laid one by one. -/
def partsK (C : Cx) (place : Nat → Option (Nat × Nat)) : List (Nat × AV) → List Ch → Option (List Ch)
  | [], cs => some cs
  | (i, av) :: r, cs => match place i, chsOf av with
    | some p, some new => match Nat.beq (chsSize new) p.2, putCh new p.2 cs p.1 with
      | true, some cs' => partsK C place r cs'
      | _, _ => none
    | _, _ => none

def buildK (t : TypeId) (parts : Array (Nat × Operand)) : Prop := match C.T t with
  | .st fs _ z => match partsK C (fld fs) (parts.toList.map fun p => (p.1, opv ts p.2)) z with
    | some cs => K (.b (.agg cs)) noEff []
    | none => byHand P S w0 o ts mem K
  | .arr _ _ esz z => match parts.toList, z with
    | [], z => K (.b (.agg z)) noEff []
    | [(0, x)], [.num n0] => match opv ts x, Nat.beq esz 1 with
      | .b (.cv (.int .u64 n)), true => K (.b (.agg [.num (setl 0 n.toNat n0)])) noEff []
      | _, _ => byHand P S w0 o ts mem K
    | _, z => match partsK C (fun i => some (i * esz, esz)) (parts.toList.map fun p => (p.1, opv ts p.2)) z with
      | some cs => K (.b (.agg cs)) noEff []
      | none => byHand P S w0 o ts mem K
  | _ => byHand P S w0 o ts mem K
def buildSlK (t : TypeId) (len : Nat) (parts : Array (Nat × Operand)) : Prop := match C.T t with
  | .slice e esz => match zeroOf (C.T e) with
    | some z => match partsK C (fun i => some (i * esz, esz)) (parts.toList.map fun p => (p.1, opv ts p.2)) (repCh len z) with
      | some cs => obl (Nat.ble (len * esz) 16777216 && (Nat.blt 0 esz && (!isExt (esz - 1) && Nat.beq (chsSize z) esz))) (K (.b (.cv (.sl mem.length 0 0 len len))) ⟨[(cs, esz - 1)], []⟩ [])
      | none => byHand P S w0 o ts mem K
    | none => byHand P S w0 o ts mem K
  | _ => byHand P S w0 o ts mem K

def bndv : Option AV → Nat → Option Nat
  | none, d => some d
  | some (.b (.cv (.int _ (.ofNat a)))), _ => some a
  | _, _ => none
def sliceK (t : TypeId) (x : Operand) (lo hi : Option Operand) : Prop := match opv ts x with
  | .b (.cv (.ptr l off i)) => match C.T t with
    | .arr n _ esz _ => match bndv (lo.map (opv ts)) 0, bndv (hi.map (opv ts)) n with
      | some a, some b => match bnth mem l with
        | some k => match Nat.beq esz (emk k.2), k.1 with
          | true, _ :: _ => obl (Nat.ble b n) (obl (Nat.ble a b) (obl (Nat.ble n 140737488355328) (obl (Nat.ble (off + i + n * esz) (chsSize k.1)) (posAt mem l off i esz a fun o' i' => K (.b (.cv (.sl l o' i' (b - a) (n - a)))) noEff [l]))))
          | _, _ => byHand P S w0 o ts mem K
        | none => byHand P S w0 o ts mem K
      | _, _ => byHand P S w0 o ts mem K
    | _ => byHand P S w0 o ts mem K
  | .b (.cv (.sl l off i n c)) => match C.T t with
    | .slice _ esz => match bndv (lo.map (opv ts)) 0, bndv (hi.map (opv ts)) n with
      | some a, some b => match bnth mem l with
        | some k => match Nat.beq esz (emk k.2), k.1 with
          | true, _ :: _ => obl (Nat.ble b c) (obl (Nat.ble a b) (posAt mem l off i esz a fun o' i' => K (.b (.cv (.sl l o' i' (b - a) (c - a)))) noEff [l]))
          | _, _ => byHand P S w0 o ts mem K
        | none => byHand P S w0 o ts mem K
      | _, _ => byHand P S w0 o ts mem K
    | _ => byHand P S w0 o ts mem K
  | .b (.cv (.v (.slice (some ad) n c))) => match C.T t with
    | .slice _ esz => match bndv (lo.map (opv ts)) 0, bndv (hi.map (opv ts)) n with
      | some a, some b => obl (Nat.ble b c) (obl (Nat.ble a b) (obl (Nat.blt a c) (K (.b (.cv (.v (.slice (some (ad.add (a * esz))) (b - a) (c - a))))) noEff [])))
      | _, _ => byHand P S w0 o ts mem K
    | _ => byHand P S w0 o ts mem K
  | _ => byHand P S w0 o ts mem K
def arrayK (t : TypeId) (x : Operand) : Prop := match opv ts x, C.T t with
  | .b (.cv (.sl l off i n _)), .arr m _ _ _ => obl (Nat.ble m n) (K (.b (.cv (.ptr l off i))) noEff [])
  | _, _ => byHand P S w0 o ts mem K
def indexVK (t : TypeId) (x y : Operand) : Prop := match opv ts x, opv ts y with
  | .b (.agg cs), .b (.cv (.int _ (.ofNat j))) => match C.T t with
    | .arr n e esz _ => obl (Nat.blt j n) (match szOf (C.T e) with
      | some sz => match dropCh cs (j * esz) with
        | some r => match takeCh r sz with
          | some q => K (.b (.agg q)) noEff []
          | none => byHand P S w0 o ts mem K
        | none => byHand P S w0 o ts mem K
      | none => match isSc (C.T e), cs with
        | true, [c] => c.at_ j fun cv => K (.b (.cv cv)) noEff []
        | _, _ => byHand P S w0 o ts mem K)
    | _ => byHand P S w0 o ts mem K
  | _, _ => byHand P S w0 o ts mem K

def opK : Prop := match o.op with
  | .move x => K (opv ts x) noEff []
  | .assign x => K (opv ts x) noEff []
  | .pick c a b => match opv ts c with
    | .b (.cv (.bool t)) => pickK t (opv ts a) (opv ts b) fun av => K av noEff []
    | _ => byHand P S w0 o ts mem K
  | .alloc t => match zeroOf (C.T t) with
    | some z => K (.b (.cv (.ptr mem.length 0 0))) ⟨[(z, 0)], []⟩ []
    | none => byHand P S w0 o ts mem K
  | .box _ x => match chsOf (opv ts x) with
    | some cs => K (.b (.cv (.ptr mem.length 0 0))) ⟨[(cs, 0)], []⟩ []
    | none => byHand P S w0 o ts mem K
  | .build t parts => buildK P S w0 C o ts mem K t parts
  | .buildSlice t len parts => buildSlK P S w0 C o ts mem K t len parts
  | .load t x => loadK P S w0 C o ts mem K t x
  | .store t x y => storeK P S w0 C o ts mem K t x y
  | .nilCheck x => match opv ts x with
    | .b (.cv (.ptr l off i)) => K (.b (.cv (.ptr l off i))) noEff []
    | .b (.cv (.v (.pointer (some a)))) => K (.b (.cv (.v (.pointer (some a))))) noEff []
    | .b (.cv (.fn f fs cs)) => K (.b (.cv (.fn f fs cs))) noEff []
    | _ => byHand P S w0 o ts mem K
  | .binOp op t x y _ => binK P S w0 C o ts mem K op t x y
  | .unOp op _ x => unK P S w0 o ts mem K op x
  | .convert t t' x => convK P S w0 C o ts mem K t t' x
  | .makeFunc fn first captured => mkK P S w0 o ts mem K fn first captured
  | .fieldAddr t x f => fieldK P S w0 C o ts mem K t x f
  | .indexAddr t x y => indexK P S w0 C o ts mem K t x y
  | .extract x i => extrK P S w0 o ts mem K x i
  | .slice t x lo hi none => sliceK P S w0 C o ts mem K t x lo hi
  | .sliceToArrayPointer t x => arrayK P S w0 C o ts mem K t x
  | .index t x y => indexVK P S w0 C o ts mem K t x y
  | .call c => callK P S w0 C o ts mem K c
  | _ => byHand P S w0 o ts mem K
end

variable {P : Program} {S : Nat → Prop} {w0 : World} {C : Cx} {o : Oper} {ts : List AV} {mem : List Blk} {K : OK3}

theorem xth_eq : ∀ (l : List AB) (n : Nat), xth l n = l[n]?
  | [], _ => rfl
  | _ :: _, 0 => rfl
  | _ :: r, n + 1 => by simp [xth, xth_eq r n]
theorem fld_eq : ∀ (l : List (Nat × Nat)) (n : Nat), fld l n = l[n]?
  | [], _ => rfl
  | _ :: _, 0 => rfl
  | _ :: r, n + 1 => by simp [fld, fld_eq r n]

theorem absRel_get {g : GM} : ∀ (xs : List AB) (vs : List Value) (i : Nat) (x : AB), absRel g xs vs → xs[i]? = some x → ∃ v, vs[i]? = some v ∧ x.rel g v
  | _ :: _, _, 0, x, ⟨y, ys, e, h, _⟩, hi => by simp only [List.getElem?_cons_zero, Option.some.injEq] at hi; subst hi; subst e; exact ⟨y, rfl, h⟩
  | _ :: xs, _, i + 1, x, ⟨y, ys, e, _, h⟩, hi => by subst e; simpa using absRel_get xs ys i x h (by simpa using hi)

theorem load_ok (hC : CxOk P C) {t : TypeId} {x : Operand} (ho : o.op = .load t x) (h : loadK P S w0 C o ts mem K t x) : byHand P S w0 o ts mem K := by
  unfold loadK at h
  split at h
  · rename_i l off i hx
    split at h
    · rename_i k hk
      rw [bnth_eq] at hk
      split at h
      · rename_i sz hsz
        split at h
        · rename_i hi
          have := Nat.eq_of_beq_eq_true hi; subst this
          split at h
          · rename_i r hr
            split at h
            · rename_i q hq
              exact ⟨_, _, _, exec_load_agg ho (hC.ty t) hsz hx hk hr hq (by simp), h⟩
            · exact h
          · exact h
        · exact h
      · split at h
        · rename_i hsc
          split at h
          · rename_i c r hr
            obtain ⟨cv, h1, h2⟩ := exec_load_one (S := S) (w0 := w0) ho (hC.ty t) hsc hx hk hr h
            exact ⟨_, _, _, h1, h2⟩
          · exact h
        · exact h
    · exact h
  · exact h

theorem store_ok (hC : CxOk P C) {t : TypeId} {x y : Operand} (ho : o.op = .store t x y) (h : storeK P S w0 C o ts mem K t x y) : byHand P S w0 o ts mem K := by
  unfold storeK at h
  split at h
  · rename_i l off i hx
    split at h
    · rename_i k hk
      rw [bnth_eq] at hk
      split at h
      · exact h.elim
      · rename_i hext
        have hk2 : isExt k.2 = false := hext
        split at h
        · rename_i sz hsz
          split at h
          · rename_i new hi hs0 hnew
            have := Nat.eq_of_beq_eq_true hi; subst this
            split at h
            · rename_i c' hl hr
              exact ⟨_, _, _, exec_store_agg ho (hC.ty t) hsz hs0 hx hk hk2 hnew hl hr, h⟩
            · exact h
          · exact h
        · split at h
          · rename_i cv c r hsc hy hr
            split at h
            · rename_i hcv
              obtain ⟨c', h1, h2⟩ := exec_store_one (S := S) (w0 := w0) ho (hC.ty t) hsc hx hk hk2 hy hcv hr h
              split at h1
              · rename_i c2 hc2
                exact ⟨_, _, _, h2 c2 hc2, h1⟩
              · exact h1.elim
            · exact h
          · exact h
    · exact h
  · exact h

theorem nrmL_ok : ∀ (r : List Ch) (off i : Nat) (K : Nat → Nat → Prop), nrmL r off i K → ∃ o' i', o' + i' = off + i ∧ K o' i'
  | [], off, i, K, h => ⟨off, i, rfl, h⟩
  | [c], off, i, K, h => ⟨off, i, rfl, h⟩
  | c :: c' :: r, off, i, K, h => by
    unfold nrmL at h
    split at h
    · exact ⟨off, i, rfl, h⟩
    · rename_i hb
      obtain ⟨o', i', h1, h2⟩ := nrmL_ok (c' :: r) _ _ K h
      have : ¬ i < c.size := by rw [← Nat.blt_eq]; simp [hb]
      exact ⟨o', i', by omega, h2⟩
theorem nrm_ok {mem : List Blk} {l off i : Nat} {K : Nat → Nat → Prop} (h : nrm mem l off i K) : ∃ o' i', o' + i' = off + i ∧ K o' i' := by
  unfold nrm at h
  split at h
  · split at h
    · exact nrmL_ok _ _ _ _ h
    · exact ⟨off, i, rfl, h⟩
  · exact ⟨off, i, rfl, h⟩
theorem posAt_ok {mem : List Blk} {l off i esz j : Nat} {K : Nat → Nat → Prop} (h : posAt mem l off i esz j K) : ∃ o' i', o' + i' = off + i + j * esz ∧ K o' i' := by
  unfold posAt at h
  split at h
  · rename_i he
    have := Nat.eq_of_beq_eq_true he; subst this
    obtain ⟨o', i', h1, h2⟩ := nrm_ok h
    exact ⟨o', i', by omega, h2⟩
  · split at h
    · obtain ⟨o', i', h1, h2⟩ := nrm_ok h
      exact ⟨o', i', by omega, h2⟩
    · split at h
      · rename_i hi
        have := Nat.eq_of_beq_eq_true hi; subst this
        exact ⟨_, _, by omega, h⟩
      · exact h.elim
theorem fieldAt_ok {mem : List Blk} {l off i d : Nat} {K : Nat → Nat → Prop} (h : fieldAt mem l off i d K) : ∃ o' i', o' + i' = off + i + d ∧ K o' i' := by
  unfold fieldAt at h
  split at h
  · obtain ⟨o', i', h1, h2⟩ := nrm_ok h
    exact ⟨o', i', by omega, h2⟩
  · split at h
    · rename_i hi
      have := Nat.eq_of_beq_eq_true hi; subst this
      exact ⟨_, _, by omega, h⟩
    · exact h.elim
theorem field_ok (hC : CxOk P C) {t : TypeId} {x : Operand} {f : Nat} (ho : o.op = .fieldAddr t x f) (h : fieldK P S w0 C o ts mem K t x f) : byHand P S w0 o ts mem K := by
  unfold fieldK at h
  split at h
  · rename_i l off i hx0
    split at h
    · rename_i fs sz z hT
      split at h
      · rename_i p hp
        rw [fld_eq] at hp
        obtain ⟨o', i', hp', h⟩ := fieldAt_ok h
        have hty := hC.ty t
        rw [hT] at hty
        obtain ⟨v, F, _, hu, hfs, hnz, _⟩ := hty
        refine ⟨_, _, _, exec_pure fun g a w hx => ?_, h⟩
        have h1 := hx x (by simp [ho, Op.operands])
        rw [hx0] at h1
        obtain ⟨b, hb, hv⟩ := h1
        rw [← hfs, List.getElem?_map, Option.map_eq_some_iff] at hp
        obtain ⟨fd, hfd, hpe⟩ := hp
        have hne : P.cellsOf fd.type ≠ 0 := by
          have := hnz p (by rw [← hfs, ← hpe]; exact List.mem_map_of_mem (List.mem_of_getElem? hfd))
          rw [← hpe] at this; exact this
        have hsz : (P.info? fd.type).map (·.size) = some (P.cellsOf fd.type) := by
          unfold Program.cellsOf at hne ⊢
          cases hq : (P.info? fd.type).map (·.size) with
          | none => rw [hq] at hne; simp at hne
          | some n => rfl
        refine ⟨.pointer (some ⟨b.b, off + i + p.1, none⟩), ?_, ⟨b, hb, by rw [hp']⟩⟩
        have hfd' : F[f]? = some fd := by rw [← Array.getElem?_toList]; exact hfd
        simp only [execOp, ho, hv, Instr.fieldAt, Sem.run_bind, run_underlying' hu, Result.andThen_ok, hfd', Instr.sureAddr, Sem.run_pure, fieldPlace, run_sizeOf' hsz, if_neg hne, add_addr]
        rw [← hpe]
      · exact h
    · exact h
  · exact h

theorem at_all {c : Ch} {i : Nat} {K : CV → Prop} (hK : c.at_ i K) : ∃ cv, K cv ∧ ∀ (g : GM) (vs : List Value), c.rel g vs → ∃ y, vs[i]? = some y ∧ cv.rel g y := by
  cases c with
  | cell c =>
    obtain ⟨hb, h⟩ := obl_ok hK
    have := Nat.eq_of_beq_eq_true hb; subst this
    exact ⟨c, h, fun g vs ⟨y, e, _, h2⟩ => ⟨y, by rw [e]; rfl, h2⟩⟩
  | num x =>
    obtain ⟨hb, h⟩ := obl_ok hK
    rw [Nat.blt_eq] at hb
    exact ⟨_, h, fun g vs hr => ⟨_, by rw [hr.2]; exact limbs_get x i hb, ⟨rfl, limb_has i x⟩⟩⟩
  | vec n f =>
    obtain ⟨hb, h⟩ := obl_ok hK
    rw [Nat.blt_eq] at hb
    refine ⟨_, h, fun g vs hr => ?_⟩
    have hlt : i < vs.length := by rw [hr.1]; exact hb
    exact ⟨_, List.getElem?_eq_getElem hlt, (hr.2 i _ (List.getElem?_eq_getElem hlt)).2⟩
theorem idxAt_ok {mem : List Blk} {l off i esz j : Nat} {K : AV → Prop} (h : idxAt mem l off i esz j K) : ∃ av, K av ∧ ∀ (g : GM) b, g l = some b → av.rel g (.pointer (some ⟨b.b, off + i + j * esz, none⟩)) := by
  obtain ⟨o', i', h1, h2⟩ := posAt_ok h
  exact ⟨_, h2, fun g b hb => ⟨b, hb, by rw [h1]⟩⟩

theorem bndv_ok {g : GM} {a : Act} {x : Option Operand} {d n y : Nat} {code : BoundsCode} {w : World} (hx : ∀ z, x = some z → (opv ts z).rel g (a.eval z)) (h : bndv (x.map (opv ts)) d = some n) (hn : n ≤ y) (hd : x = none → True) :
    (match x.map a.eval with | some v => Instr.sliceBound v y code | none => pure d).run P w = .ok n w := by
  cases x with
  | none =>
    simp only [Option.map_none, bndv, Option.some.injEq] at h
    subst h; rfl
  | some z =>
    have q := hx z rfl
    simp only [Option.map_some] at h ⊢
    unfold bndv at h
    split at h
    · rename_i e; cases e
    · rename_i k m e
      simp only [Option.some.injEq] at h e
      subst h
      rw [e] at q
      rw [q.1]
      simp [Instr.sliceBound, asIntOf, hn]
    · cases h

theorem slice_ok (hC : CxOk P C) {t : TypeId} {x : Operand} {lo hi : Option Operand} (ho : o.op = .slice t x lo hi none) (h : sliceK P S w0 C o ts mem K t x lo hi) : byHand P S w0 o ts mem K := by
  have hops : ∀ z, lo = some z ∨ hi = some z ∨ x = z → z ∈ o.op.operands := by
    intro z hz
    rw [ho]
    rcases hz with rfl | rfl | rfl <;> simp [Op.operands]
  unfold sliceK at h
  split at h
  · rename_i l off i hx0
    split at h
    · rename_i n e esz z hT
      split at h
      · rename_i av b hlo hhi
        split at h
        rotate_left
        · exact h
        rename_i kb hkb
        rw [bnth_eq] at hkb
        split at h
        rotate_left
        · exact h
        rename_i hez hne0
        have hez := Nat.eq_of_beq_eq_true hez
        have hn0 : kb.1 ≠ [] := by rw [hne0]; simp
        clear hne0
        obtain ⟨hb1, h⟩ := obl_ok h
        obtain ⟨hb2, h⟩ := obl_ok h
        obtain ⟨hb4, h⟩ := obl_ok h
        obtain ⟨hb5, h⟩ := obl_ok h
        simp only [Nat.ble_eq] at hb1 hb2 hb4 hb5
        obtain ⟨o', i', hp, h⟩ := posAt_ok h
        have hty := hC.ty t
        rw [hT] at hty
        obtain ⟨v, _, hu, hs, hn, _⟩ := hty
        refine ⟨_, _, _, exec_read fun g a w hx hrd _ => ?_, h⟩
        have q1 := hx x (hops x (.inr (.inr rfl)))
        rw [hx0] at q1
        obtain ⟨bk, hgb, hv⟩ := q1
        have hroom : chsSize kb.1 ≤ bk.room ∧ bk.e = esz := by
          obtain ⟨_, hbr⟩ := hrd l (by simp) bk kb hgb hkb
          obtain ⟨cs, _, _, us, rest, _, ⟨r1, r1'⟩, r2, r3, _⟩ := hbr.resolve_left hn0
          refine ⟨?_, by rw [r1', hez]⟩
          rw [← r1, ← chsRel_size _ _ r3, ← Array.length_toList, r2]; simp
        obtain ⟨hroom, hbe⟩ := hroom
        have hmul : av * esz + (n - av) * esz = n * esz := by rw [← Nat.add_mul]; congr 1; omega
        refine ⟨.slice (some (if n = av then ⟨bk.b, off + i, none⟩ else ⟨bk.b, off + i + av * esz, none⟩)) (b - av) (n - av), ?_, ?_⟩
        rotate_left
        · by_cases hne : n = av
          · exact .inl ⟨by omega, by omega, _, by rw [if_pos hne, show b - av = 0 by omega, show n - av = 0 by omega]⟩
          · exact .inr ⟨by omega, n - av, Nat.le_refl _, by omega, bk, hgb, by rw [hbe]; omega, by rw [if_neg hne, hp]⟩
        have e1 : ∀ w, (match hi.map a.eval with | some v => Instr.sliceBound v n .sliceAlen | none => pure n).run P w = .ok b w := fun w => bndv_ok (fun z hz => hx z (hops z (.inr (.inl hz)))) hhi hb1 (fun _ => trivial)
        have e2 : ∀ w, (match lo.map a.eval with | some v => Instr.sliceBound v b .sliceB | none => pure 0).run P w = .ok av w := fun w => bndv_ok (fun z hz => hx z (hops z (.inl hz))) hlo hb2 (fun _ => trivial)
        have e3 : (Instr.sliceBounds false n n (lo.map a.eval) (hi.map a.eval) none).run P w = .ok (av, b, n) w := by
          cases lo <;> cases hi <;> simp_all [Instr.sliceBounds]
        simp only [execOp, ho, hv, Instr.sliceAt, Sem.run_bind, run_underlying' hu, Instr.sureAddr, Sem.run_pure, Result.andThen_ok, Option.map_none, e3, run_sizeOf' hs, add_addr]
      · exact h
    · exact h
  · rename_i l off i n c hx0
    split at h
    · rename_i e esz hT
      split at h
      · rename_i av b hlo hhi
        split at h
        rotate_left
        · exact h
        rename_i kb hkb
        rw [bnth_eq] at hkb
        split at h
        rotate_left
        · exact h
        rename_i hez hne0
        have hez := Nat.eq_of_beq_eq_true hez
        have hn0 : kb.1 ≠ [] := by rw [hne0]; simp
        clear hne0
        obtain ⟨hb1, h⟩ := obl_ok h
        obtain ⟨hb2, h⟩ := obl_ok h
        simp only [Nat.ble_eq] at hb1 hb2
        obtain ⟨o', i', hp, h⟩ := posAt_ok h
        have hty := hC.ty t
        rw [hT] at hty
        obtain ⟨_, hu, hs⟩ := hty
        refine ⟨_, _, _, exec_read fun g a w hx hrd _ => ?_, h⟩
        have q1 := hx x (hops x (.inr (.inr rfl)))
        rw [hx0] at q1
        obtain ⟨ad, cap, hv, hc1, hn2, hab⟩ : ∃ (ad : Option Addr) (cap : Nat), a.eval x = .slice ad n cap ∧ c ≤ cap ∧ cap ≤ 9223372036854775807 ∧ ((cap = 0) ∨ ∃ bk, g l = some bk ∧ off + i + cap * bk.e ≤ bk.room ∧ ad = some ⟨bk.b, off + i, none⟩) := by
          rcases q1 with ⟨r1, r2, ad, r3⟩ | ⟨_, cap, r1, r2, bk, r3, r4, r5⟩
          · exact ⟨ad, 0, by rw [r3, r1], by omega, by omega, .inl rfl⟩
          · exact ⟨_, cap, r5, r1, r2, .inr ⟨bk, r3, r4, rfl⟩⟩
        refine ⟨.slice (if cap = av then ad else ad.map (·.add (av * esz))) (b - av) (cap - av), ?_, ?_⟩
        rotate_left
        · by_cases hne : cap = av
          · exact .inl ⟨by omega, by omega, _, by rw [show b - av = 0 by omega, show cap - av = 0 by omega]⟩
          · obtain ⟨bk, hgb, hrm, rfl⟩ := hab.resolve_left (by omega)
            have hbe : bk.e = esz := by
              obtain ⟨_, hbr⟩ := hrd l (by simp) bk kb hgb hkb
              obtain ⟨cs, _, _, us, rest, _, ⟨_, r1'⟩, _⟩ := hbr.resolve_left hn0
              rw [r1', hez]
            have hmul : av * esz + (cap - av) * esz = cap * esz := by rw [← Nat.add_mul]; congr 1; omega
            rw [hbe] at hrm
            exact .inr ⟨by omega, cap - av, by omega, by omega, bk, hgb, by rw [hbe]; omega, by rw [if_neg hne, Option.map_some, add_addr, hp]⟩
        have e1 : ∀ w, (match hi.map a.eval with | some v => Instr.sliceBound v cap .sliceAcap | none => pure n).run P w = .ok b w := fun w => bndv_ok (fun z hz => hx z (hops z (.inr (.inl hz)))) hhi (by omega) (fun _ => trivial)
        have e2 : ∀ w, (match lo.map a.eval with | some v => Instr.sliceBound v b .sliceB | none => pure 0).run P w = .ok av w := fun w => bndv_ok (fun z hz => hx z (hops z (.inl hz))) hlo hb2 (fun _ => trivial)
        have e3 : (Instr.sliceBounds true n cap (lo.map a.eval) (hi.map a.eval) none).run P w = .ok (av, b, cap) w := by
          cases lo <;> cases hi <;> simp_all [Instr.sliceBounds]
        simp only [execOp, ho, hv, Instr.sliceAt, Instr.slice, Sem.run_bind, run_underlying' hu, Sem.run_pure, Result.andThen_ok, Option.map_none, e3, run_sizeOf' hs]
      · exact h
    · exact h
  · rename_i ad n c hx0
    split at h
    · rename_i e esz hT
      split at h
      · rename_i av b hlo hhi
        obtain ⟨hb1, h⟩ := obl_ok h
        obtain ⟨hb2, h⟩ := obl_ok h
        obtain ⟨hb3, h⟩ := obl_ok h
        simp only [Nat.ble_eq, Nat.blt_eq] at hb1 hb2 hb3
        have hty := hC.ty t
        rw [hT] at hty
        obtain ⟨_, hu, hs⟩ := hty
        refine ⟨_, _, _, exec_pure fun g a w hx => ?_, h⟩
        have q1 := hx x (hops x (.inr (.inr rfl)))
        rw [hx0] at q1
        have hv : a.eval x = .slice (some ad) n c := q1
        refine ⟨.slice (some (ad.add (av * esz))) (b - av) (c - av), ?_, rfl⟩
        have e1 : ∀ w, (match hi.map a.eval with | some v => Instr.sliceBound v c .sliceAcap | none => pure n).run P w = .ok b w := fun w => bndv_ok (fun z hz => hx z (hops z (.inr (.inl hz)))) hhi hb1 (fun _ => trivial)
        have e2 : ∀ w, (match lo.map a.eval with | some v => Instr.sliceBound v b .sliceB | none => pure 0).run P w = .ok av w := fun w => bndv_ok (fun z hz => hx z (hops z (.inl hz))) hlo hb2 (fun _ => trivial)
        have e3 : (Instr.sliceBounds true n c (lo.map a.eval) (hi.map a.eval) none).run P w = .ok (av, b, c) w := by
          cases lo <;> cases hi <;> simp_all [Instr.sliceBounds]
        have hne : ¬ c = av := by omega
        simp only [execOp, ho, hv, Instr.sliceAt, Instr.slice, Sem.run_bind, run_underlying' hu, Sem.run_pure, Result.andThen_ok, Option.map_none, Option.map_some, e3, run_sizeOf' hs, if_neg hne]
      · exact h
    · exact h
  · exact h

theorem arrayAt_ok (hC : CxOk P C) {t : TypeId} {x : Operand} (ho : o.op = .sliceToArrayPointer t x) (h : arrayK P S w0 C o ts mem K t x) : byHand P S w0 o ts mem K := by
  unfold arrayK at h
  split at h
  · rename_i l off i n c m e esz z hx0 hT
    obtain ⟨hb, h⟩ := obl_ok h
    simp only [Nat.ble_eq] at hb
    have hty := hC.ty t
    rw [hT] at hty
    obtain ⟨v, _, hu, hs, hn, _⟩ := hty
    refine ⟨_, _, _, exec_pure fun g a w hx => ?_, h⟩
    have q1 := hx x (by simp [ho, Op.operands])
    rw [hx0] at q1
    obtain ⟨_, _, _, _, b, hgb, hrm, hv⟩ := Or.resolve_left q1 (fun h => by omega)
    refine ⟨_, ?_, ⟨b, hgb, rfl⟩⟩
    have : ¬ n < m := by omega
    simp [execOp, ho, hv, Instr.arrayAt, run_underlying' hu, this]
  · exact h

theorem indexV_ok (hC : CxOk P C) {t : TypeId} {x y : Operand} (ho : o.op = .index t x y) (h : indexVK P S w0 C o ts mem K t x y) : byHand P S w0 o ts mem K := by
  unfold indexVK at h
  split at h
  · rename_i cs kk j hx0 hy0
    split at h
    · rename_i n e esz z hT
      obtain ⟨hb, h⟩ := obl_ok h
      rw [Nat.blt_eq] at hb
      have hty := hC.ty t
      rw [hT] at hty
      obtain ⟨v, _, hu, hs, hn, _⟩ := hty
      split at h
      · rename_i sz hsz
        split at h
        · rename_i r hr
          split at h
          · rename_i q hq
            obtain ⟨d, hd1, hd2, hd3⟩ := ty_agg (hC.ty e) hsz
            obtain ⟨pre, hpre, hsize⟩ := dropCh_ok _ _ _ hr
            obtain ⟨post, hpost, hsz2⟩ := takeCh_ok _ _ _ hq
            refine ⟨_, _, _, exec_pure fun g a w hx => ?_, h⟩
            have q1 := hx x (by simp [ho, Op.operands])
            have q2 := hx y (by simp [ho, Op.operands])
            rw [hx0] at q1
            rw [hy0] at q2
            obtain ⟨arr, hv, hrel⟩ := q1
            rw [hpre, hpost] at hrel
            obtain ⟨us, ws, e1, r1, r2⟩ := (chsRel_append _ _ _).1 hrel
            obtain ⟨us2, ws2, e2, r3, r4⟩ := (chsRel_append _ _ _).1 r2
            have l1 := chsRel_size _ _ r1
            have l2 := chsRel_size _ _ r3
            have hesz : esz = sz := by rw [hs] at hd3; exact Option.some.inj hd3
            refine ⟨.agg (arr.extract (j * esz) (j * esz + esz)), ?_, ⟨_, rfl, ?_⟩⟩
            · have hcond : (0 : Int) ≤ Int.ofNat j ∧ Int.ofNat j < (n : Int) := ⟨Int.natCast_nonneg j, by show (j : Int) < n; omega⟩
              have htn : (Int.ofNat j).toNat = j := rfl
              simp [execOp, ho, hv, q2.1, Instr.index, asIntOf, run_underlying' hu, hb, run_sizeOf' hs, part, run_isAgg' hd1, hd2]
            · have : (arr.extract (j * esz) (j * esz + esz)).toList = us2 := by
                rw [Array.toList_extract, e1, e2]
                simp only [List.extract_eq_take_drop]
                rw [List.drop_append_of_le_length (by omega), List.drop_of_length_le (by omega), List.nil_append, List.take_append_of_le_length (by omega), List.take_of_length_le (by omega)]
              rw [this]; exact r3
          · exact h
        · exact h
      · split at h
        · obtain ⟨d, hd1, hd2, hd3⟩ := ty_sc (hC.ty e) ‹isSc (C.T e) = true›
          have hesz : esz = 1 := by rw [hs] at hd3; exact Option.some.inj hd3
          subst hesz
          obtain ⟨cv, h1, h2⟩ := at_all ‹Ch.at_ _ _ _›
          refine ⟨_, _, _, exec_pure fun g a w hx => ?_, h1⟩
          have q1 := hx x (by simp [ho, Op.operands])
          have q2 := hx y (by simp [ho, Op.operands])
          rw [hx0] at q1
          rw [hy0] at q2
          obtain ⟨arr, hv, us, ws, e1, r1, r2⟩ := q1
          obtain ⟨y, e2, e3⟩ := h2 g us r1
          refine ⟨y, ?_, e3⟩
          have hws : ws = [] := r2
          have hget : arr[j]? = some y := by rw [← Array.getElem?_toList, e1, hws, List.append_nil]; exact e2
          simp [execOp, ho, hv, q2.1, Instr.index, asIntOf, run_underlying' hu, hb, run_sizeOf' hs, part, run_isAgg' hd1, hd2, hget]
        · exact h
    · exact h
  · exact h

theorem index_ok (hC : CxOk P C) {t : TypeId} {x y : Operand} (ho : o.op = .indexAddr t x y) (h : indexK P S w0 C o ts mem K t x y) : byHand P S w0 o ts mem K := by
  unfold indexK at h
  split at h
  · rename_i l off i kk j hx0 hy0
    split at h
    · rename_i n e esz z j hT
      obtain ⟨hb, h⟩ := obl_ok h
      rw [Nat.blt_eq] at hb
      obtain ⟨av, h1, h2⟩ := idxAt_ok h
      have hty := hC.ty t
      rw [hT] at hty
      obtain ⟨v, _, hu, hs, hn, _⟩ := hty
      refine ⟨_, _, _, exec_pure fun g a w hx => ?_, h1⟩
      have q1 := hx x (by simp [ho, Op.operands])
      have q2 := hx y (by simp [ho, Op.operands])
      rw [hx0] at q1
      rw [hy0] at q2
      obtain ⟨b, hgb, hv⟩ := q1
      refine ⟨_, ?_, h2 g b hgb⟩
      have hcond : (0 : Int) ≤ Int.ofNat j ∧ Int.ofNat j < (n : Int) := ⟨Int.natCast_nonneg j, by show (j : Int) < n; omega⟩
      have htn : (Int.ofNat j).toNat = j := rfl
      simp [execOp, ho, hv, q2.1, Instr.indexAt, asIntOf, run_underlying' hu, Instr.sureAddr, hb, run_sizeOf' hs, add_addr]
    · exact h
  · rename_i l off i n c kk j hx0 hy0
    split at h
    · rename_i e esz j hT
      obtain ⟨hb, h⟩ := obl_ok h
      rw [Nat.blt_eq] at hb
      obtain ⟨av, h1, h2⟩ := idxAt_ok h
      have hty := hC.ty t
      rw [hT] at hty
      obtain ⟨_, hu, hs⟩ := hty
      refine ⟨_, _, _, exec_pure fun g a w hx => ?_, h1⟩
      have q1 := hx x (by simp [ho, Op.operands])
      have q2 := hx y (by simp [ho, Op.operands])
      rw [hx0] at q1
      rw [hy0] at q2
      obtain ⟨_, _, _, _, b, hgb, hrm, hv⟩ := Or.resolve_left q1 (fun h => by omega)
      refine ⟨_, ?_, h2 g b hgb⟩
      simp [execOp, ho, hv, q2.1, Instr.indexAt, asIntOf, run_underlying' hu, hb, run_sizeOf' hs, add_addr]
    · exact h
  · exact h

theorem bin_ok (hC : CxOk P C) {op : BinOp} {t t' : TypeId} {x y : Operand} (ho : o.op = .binOp op t x y t') (h : binK P S w0 C o ts mem K op t x y) : byHand P S w0 o ts mem K := by
  unfold binK at h
  split at h
  · rename_i k a k' b hx0 hy0
    have key : ∀ {q : OK3}, (∃ cv, q (.b (.cv cv)) noEff [] ∧ (IntKind.has k a → ∀ w, ∃ v, (binOp op t (.int k a) (.int k' b)).run P w = .ok v w ∧ ∀ g, cv.rel g v)) → byHand P S w0 o ts mem q := by
      rintro q ⟨cv, h1, h2⟩
      refine ⟨_, _, _, exec_pure fun g ac w hx => ?_, h1⟩
      have q1 := hx x (by simp [ho, Op.operands])
      have q2 := hx y (by simp [ho, Op.operands])
      rw [hx0] at q1
      rw [hy0] at q2
      obtain ⟨v, e1, e2⟩ := h2 q1.2 w
      refine ⟨v, ?_, e2 g⟩
      simp only [execOp, ho, q1.1, q2.1, Sem.run_bind, eqGuard_at_int, Sem.run_pure, Result.andThen_ok, e1]
    split at h
    · exact key (sh_ok h t)
    · exact key (sh_ok h t)
    · split at h
      · rename_i hk
        have := kindB_eq hk; subst this
        exact key (int_ok h t)
      · exact h.elim
  · rename_i a b hx0 hy0
    have hty := hC.ty t
    split at h
    · rename_i hT
      rw [hT] at hty
      refine ⟨_, _, _, exec_pure fun g ac w hx => ?_, h⟩
      have q1 := hx x (by simp [ho, Op.operands])
      have q2 := hx y (by simp [ho, Op.operands])
      rw [hx0] at q1
      rw [hy0] at q2
      have q1 : ac.eval x = .bool a := q1
      have q2 : ac.eval y = .bool b := q2
      refine ⟨.bool (a == b), ?_, rfl⟩
      have e : (Op.equal t (.bool a) (.bool b)).run P w = .ok (a == b) w := run_equalIn_bool' w 9999 t a b hty.2
      simp only [execOp, ho, q1, q2, Sem.run_bind, eqGuard_at_bool, Sem.run_pure, Result.andThen_ok, binOp, e]
    · rename_i hT
      rw [hT] at hty
      refine ⟨_, _, _, exec_pure fun g ac w hx => ?_, h⟩
      have q1 := hx x (by simp [ho, Op.operands])
      have q2 := hx y (by simp [ho, Op.operands])
      rw [hx0] at q1
      rw [hy0] at q2
      have q1 : ac.eval x = .bool a := q1
      have q2 : ac.eval y = .bool b := q2
      refine ⟨.bool (a != b), ?_, rfl⟩
      have e : (Op.equal t (.bool a) (.bool b)).run P w = .ok (a == b) w := run_equalIn_bool' w 9999 t a b hty.2
      simp only [execOp, ho, q1, q2, Sem.run_bind, eqGuard_at_bool, Sem.run_pure, Result.andThen_ok, binOp, e]
      rfl
    · exact h
  · rename_i a b hx0 hy0
    have key : ∀ (g : GM) (ac : Act) (w : World) (q : Bool), (C.eq t && szB (C.T t) a) = true → eqCh a b = some q → (opv ts x).rel g (ac.eval x) → (opv ts y).rel g (ac.eval y) →
        ∃ us vs : Array Value, ac.eval x = .agg us ∧ ac.eval y = .agg vs ∧ P.eqGuardType P.depth t = false ∧ (Op.equalIn 10000 t (.agg us) (.agg vs)).run P w = .ok q w := by
      intro g ac w q hE hq q1 q2
      rw [hx0] at q1
      rw [hy0] at q2
      obtain ⟨us, e1, r1⟩ := q1
      obtain ⟨vs, e2, r2⟩ := q2
      obtain ⟨s1, s2, s3, s4⟩ := eqCh_ok a b q _ _ hq r1 r2
      rw [Bool.and_eq_true] at hE
      obtain ⟨hE, hZ⟩ := hE
      unfold szB at hZ
      split at hZ
      · rename_i sz hsz
        have hZ := Nat.eq_of_beq_eq_true hZ
        obtain ⟨d, _, _, hs⟩ := ty_agg (hC.ty t) hsz
        obtain ⟨hg, he⟩ := hC.eq t hE
        refine ⟨us, vs, e1, e2, hg, ?_⟩
        have := he us.toList vs.toList s1 s2 (by rw [hs, chsRel_size _ _ r1, hZ]) s3 9996 w
        simpa [s4] using this
      · cases hZ
    split at h
    · rename_i q hE hq
      refine ⟨_, _, _, exec_pure fun g ac w hx => ?_, h⟩
      obtain ⟨us, vs, e1, e2, e3, e4⟩ := key g ac w q hE hq (hx x (by simp [ho, Op.operands])) (hx y (by simp [ho, Op.operands]))
      refine ⟨.bool q, ?_, rfl⟩
      simp only [execOp, ho, e1, e2, Sem.run_bind, run_eqGuard_agg w _ _ _ _ _ _ e3, Result.andThen_ok, run_eql_struct, e4, Sem.run_pure]
    · rename_i q hE hq
      refine ⟨_, _, _, exec_pure fun g ac w hx => ?_, h⟩
      obtain ⟨us, vs, e1, e2, e3, e4⟩ := key g ac w q hE hq (hx x (by simp [ho, Op.operands])) (hx y (by simp [ho, Op.operands]))
      refine ⟨.bool (!q), ?_, rfl⟩
      simp only [execOp, ho, e1, e2, Sem.run_bind, run_eqGuard_agg w _ _ _ _ _ _ e3, Result.andThen_ok, run_neq_struct, e4, Sem.run_pure]
    · exact h
  · exact h

end Go.Ev
