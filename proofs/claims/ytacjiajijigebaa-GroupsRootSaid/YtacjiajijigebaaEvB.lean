/- The order of a region that draws it: whatever order is drawn, the end is the end of the order of the text, if a closed check on the operations holds. No condition. -/
import Derived.Test.YtacjiajijigebaaEvA
namespace Go.Ev
open Go

def lnth : List AV → Nat → AV
  | [], _ => .top
  | x :: _, 0 => x
  | _ :: xs, n + 1 => lnth xs n
def lset : List AV → Nat → AV → List AV
  | [], _, _ => []
  | _ :: xs, 0, v => v :: xs
  | x :: xs, n + 1, v => x :: lset xs n v
def putO (ts : List AV) (d : Option Nat) (v : AV) : List AV := match d with
  | some d => lset ts d v
  | none => ts

theorem lset_length (v : AV) : ∀ (ts : List AV) (d : Nat), (lset ts d v).length = ts.length
  | [], _ => rfl
  | _ :: _, 0 => rfl
  | _ :: xs, n + 1 => by simp [lset, lset_length v xs n]
theorem putO_length (v : AV) (ts : List AV) (d : Option Nat) : (putO ts d v).length = ts.length := by
  cases d with
  | none => rfl
  | some d => exact lset_length v ts d
theorem lnth_lset (v : AV) : ∀ (ts : List AV) (d t : Nat), lnth (lset ts d v) t = if d = t ∧ t < ts.length then v else lnth ts t
  | [], d, t => by simp [lset]
  | x :: xs, 0, 0 => by simp [lset, lnth]
  | x :: xs, 0, t + 1 => by simp [lset, lnth]
  | x :: xs, d + 1, 0 => by simp [lset, lnth]
  | x :: xs, d + 1, t + 1 => by simp [lset, lnth, lnth_lset v xs d t]
theorem lnth_ge : ∀ (ts : List AV) (t : Nat), ts.length ≤ t → lnth ts t = .top
  | [], _, _ => rfl
  | _ :: xs, t + 1, h => lnth_ge xs t (by simpa using h)
theorem lset_same : ∀ (ts : List AV) (d : Nat), lset ts d (lnth ts d) = ts
  | [], _ => rfl
  | _ :: _, 0 => rfl
  | x :: xs, n + 1 => by simp [lset, lnth, lset_same xs n]

def ofConst : Value → AV
  | .bool b => .b (.cv (.bool b))
  | .int k n => if k.min ≤ n ∧ n ≤ k.max then .b (.cv (.int k n)) else .b (.cv (.v (.int k n)))
  | x => .b (.cv (.v x))

def opv (ts : List AV) : Operand → AV
  | .tmp t => lnth ts t
  | .const v => ofConst v
  | .global g => .b (.cv (.v (.pointer (some ⟨g, 0, none⟩))))
  | .func f => .b (.cv (.fn f [] []))

theorem ofConst_rel (g : GM) (v : Value) : (ofConst v).rel g v := by
  cases v <;> first | rfl | skip
  rename_i k n
  simp only [ofConst]
  split
  · rename_i h; exact ⟨rfl, h⟩
  · rfl

def tsR (g : GM) (ts : List AV) (tm : Array Value) : Prop := ts.length ≤ tm.size ∧ ∀ t, (lnth ts t).rel g (tm.getD t undef)

theorem opv_rel {g : GM} {ts : List AV} {a : Act} (h : tsR g ts a.tmps) (x : Operand) : (opv ts x).rel g (a.eval x) := by
  cases x with
  | tmp t => exact h.2 t
  | const v => exact ofConst_rel g v
  | global n => rfl
  | func f => exact ⟨trivial, #[], rfl, rfl⟩

theorem tsR_put {g : GM} {ts : List AV} {a : Act} (h : tsR g ts a.tmps) (d : Option Nat) {v : AV} {y : Value} (hv : v.rel g y) : tsR g (putO ts d v) (a.put d y).tmps := by
  cases d with
  | none => exact h
  | some d =>
    refine ⟨by simpa [putO, lset_length, Act.put] using h.1, fun t => ?_⟩
    simp only [putO, lnth_lset, Act.put, Array.getD_eq_getD_getElem?, Array.getElem?_setIfInBounds]
    by_cases e : d = t
    · subst e
      by_cases hl : d < ts.length
      · have : d < a.tmps.size := Nat.lt_of_lt_of_le hl h.1
        simp [hl, this, hv]
      · simp [hl, lnth_ge ts d (by omega)]
        exact AV.top_rel _ _
    · simp [e]
      simpa [Array.getD_eq_getD_getElem?] using h.2 t

theorem tsR_mono {g g' : GM} (hg : GM.le g g') {ts : List AV} {tm : Array Value} (h : tsR g ts tm) : tsR g' ts tm := ⟨h.1, fun t => AV.rel_mono hg (h.2 t)⟩

/-- What an operation makes: new blocks, and blocks that are written. -/
structure Eff where
  news : List Blk
  wrs : List (Nat × List Ch)
def noEff : Eff := ⟨[], []⟩

def wrFind : List (Nat × List Ch) → Nat → Option (List Ch)
  | [], _ => none
  | (l, c) :: r, i => match Nat.beq l i with
    | true => some c
    | false => wrFind r i
def wrAll (wrs : List (Nat × List Ch)) : Nat → List Blk → List Blk
  | _, [] => []
  | i, k :: ks => (match wrFind wrs i with
    | some c => (c, k.2)
    | none => k) :: wrAll wrs (i + 1) ks
def applyEff (mem : List Blk) (e : Eff) : List Blk := wrAll e.wrs 0 mem ++ e.news

theorem wrAll_length (wrs : List (Nat × List Ch)) : ∀ (ks : List Blk) (i : Nat), (wrAll wrs i ks).length = ks.length
  | [], _ => rfl
  | _ :: ks, i => by simp [wrAll, wrAll_length wrs ks]
theorem wrAll_get (wrs : List (Nat × List Ch)) : ∀ (ks : List Blk) (i l : Nat), (wrAll wrs i ks)[l]? = (ks[l]?).map fun k => match wrFind wrs (i + l) with
    | some c => (c, k.2)
    | none => k
  | [], _, _ => by simp [wrAll]
  | k :: ks, i, 0 => by simp [wrAll]
  | k :: ks, i, l + 1 => by
    simp only [wrAll, List.getElem?_cons_succ]
    rw [wrAll_get wrs ks (i + 1) l, show i + 1 + l = i + (l + 1) by omega]
theorem wrFind_mem : ∀ (wrs : List (Nat × List Ch)) (l : Nat) (c : List Ch), wrFind wrs l = some c → (l, c) ∈ wrs
  | (l', c') :: r, l, c, h => by
    simp only [wrFind] at h
    split at h
    · rename_i hb
      injection h with h; subst h
      rw [Nat.eq_of_beq_eq_true hb]; simp
    · exact List.mem_cons_of_mem _ (wrFind_mem r l c h)
theorem wrFind_none : ∀ (wrs : List (Nat × List Ch)) (l : Nat), wrFind wrs l = none → ∀ c, (l, c) ∉ wrs
  | [], _, _, _, hm => by cases hm
  | (l', c') :: r, l, h, c, hm => by
    simp only [wrFind] at h
    split at h
    · cases h
    · rename_i hb
      rcases List.mem_cons.1 hm with e | e
      · injection e with e1 _
        subst e1
        have := Nat.beq_refl l
        rw [this] at hb; cases hb
      · exact wrFind_none r l h c e

/-- What the world behind an operation is to the world ahead of it. -/
structure Post (S : Nat → Prop) (w0 : World) (mem : List Blk) (e : Eff) (g g' : GM) (w w' : World) : Prop where
  le : GM.le g g'
  gw : GW g' S w0 w'
  dom : ∀ l, g' l ≠ none → g l = none → mem.length ≤ l ∧ l < mem.length + e.news.length
  size : w.heap.size ≤ w'.heap.size
  keep : ∀ b, b < w.heap.size → (∀ l c b', (l, c) ∈ e.wrs → g l = some b' → b'.b ≠ b) → w'.heap[b]? = w.heap[b]?
  new : ∀ i k, e.news[i]? = some k → ∀ b, g' (mem.length + i) = some b → BlkRel S w0 g' w' b k
  wr : ∀ l c, wrFind e.wrs l = some c → ∀ b k, g l = some b → mem[l]? = some k → BlkRel S w0 g' w' b (c, k.2)
  wl : ∀ l c, (l, c) ∈ e.wrs → ∃ k, mem[l]? = some k ∧ live k
  nw : ∀ i b, g' (mem.length + i) = some b → g (mem.length + i) = none → w.heap.size ≤ b.b ∨ ∃ l b', wrFind e.wrs l = some [] ∧ g l = some b' ∧ b'.b = b.b
  nn : ∀ i j b b', g (mem.length + i) = none → g (mem.length + j) = none → g' (mem.length + i) = some b → g' (mem.length + j) = some b' → b.b = b'.b → i = j

/-- Of these names no two stand for one block that may be written. -/
def InjOn (g : GM) (mem : List Blk) (rd : List Nat) : Prop :=
  ∀ l ∈ rd, ∀ l' ∈ rd, ∀ b b' k k', g l = some b → g l' = some b' → b.b = b'.b → mem[l]? = some k → mem[l']? = some k' → live k → live k' → l = l'

def Exec (P : Program) (S : Nat → Prop) (w0 : World) (o : Oper) (ts : List AV) (mem : List Blk) (rd : List Nat) (av : AV) (e : Eff) : Prop :=
  ∀ (g : GM) (a : Act) (w : World), (∀ x ∈ o.op.operands, (opv ts x).rel g (a.eval x)) →
    (∀ l ∈ rd, ∀ b k, g l = some b → mem[l]? = some k → BlkRel S w0 g w b k) → GW g S w0 w → (∀ i, i < e.news.length → g (mem.length + i) = none) → InjOn g mem rd →
    ∀ (next : Act → World → Prop) (Q : Exit → Act → World → Prop), (∀ v w' g', av.rel g' v → Post S w0 mem e g g' w w' → next (a.put o.dst v) w') → o.wp P a w next Q

structure Ent where
  dst : Option Nat
  av : AV
  eff : Eff
  base : Nat
  rd : List Nat

def wantA (all : List Oper) (ts : List AV) (o : Oper) : Option Bool :=
  match o.guard with
  | none => some true
  | some (j, w) => match (all[j]?).bind (·.dst) with
    | some d => match lnth ts d with
      | .b (.cv (.bool b)) => some (b == w)
      | _ => none
    | none => none

theorem wantA_ok {all : List Oper} {ts : List AV} {o : Oper} {g : GM} {tm : Array Value} {r : Bool} (h : wantA all ts o = some r)
    (hs : ∀ j w d, o.guard = some (j, w) → (all[j]?).bind (·.dst) = some d → (lnth ts d).rel g (tm.getD d undef)) : Region.wanted o (yielded all.toArray tm) = r := by
  unfold wantA at h
  unfold Region.wanted
  cases hg : o.guard with
  | none => simp [hg] at h ⊢; exact h
  | some p =>
    obtain ⟨j, w⟩ := p
    simp only [hg] at h ⊢
    cases hd : (all[j]?).bind (·.dst) with
    | none => simp [hd] at h
    | some d =>
      simp only [hd] at h
      have h1 := hs j w d hg hd
      split at h
      · rename_i b hb
        rw [hb] at h1
        have h2 : tm.getD d undef = .bool b := h1
        injection h with h
        have hd' : (all.toArray[j]?).bind (·.dst) = some d := by simpa using hd
        have h3 : tm[d]? = some (.bool b) := by
          rw [Array.getD_eq_getD_getElem?] at h2
          cases h4 : tm[d]? with
          | none => rw [h4] at h2; cases h2
          | some y => rw [h4] at h2; rw [show y = .bool b from h2]
        simp only [yielded, hd', Option.bind_some, h3]
        rw [← h]
        cases b <;> cases w <;> rfl
      · cases h

inductive Tr (P : Program) (S : Nat → Prop) (w0 : World) (all : List Oper) : List Oper → List AV → List Blk → List Ent → List AV → List Blk → Prop
  | nil (ts : List AV) (mem : List Blk) : Tr P S w0 all [] ts mem [] ts mem
  | skip (o : Oper) (os : List Oper) (ts : List AV) (mem : List Blk) (es : List Ent) (ts' : List AV) (mem' : List Blk) : wantA all ts o = some false →
      Tr P S w0 all os (putO ts o.dst .top) mem es ts' mem' → Tr P S w0 all (o :: os) ts mem (⟨o.dst, .top, noEff, mem.length, []⟩ :: es) ts' mem'
  | exec (o : Oper) (os : List Oper) (ts : List AV) (mem : List Blk) (rd : List Nat) (av : AV) (e : Eff) (es : List Ent) (ts' : List AV) (mem' : List Blk) : wantA all ts o = some true →
      Exec P S w0 o ts mem rd av e → Tr P S w0 all os (putO ts o.dst av) (applyEff mem e) es ts' mem' → Tr P S w0 all (o :: os) ts mem (⟨o.dst, av, e, mem.length, rd⟩ :: es) ts' mem'

/-- A state of the evaluator stands for a frame and a world. -/
structure R (S : Nat → Prop) (w0 : World) (g : GM) (ts : List AV) (mem : List Blk) (a : Act) (w : World) : Prop where
  ts : tsR g ts a.tmps
  defers : a.defers = []
  ms : ∀ l b k, g l = some b → mem[l]? = some k → BlkRel S w0 g w b k
  gw : GW g S w0 w
  dom : ∀ l, g l ≠ none → l < mem.length
  inj : ∀ l l' b b' k k', g l = some b → g l' = some b' → b.b = b'.b → mem[l]? = some k → mem[l']? = some k' → live k → live k' → l = l'

theorem Act.put_defers' (a : Act) (d : Option Nat) (v : Value) : (a.put d v).defers = a.defers := by cases d <;> rfl

/-- What is behind an operation: a name is a new one, or it was there, and its block was written, or not. -/
theorem effGet {mem : List Blk} {e : Eff} {l : Nat} {k : Blk} (hk : (applyEff mem e)[l]? = some k) :
    (mem.length ≤ l ∧ e.news[l - mem.length]? = some k) ∨ (∃ k0, mem[l]? = some k0 ∧ ((∃ c, wrFind e.wrs l = some c ∧ k = (c, k0.2)) ∨ (wrFind e.wrs l = none ∧ k = k0))) := by
  unfold applyEff at hk
  rw [List.getElem?_append] at hk
  split at hk
  · rename_i hlt
    rw [wrAll_length] at hlt
    right
    rw [wrAll_get] at hk
    obtain ⟨k0, hk0⟩ : ∃ k0, mem[l]? = some k0 := ⟨mem[l], List.getElem?_eq_getElem hlt⟩
    refine ⟨k0, hk0, ?_⟩
    simp only [hk0, Option.map_some, Option.some.injEq, Nat.zero_add] at hk
    split at hk
    · rename_i c hc
      exact .inl ⟨c, hc, hk.symm⟩
    · rename_i hc
      exact .inr ⟨hc, hk.symm⟩
  · rename_i hge
    rw [wrAll_length] at hk hge
    exact .inl ⟨by omega, hk⟩

theorem R.step {S : Nat → Prop} {w0 : World} {g g' : GM} {ts : List AV} {mem : List Blk} {a : Act} {w w' : World} (h : R S w0 g ts mem a w) {e : Eff} {d : Option Nat} {v : Value} {av : AV}
    (hv : av.rel g' v) (hp : Post S w0 mem e g g' w w') (hf : ∀ i, i < e.news.length → g (mem.length + i) = none) : R S w0 g' (putO ts d av) (applyEff mem e) (a.put d v) w' := by
  have old : ∀ l b k0, g' l = some b → mem[l]? = some k0 → g l = some b := by
    intro l b k0 hl hk
    have hlt := (List.getElem?_eq_some_iff.1 hk).1
    cases hg : g l with
    | some b' => exact (hp.le l b' hg).symm.trans hl ▸ rfl
    | none => have := hp.dom l (by rw [hl]; simp) hg; omega
  have fresh : ∀ l k, mem.length ≤ l → e.news[l - mem.length]? = some k → g l = none := by
    intro l k hle hk
    have := hf (l - mem.length) (List.getElem?_eq_some_iff.1 hk).1
    rwa [show mem.length + (l - mem.length) = l by omega] at this
  have wasLive : ∀ l k k0, mem[l]? = some k0 → ((∃ c, wrFind e.wrs l = some c ∧ k = (c, k0.2)) ∨ (wrFind e.wrs l = none ∧ k = k0)) → live k → live k0 := by
    intro l k k0 hk0 hor hlive
    rcases hor with ⟨c, hc, rfl⟩ | ⟨_, rfl⟩
    · obtain ⟨k1, h1, h2⟩ := hp.wl l c (wrFind_mem _ _ _ hc)
      rw [hk0] at h1; injection h1 with h1; subst h1; exact h2
    · exact hlive
  refine ⟨tsR_put (tsR_mono hp.le h.ts) d hv, by rw [Act.put_defers']; exact h.defers, ?_, hp.gw, ?_, ?_⟩
  · intro l b k hl hk
    rcases effGet hk with ⟨hge, hn⟩ | ⟨k0, hk0, hor⟩
    · exact hp.new (l - mem.length) k hn b (by rw [show mem.length + (l - mem.length) = l by omega]; exact hl)
    · have hgl := old l b k0 hl hk0
      rcases hor with ⟨c, hc, rfl⟩ | ⟨hc, rfl⟩
      · exact hp.wr l c hc b k0 hgl hk0
      · have hb0 := h.ms l b k hgl hk0
        refine hb0.mono hp.le fun hne => hp.keep b.b (h.gw.own l b hgl) fun l' c' b' hm e' hbb => ?_
        obtain ⟨k', h1, h2⟩ := hp.wl l' c' hm
        have hb1 := h.ms l' b' k' e' h1
        have hl2 : live k := ⟨hne, (by cases hx : isExt k.2 with
          | false => rfl
          | true => have := hb1.1.2 (by rw [hbb]; exact hb0.1.1 hx); rw [h2.2] at this; cases this)⟩
        have := h.inj l l' b b' k k' hgl e' hbb.symm hk0 h1 hl2 h2
        subst this
        exact wrFind_none _ _ hc c' hm
  · intro l hl
    unfold applyEff
    rw [List.length_append, wrAll_length]
    cases hg : g l with
    | some b => have := h.dom l (by rw [hg]; simp); omega
    | none => have := hp.dom l hl hg; omega
  · -- names apart
    have mixed : ∀ l l' b b' k k', g' l = some b → g' l' = some b' → b.b = b'.b → mem.length ≤ l → e.news[l - mem.length]? = some k → (∃ k0, mem[l']? = some k0 ∧ ((∃ c, wrFind e.wrs l' = some c ∧ k' = (c, k0.2)) ∨ (wrFind e.wrs l' = none ∧ k' = k0))) → live k' → False := by
      intro l l' b b' k k' hl hl' hbb hge hn ⟨k0, hk0, hor⟩ hlive
      have hgl := old l' b' k0 hl' hk0
      have hgn := fresh l k hge hn
      have hli := wasLive l' k' k0 hk0 hor hlive
      rcases hp.nw (l - mem.length) b (by rw [show mem.length + (l - mem.length) = l by omega]; exact hl) (by rw [show mem.length + (l - mem.length) = l by omega]; exact hgn) with hq | ⟨l2, b2, hw2, hg2, hb2⟩
      · have := h.gw.own l' b' hgl; omega
      · obtain ⟨k2, q1, q2⟩ := hp.wl l2 [] (wrFind_mem _ _ _ hw2)
        have := h.inj l' l2 b' b2 k0 k2 hgl hg2 (by omega) hk0 q1 hli q2
        subst this
        rcases hor with ⟨c, hc, rfl⟩ | ⟨hc, rfl⟩
        · rw [hw2] at hc; injection hc with hc; subst hc; exact hlive.1 rfl
        · rw [hw2] at hc; cases hc
    intro l l' b b' k k' hl hl' hbb hk hk' h1 h2
    rcases effGet hk with ⟨hge, hn⟩ | hold
    · rcases effGet hk' with ⟨hge', hn'⟩ | hold'
      · have e1 := fresh l k hge hn
        have e2 := fresh l' k' hge' hn'
        have := hp.nn (l - mem.length) (l' - mem.length) b b' (by rw [show mem.length + (l - mem.length) = l by omega]; exact e1) (by rw [show mem.length + (l' - mem.length) = l' by omega]; exact e2)
          (by rw [show mem.length + (l - mem.length) = l by omega]; exact hl) (by rw [show mem.length + (l' - mem.length) = l' by omega]; exact hl') hbb
        omega
      · exact (mixed l l' b b' k k' hl hl' hbb hge hn hold' h2).elim
    · rcases effGet hk' with ⟨hge', hn'⟩ | hold'
      · exact (mixed l' l b' b k' k hl' hl hbb.symm hge' hn' hold h1).elim
      · obtain ⟨k0, hk0, hor⟩ := hold
        obtain ⟨k0', hk0', hor'⟩ := hold'
        exact h.inj l l' b b' k0 k0' (old l b k0 hl hk0) (old l' b' k0' hl' hk0') hbb hk0 hk0' (wasLive l k k0 hk0 hor h1) (wasLive l' k' k0' hk0' hor' h2)

theorem R.fresh {S : Nat → Prop} {w0 : World} {g : GM} {ts : List AV} {mem : List Blk} {a : Act} {w : World} (h : R S w0 g ts mem a w) (i : Nat) : g (mem.length + i) = none := by
  cases hg : g (mem.length + i) with
  | none => rfl
  | some b => have := h.dom _ (by rw [hg]; simp); omega

end Go.Ev
