/- The order of a region: the order of the text, and any order that may be drawn. No condition. -/
import Derived.Test.YtacjiajijigebaaEvB
import Derived.Tactics
namespace Go.Ev
open Go

theorem Act.put_undef_rel {g : GM} {ts : List AV} {mem : List Blk} {a : Act} {w : World} {S : Nat → Prop} {w0 : World} (h : R S w0 g ts mem a w) (d : Option Nat) (v : Value) :
    R S w0 g (putO ts d .top) mem (a.put d v) w :=
  ⟨tsR_put h.ts d (AV.top_rel g v), by rw [Act.put_defers']; exact h.defers, h.ms, h.gw, h.dom, h.inj⟩

theorem wantA_R {S : Nat → Prop} {w0 : World} {all : List Oper} {ts : List AV} {mem : List Blk} {o : Oper} {g : GM} {a : Act} {w : World} {r : Bool} (h : wantA all ts o = some r) (hr : R S w0 g ts mem a w) :
    Region.wanted o (yielded all.toArray a.tmps) = r := wantA_ok h fun _ _ d _ _ => hr.ts.2 d

theorem seq_ok {P : Program} {S : Nat → Prop} {w0 : World} {all : List Oper} {Q : Exit → Act → World → Prop} : ∀ {os : List Oper} {ts : List AV} {mem : List Blk} {es : List Ent} {ts' : List AV} {mem' : List Blk},
    Tr P S w0 all os ts mem es ts' mem' → ∀ (g : GM) (a : Act) (w : World), R S w0 g ts mem a w →
    (∀ g' a' w', GM.le g g' → R S w0 g' ts' mem' a' w' → Q .normal a' w') → wpList P all.toArray Q os a w := by
  intro os ts mem es ts' mem' h
  induction h with
  | nil ts mem => intro g a w hr hq; exact hq g a w (GM.le_refl g) hr
  | skip o os ts mem es ts' mem' hw _ ih =>
    intro g a w hr hq
    unfold wpList
    rw [wantA_R hw hr]
    simp only [Bool.false_eq_true, if_false]
    exact ih g _ w (Act.put_undef_rel hr o.dst undef) hq
  | exec o os ts mem rd av e es ts' mem' hw hx _ ih =>
    intro g a w hr hq
    unfold wpList
    rw [wantA_R hw hr]
    simp only [if_true]
    refine .inl (hx g a w (fun x _ => opv_rel hr.ts x) (fun l _ b k h1 h2 => hr.ms l b k h1 h2) hr.gw (fun i _ => hr.fresh i) (fun l _ l' _ b b' k k' h1 h2 h3 h4 h5 h6 h7 => hr.inj l l' b b' k k' h1 h2 h3 h4 h5 h6 h7) _ _ fun v w' g' hv hp => ?_)
    exact ih g' _ w' (hr.step hv hp fun i _ => hr.fresh i) fun g'' a' w'' hle hr' => hq g'' a' w'' (GM.le_trans hp.le hle) hr'

/-- The entries that D lets, in the order of the text, upon x. -/
def app {α : Type} (upd : Ent → α → α) : List Ent → (Nat → Bool) → α → α
  | [], _, x => x
  | e :: es, D, x => app upd es (fun k => D (k + 1)) (match D 0 with
    | true => upd e x
    | false => x)

theorem app_congr {α : Type} {upd : Ent → α → α} {T : Ent → Prop} (hT : ∀ e, ¬ T e → ∀ x, upd e x = x) : ∀ (es : List Ent) (D D' : Nat → Bool) (x : α),
    (∀ k e, es[k]? = some e → T e → D k = D' k) → app upd es D x = app upd es D' x
  | [], _, _, _, _ => rfl
  | e :: es, D, D', x, h => by
    simp only [app]
    have h1 : (match D 0 with | true => upd e x | false => x) = (match D' 0 with | true => upd e x | false => x) := by
      by_cases ht : T e
      · rw [h 0 e rfl ht]
      · rw [hT e ht x]; cases D 0 <;> cases D' 0 <;> rfl
    rw [h1]
    exact app_congr hT es _ _ _ fun k e' hk ht => h (k + 1) e' (by simpa using hk) ht

theorem app_none {α : Type} {upd : Ent → α → α} : ∀ (es : List Ent) (D : Nat → Bool) (x : α), (∀ k, D k = false) → app upd es D x = x
  | [], _, _, _ => rfl
  | e :: es, D, x, h => by simp only [app, h 0]; exact app_none es _ x fun k => h (k + 1)

theorem app_insert {α : Type} {upd : Ent → α → α} {T : Ent → Prop} (hT : ∀ e, ¬ T e → ∀ x, upd e x = x) : ∀ (es : List Ent) (i : Nat) (e : Ent) (D : Nat → Bool) (x : α), es[i]? = some e → D i = false →
    (∀ k e', i < k → es[k]? = some e' → T e' → D k = false) → app upd es (fun k => D k || Nat.beq k i) x = upd e (app upd es D x)
  | e0 :: es, 0, e, D, x, he, hD, hk => by
    simp only [List.getElem?_cons_zero, Option.some.injEq] at he
    subst he
    simp only [app, hD, Nat.beq, Bool.or_true, Bool.or_false]
    have h1 : ∀ y : α, app upd es (fun k => D (k + 1)) y = y := fun y => by
      rw [app_congr hT es _ (fun _ => false) y fun k e' hk' ht => hk (k + 1) e' (by omega) (by simpa using hk') ht]
      exact app_none es _ y fun _ => rfl
    rw [h1, h1]
  | e0 :: es, i + 1, e, D, x, he, hD, hk => by
    simp only [List.getElem?_cons_succ] at he
    simp only [app, Nat.beq, Bool.or_false]
    exact app_insert hT es i e (fun k => D (k + 1)) _ he hD fun k e' hik hk' ht => hk (k + 1) e' (by omega) (by simpa using hk') ht

theorem app_succ {α : Type} {upd : Ent → α → α} (es : List Ent) (i : Nat) (e : Ent) (x : α) (he : es[i]? = some e) :
    app upd es (fun k => decide (k < i + 1)) x = upd e (app upd es (fun k => decide (k < i)) x) := by
  rw [← app_insert (upd := upd) (T := fun _ => True) (fun _ h => (h trivial).elim) es i e (fun k => decide (k < i)) x he (by simp) (fun k e' h _ _ => by simp; omega)]
  congr 1
  funext k
  rw [Bool.eq_iff_iff]
  simp only [decide_eq_true_eq, Bool.or_eq_true, Nat.beq_eq]
  omega

def updS (n t : Nat) (e : Ent) (x : AV) : AV := if e.dst = some t ∧ t < n then e.av else x
def updM (l : Nat) (e : Ent) (x : Option Blk) : Option Blk :=
  if e.base ≤ l ∧ l < e.base + e.eff.news.length then e.eff.news[l - e.base]?
  else match wrFind e.eff.wrs l with
    | some c => x.map fun k => (c, k.2)
    | none => x

theorem putO_get {ts : List AV} {d : Option Nat} {v : AV} (t : Nat) : lnth (putO ts d v) t = if d = some t ∧ t < ts.length then v else lnth ts t := by
  cases d with
  | none => simp [putO]
  | some d => simp [putO, lnth_lset]

theorem applyEff_get {mem : List Blk} {e : Eff} (hw : ∀ l c, (l, c) ∈ e.wrs → l < mem.length) (dst : Option Nat) (av : AV) (rd : List Nat) (l : Nat) : (applyEff mem e)[l]? = updM l ⟨dst, av, e, mem.length, rd⟩ (mem[l]?) := by
  unfold applyEff updM
  simp only
  rw [List.getElem?_append, wrAll_length]
  by_cases h : l < mem.length
  · rw [if_pos h, if_neg (by omega), wrAll_get]
    simp only [Nat.zero_add]
    cases wrFind e.wrs l with
    | none => simp
    | some c => simp
  · rw [if_neg h]
    by_cases h2 : l < mem.length + e.news.length
    · rw [if_pos ⟨by omega, h2⟩]
    · rw [if_neg (by omega), List.getElem?_eq_none (by omega)]
      have : wrFind e.wrs l = none := by
        cases hf : wrFind e.wrs l with
        | none => rfl
        | some c => exact absurd (hw l c (wrFind_mem _ _ _ hf)) h
      rw [this]
      simp [List.getElem?_eq_none (show mem.length ≤ l by omega)]

/-- What the trace says of operation i. -/
structure At (P : Program) (S : Nat → Prop) (w0 : World) (all : List Oper) (o : Oper) (e : Ent) (ts : List AV) (mem : List Blk) : Prop where
  dst : e.dst = o.dst
  base : e.base = mem.length
  rule : (wantA all ts o = some false ∧ e.av = .top ∧ e.eff = noEff) ∨ (wantA all ts o = some true ∧ Exec P S w0 o ts mem e.rd e.av e.eff)

theorem Tr.length {P : Program} {S : Nat → Prop} {w0 : World} {all os : List Oper} {ts ts' : List AV} {mem mem' : List Blk} {es : List Ent} (h : Tr P S w0 all os ts mem es ts' mem') : es.length = os.length := by
  induction h with
  | nil => rfl
  | skip _ _ _ _ _ _ _ _ _ ih => simp [ih]
  | exec _ _ _ _ _ _ _ _ _ _ _ _ _ ih => simp [ih]

theorem Tr.at_ {P : Program} {S : Nat → Prop} {w0 : World} {all os : List Oper} {ts ts' : List AV} {mem mem' : List Blk} {es : List Ent} (h : Tr P S w0 all os ts mem es ts' mem') :
    (∀ e ∈ es, ∀ l c, (l, c) ∈ e.eff.wrs → l < e.base) →
    (∀ e ∈ es, mem.length ≤ e.base) ∧
    (∀ (i j : Nat) (e e' : Ent), es[i]? = some e → es[j]? = some e' → i < j → e.base + e.eff.news.length ≤ e'.base) ∧
    (∀ t, lnth ts' t = app (updS ts.length t) es (fun _ => true) (lnth ts t)) ∧
    (∀ l, mem'[l]? = app (updM l) es (fun _ => true) (mem[l]?)) ∧
    ∀ i o, os[i]? = some o → ∃ e tsi memi, es[i]? = some e ∧ At P S w0 all o e tsi memi ∧ (∀ t, lnth tsi t = app (updS ts.length t) es (fun k => decide (k < i)) (lnth ts t)) ∧
      (∀ l, memi[l]? = app (updM l) es (fun k => decide (k < i)) (mem[l]?)) := by
  induction h with
  | nil ts mem => intro _; exact ⟨by simp, by simp, fun _ => rfl, fun _ => rfl, by simp⟩
  | skip o os ts mem es ts' mem' hw _ ih =>
    intro hb
    obtain ⟨h1, h2, h3, h4, h5⟩ := ih fun e he => hb e (List.mem_cons_of_mem _ he)
    have hlen := putO_length .top ts o.dst
    have hs : ∀ t, lnth (putO ts o.dst .top) t = updS ts.length t ⟨o.dst, .top, noEff, mem.length, []⟩ (lnth ts t) := fun t => putO_get t
    have hm : ∀ l, mem[l]? = updM l ⟨o.dst, .top, noEff, mem.length, []⟩ (mem[l]?) := fun l => by unfold updM noEff; simp [wrFind]; omega
    refine ⟨?_, ?_, ?_, ?_, ?_⟩
    · intro e he
      rcases List.mem_cons.1 he with rfl | he
      · exact Nat.le_refl _
      · exact h1 e he
    · intro i j e e' hi hj hij
      cases j with
      | zero => omega
      | succ j =>
        simp only [List.getElem?_cons_succ] at hj
        cases i with
        | zero => simp only [List.getElem?_cons_zero, Option.some.injEq] at hi; subst hi; exact h1 e' (List.mem_of_getElem? hj)
        | succ i => exact h2 i j e e' (by simpa using hi) hj (by omega)
    · intro t; rw [h3 t, hlen, hs t]; rfl
    · intro l; rw [h4 l]; show _ = app _ es _ (updM l _ (mem[l]?)); rw [← hm l]
    · intro i o' hi
      cases i with
      | zero =>
        simp only [List.getElem?_cons_zero, Option.some.injEq] at hi; subst hi
        exact ⟨_, ts, mem, rfl, ⟨rfl, rfl, .inl ⟨hw, rfl, rfl⟩⟩, fun t => (app_none _ _ _ fun k => by simp).symm, fun l => (app_none _ _ _ fun k => by simp).symm⟩
      | succ i =>
        obtain ⟨e, tsi, memi, q1, q2, q3, q4⟩ := h5 i o' (by simpa using hi)
        refine ⟨e, tsi, memi, by simpa using q1, q2, fun t => ?_, fun l => ?_⟩
        · rw [q3 t, hlen, hs t]; simp [app]
        · rw [q4 l]; simp only [app, Nat.zero_lt_succ, decide_true, Nat.succ_lt_succ_iff]; rw [← hm l]
  | exec o os ts mem rd av e es ts' mem' hw hx _ ih =>
    intro hb
    obtain ⟨h1, h2, h3, h4, h5⟩ := ih fun e he => hb e (List.mem_cons_of_mem _ he)
    have hlen := putO_length av ts o.dst
    have hs : ∀ t, lnth (putO ts o.dst av) t = updS ts.length t ⟨o.dst, av, e, mem.length, rd⟩ (lnth ts t) := fun t => putO_get t
    have hm : ∀ l, (applyEff mem e)[l]? = updM l ⟨o.dst, av, e, mem.length, rd⟩ (mem[l]?) := fun l => applyEff_get (hb _ (List.mem_cons_self ..)) _ _ _ l
    have hml : (applyEff mem e).length = mem.length + e.news.length := by unfold applyEff; rw [List.length_append, wrAll_length]
    refine ⟨?_, ?_, ?_, ?_, ?_⟩
    · intro e he
      rcases List.mem_cons.1 he with rfl | he
      · exact Nat.le_refl _
      · have := h1 e he; omega
    · intro i j e1 e' hi hj hij
      cases j with
      | zero => omega
      | succ j =>
        simp only [List.getElem?_cons_succ] at hj
        cases i with
        | zero => simp only [List.getElem?_cons_zero, Option.some.injEq] at hi; subst hi; have := h1 e' (List.mem_of_getElem? hj); simp only; omega
        | succ i => exact h2 i j e1 e' (by simpa using hi) hj (by omega)
    · intro t; rw [h3 t, hlen, hs t]; rfl
    · intro l; rw [h4 l, hm l]; rfl
    · intro i o' hi
      cases i with
      | zero =>
        simp only [List.getElem?_cons_zero, Option.some.injEq] at hi; subst hi
        exact ⟨_, ts, mem, rfl, ⟨rfl, rfl, .inr ⟨hw, hx⟩⟩, fun t => (app_none _ _ _ fun k => by simp).symm, fun l => (app_none _ _ _ fun k => by simp).symm⟩
      | succ i =>
        obtain ⟨e1, tsi, memi, q1, q2, q3, q4⟩ := h5 i o' (by simpa using hi)
        refine ⟨e1, tsi, memi, by simpa using q1, q2, fun t => ?_, fun l => ?_⟩
        · rw [q3 t, hlen, hs t]; simp [app]
        · rw [q4 l, hm l]; simp [app]

end Go.Ev
