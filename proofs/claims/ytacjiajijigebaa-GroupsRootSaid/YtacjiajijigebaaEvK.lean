/- What the evaluator says of a call of a function. No condition. -/
import Derived.Test.YtacjiajijigebaaEvJ
namespace Go.Ev
open Go

variable {P : Program} {S : Nat → Prop} {w0 : World} {C : Cx} {g0 : GM} {k0 : Nat}

def resOne (C : Cx) (ts : List AV) (mem : List Blk) : ResultVar → Option AB
  | .tmp t => match lnth ts t with
    | .b x => some x
    | .tup _ => none
  | .cell p ty => match lnth ts p with
    | .b (.cv (.ptr l off i)) => match bnth mem l, szOf (C.T ty), Nat.beq i 0 with
      | some k, some sz, true => match dropCh k.1 off with
        | some r => match takeCh r sz with
          | some (c :: q) => some (.agg (c :: q))
          | _ => none
        | none => none
      | some k, none, true => match isSc (C.T ty), dropCh k.1 off with
        | true, some (.cell c :: _) => some (.cv c)
        | _, _ => none
      | _, _, _ => none
    | _ => none

def resAll (C : Cx) (ts : List AV) (mem : List Blk) : List ResultVar → Option (List AB)
  | [] => some []
  | r :: rs => match resOne C ts mem r, resAll C ts mem rs with
    | some x, some xs => some (x :: xs)
    | _, _ => none

def resK (C : Cx) (rs : List ResultVar) (ts : List AV) (mem : List Blk) (K : AV → Prop) : Prop := match resAll C ts mem rs with
  | some [x] => K (.b x)
  | some xs => K (.tup xs)
  | none => False

def resVal (a : Act) : ResultVar → Sem Value
  | .tmp t => pure (a.tmps.getD t undef)
  | .cell p t => do loadVar t (← asAddr (a.tmps.getD p undef))

theorem resOne_ok (hC : CxOk P C) {g : GM} {ts : List AV} {mem : List Blk} {a : Act} {w : World} (hr : R S w0 g ts mem a w) {rv : ResultVar} {x : AB} (h : resOne C ts mem rv = some x) :
    ∃ v, (resVal a rv).run P w = .ok v w ∧ x.rel g v := by
  cases rv with
  | tmp t =>
    simp only [resOne] at h
    split at h
    · rename_i y hy
      injection h with h; subst h
      have := hr.ts.2 t
      rw [hy] at this
      exact ⟨_, rfl, this⟩
    · cases h
  | cell p ty =>
    simp only [resOne] at h
    split at h
    · rename_i l off i hp
      have hpv := hr.ts.2 p
      rw [hp] at hpv
      obtain ⟨b, hb, hv⟩ := hpv
      have hrun : ∀ v, (loadVar ty ⟨b.b, off + i, none⟩).run P w = .ok v w → (resVal a (.cell p ty)).run P w = .ok v w := by
        intro v hv'
        show ((do loadVar ty (← asAddr (a.tmps.getD p undef))) : Sem Value).run P w = _
        rw [hv]
        simpa [asAddr] using hv'
      split at h
      · rename_i k sz hk hsz hi
        have := Nat.eq_of_beq_eq_true hi; subst this
        rw [bnth_eq] at hk
        split at h
        · rename_i r hrr
          split at h
          · rename_i q0 q hq
            injection h with h; subst h
            obtain ⟨d, hu, hd, hs⟩ := ty_agg (hC.ty ty) hsz
            obtain ⟨pre, e1, e2⟩ := dropCh_ok _ _ _ hrr
            obtain ⟨post, e3, e4⟩ := takeCh_ok _ _ _ hq
            obtain ⟨cs, ty', fz, us0, rest, h2, _, h2a, h3, _⟩ := (hr.ms l b k hb hk).2.resolve_left (by rw [e1, e3]; simp)
            rw [e1, e3] at h3
            obtain ⟨us, ws, e5, q1, q2⟩ := (chsRel_append _ _ _).1 h3
            obtain ⟨us', ws', rfl, q3, q4⟩ := (chsRel_append _ _ _).1 q2
            rw [e5, List.append_assoc, List.append_assoc] at h2a
            have l1 := chsRel_size _ _ q1
            have l2 := chsRel_size _ _ q3
            have hload := run_load_agg hu hd hs h2 (off := off) (vs := us') (fun j v hj => by
              rw [← Array.getElem?_toList, h2a, List.getElem?_append_right (by omega), List.getElem?_append_left (by
                have := (List.getElem?_eq_some_iff.1 hj).1; omega)]
              rw [show off + j - us.length = j by omega]; exact hj) (by omega)
            exact ⟨_, hrun _ hload, ⟨_, rfl, by simpa using q3⟩⟩
          · cases h
        · cases h
      · rename_i k hk hsz hi
        have := Nat.eq_of_beq_eq_true hi; subst this
        rw [bnth_eq] at hk
        split at h
        · rename_i c r hsc hrr
          injection h with h; subst h
          obtain ⟨d, hu, hd, hs⟩ := ty_sc (hC.ty ty) hsc
          obtain ⟨pre, e1, e2⟩ := dropCh_ok _ _ _ hrr
          obtain ⟨cs, ty', fz, us0, rest, h2, _, h2a, h3, _⟩ := (hr.ms l b k hb hk).2.resolve_left (by rw [e1]; simp)
          rw [e1] at h3
          obtain ⟨us, ws, e5, q1, q2⟩ := (chsRel_append _ _ _).1 h3
          obtain ⟨us', ws', rfl, ⟨y, e6, _, q3⟩, q4⟩ := q2
          have l1 := chsRel_size _ _ q1
          subst e6
          rw [e5, List.append_assoc, List.append_assoc] at h2a
          refine ⟨y, hrun _ (run_load_one hu hd h2 ?_), q3⟩
          rw [← Array.getElem?_toList, h2a, List.getElem?_append_right (by omega), show off + 0 - us.length = 0 by omega]
          rfl
        · cases h
      · cases h
    · cases h

theorem resAll_ok (hC : CxOk P C) {g : GM} {ts : List AV} {mem : List Blk} {a : Act} {w : World} (hr : R S w0 g ts mem a w) : ∀ {rs : List ResultVar} {xs : List AB}, resAll C ts mem rs = some xs →
    ∃ vs : List Value, (rs.mapM (resVal a)).run P w = .ok vs w ∧ absRel g xs vs
  | [], xs, h => by
    simp only [resAll, Option.some.injEq] at h; subst h
    exact ⟨[], rfl, rfl⟩
  | r :: rs, xs, h => by
    simp only [resAll] at h
    split at h
    · rename_i x xs' h1 h2
      injection h with h; subst h
      obtain ⟨v, q1, q2⟩ := resOne_ok hC hr h1
      obtain ⟨vs, q3, q4⟩ := resAll_ok hC hr h2
      refine ⟨v :: vs, ?_, ⟨v, vs, rfl, q2, q4⟩⟩
      rw [List.mapM_cons, Sem.run_bind, q1]
      simp only [Result.andThen_ok, Sem.run_bind, q3, Sem.run_pure]
    · cases h

theorem results_ok (hC : CxOk P C) {g : GM} {ts : List AV} {mem : List Blk} {a : Act} {w : World} (hr : R S w0 g ts mem a w) {fn : Func} {K : AV → Prop} (h : resK C fn.results.toList ts mem K) :
    ∃ v r, (results fn a.tmps).run P w = .ok v w ∧ K r ∧ r.rel g v := by
  unfold resK at h
  have key : ∀ xs, resAll C ts mem fn.results.toList = some xs → ∃ vs : Array Value, absRel g xs vs.toList ∧ (results fn a.tmps).run P w = .ok (if h : vs.size = 1 then vs[0] else .tuple vs) w := by
    intro xs hx
    obtain ⟨vs, h1, h2⟩ := resAll_ok hC hr hx
    refine ⟨vs.toArray, by simpa using h2, ?_⟩
    have he : results fn a.tmps = (do let vs ← fn.results.mapM (resVal a); pure (if h : vs.size = 1 then vs[0] else .tuple vs)) := by
      unfold results
      congr 1
    rw [he, Sem.run_bind, Array.mapM_eq_mapM_toList, Sem.run_map, h1]
    simp only [Result.andThen_ok, Sem.run_pure]
  split at h
  · rename_i x hx
    obtain ⟨vs, h1, h2⟩ := key _ hx
    obtain ⟨y, ys, e, h3, h4⟩ := h1
    rw [show ys = [] from h4] at e
    have hs : vs.size = 1 := by rw [← Array.length_toList, e]; rfl
    refine ⟨_, _, h2, h, ?_⟩
    rw [dif_pos hs]
    have : vs[0] = y := by
      have h5 : vs.toList[0]? = some y := by rw [e]; rfl
      rw [Array.getElem?_toList, Array.getElem?_eq_getElem (by omega)] at h5
      exact Option.some.inj h5
    rw [this]; exact h3
  · rename_i xs hne hx
    obtain ⟨vs, h1, h2⟩ := key _ hx
    refine ⟨_, _, h2, h, ?_⟩
    rw [dif_neg ?_]
    · exact ⟨vs, rfl, h1⟩
    · intro hs
      cases xs with
      | nil => have : vs.toList = [] := h1
               rw [← Array.length_toList, this] at hs; simp at hs
      | cons x r =>
        cases r with
        | nil => exact hne x rfl
        | cons x' r => obtain ⟨y, ys, e, _, y', ys', e', _⟩ := h1
                       rw [← Array.length_toList, e, e'] at hs; simp at hs
  · exact h.elim

def tops : Nat → List AV
  | 0 => []
  | n + 1 => .top :: tops n
def ts0 : List AB → Nat → List AV
  | [], n => tops n
  | x :: xs, n => .b x :: ts0 xs n

theorem lnth_tops : ∀ (n t : Nat), lnth (tops n) t = .top
  | 0, _ => rfl
  | _ + 1, 0 => rfl
  | n + 1, t + 1 => lnth_tops n t
theorem tops_length : ∀ n, (tops n).length = n
  | 0 => rfl
  | n + 1 => by simp [tops, tops_length n]
theorem ts0_length : ∀ (xs : List AB) (n : Nat), (ts0 xs n).length = xs.length + n
  | [], n => by simp [ts0, tops_length]
  | _ :: xs, n => by simp [ts0, ts0_length xs n]; omega
theorem absRel_length {g : GM} : ∀ (xs : List AB) (vs : List Value), absRel g xs vs → vs.length = xs.length
  | [], vs, h => by rw [show vs = [] from h]; rfl
  | _ :: xs, _, ⟨y, ys, e, _, h⟩ => by subst e; simp [absRel_length xs ys h]
theorem ts0_rel {g : GM} : ∀ (xs : List AB) (vs : List Value) (n t : Nat) (tail : List Value), absRel g xs vs → (lnth (ts0 xs n) t).rel g ((vs ++ tail)[t]?.getD undef)
  | [], vs, n, t, tail, h => by simp only [ts0, lnth_tops]; exact AV.top_rel _ _
  | x :: xs, _, n, 0, tail, ⟨y, ys, e, h, _⟩ => by subst e; exact h
  | x :: xs, _, n, t + 1, tail, ⟨y, ys, e, _, h⟩ => by subst e; simpa [ts0, lnth] using ts0_rel xs ys n t tail h

theorem calls_of_ev (hC : CxOk P C) {f : FuncId} {fn : Func} {c : Code} (hf : P.funcs[f]? = some fn) (hb : fn.body = some c) {w : World} (hk : ∀ l, g0 l ≠ none → l < k0) {xs : List AB} {vs : List Value} {mem : List Blk} (hx : absRel g0 xs vs) (hl : xs.length ≤ fn.ntmps)
    (hms : ∀ l b k, g0 l = some b → mem[l]? = some k → BlkRel S w g0 w b k) (hgw : GW g0 S w w) (hdom : ∀ l, g0 l ≠ none → l < mem.length) (hinj : ∀ l l' b b' k k', g0 l = some b → g0 l' = some b' → b.b = b'.b → mem[l]? = some k → mem[l']? = some k' → live k → live k' → l = l') {K : AV → List Blk → Prop}
    (h : evC P S w C g0 k0 c (ts0 xs (fn.ntmps - xs.length)) mem fun x ts' mem' => match x with
      | .exit _ => False
      | _ => resK C fn.results.toList ts' mem' fun r => K r mem') :
    Calls P f vs.toArray w fun en w' => ∃ v r mem' g', en = .returned v ∧ K r mem' ∧ r.rel g' v ∧ GM.le g0 g' ∧ (∀ l b k, g' l = some b → mem'[l]? = some k → BlkRel S w g' w' b k) ∧ GW g' S w w' ∧ (∀ l, g' l ≠ none → l < mem'.length) ∧ (∀ l l' b b' k k', g' l = some b → g' l' = some b' → b.b = b'.b → mem'[l]? = some k → mem'[l']? = some k' → live k → live k' → l = l') := by
  have hlen := absRel_length _ _ hx
  refine calls_of_wp hf hb (wp_mono (evC_ok hC hk c _ mem _ h g0 _ w (GM.le_refl _) ⟨⟨?_, fun t => ?_⟩, rfl, hms, hgw, hdom, hinj⟩) ?_)
  · rw [ts0_length]; simp; omega
  · have := ts0_rel xs vs (fn.ntmps - xs.length) t (List.replicate (fn.ntmps - vs.length) undef) hx
    simp only [Array.getD_eq_getD_getElem?]
    rw [show (vs.toArray ++ Array.replicate (fn.ntmps - vs.toArray.size) undef)[t]? = (vs ++ List.replicate (fn.ntmps - vs.length) undef)[t]? by simp [← Array.getElem?_toList]]
    exact this
  · rintro e a' w' ⟨x, ts', mem', g', he, hK, hg, hr⟩
    have key : resK C fn.results.toList ts' mem' (fun r => K r mem') → a'.defers = [] ∧ ∃ v, (results fn a'.tmps).run P w' = .ok v w' ∧ ∃ v' r mem' g', Ending.returned v = .returned v' ∧ K r mem' ∧ r.rel g' v' ∧ GM.le g0 g' ∧
        (∀ l b k, g' l = some b → mem'[l]? = some k → BlkRel S w g' w' b k) ∧ GW g' S w w' ∧ (∀ l, g' l ≠ none → l < mem'.length) ∧ (∀ l l' b b' k k', g' l = some b → g' l' = some b' → b.b = b'.b → mem'[l]? = some k → mem'[l']? = some k' → live k → live k' → l = l') := by
      intro hK
      obtain ⟨v, r, h1, h2, h3⟩ := results_ok hC hr hK
      exact ⟨hr.defers, v, h1, v, r, mem', g', rfl, h2, h3, hg, hr.ms, hr.gw, hr.dom, hr.inj⟩
    cases x with
    | normal => cases e <;> first | exact he.elim | exact key hK
    | exit i => exact hK.elim
    | ret => cases e <;> first | exact he.elim | exact key hK

/-! ### Functions that only reckon -/

def freeCV : CV → Bool
  | .ptr _ _ _ => false
  | .sl _ _ _ _ _ => false
  | .fn _ _ [] => true
  | .fn _ _ _ => false
  | .top => false
  | _ => true
def freeChs : List Ch → Prop
  | [] => True
  | .cell c :: r => freeCV c = true ∧ freeChs r
  | .num _ :: r => freeChs r
  | .vec n f :: r => (∀ i, i < n → freeCV (f i) = true) ∧ freeChs r
def freeAB : AB → Prop
  | .cv c => freeCV c = true
  | .agg cs => freeChs cs
def freeABs : List AB → Prop
  | [] => True
  | x :: r => freeAB x ∧ freeABs r
def freeAV : AV → Prop
  | .b x => freeAB x
  | .tup xs => freeABs xs

theorem freeCV_ok {c : CV} (h : freeCV c = true) {g g' : GM} {v : Value} (hr : c.rel g v) : c.rel g' v := by
  cases c with
  | fn f fs cs =>
    cases cs with
    | nil => exact hr
    | cons => cases h
  | top => cases h
  | ptr => cases h
  | sl => cases h
  | _ => exact hr
theorem freeChs_ok {g g' : GM} : ∀ {cs : List Ch} {vs : List Value}, freeChs cs → chsRel g cs vs → chsRel g' cs vs
  | [], _, _, h => h
  | .cell c :: r, _, ⟨h1, h2⟩, ⟨us, ws, e, ⟨y, e2, q1, q2⟩, q3⟩ => ⟨us, ws, e, ⟨y, e2, q1, freeCV_ok h1 q2⟩, freeChs_ok h2 q3⟩
  | .num x :: r, _, h2, ⟨us, ws, e, q, q3⟩ => ⟨us, ws, e, q, freeChs_ok h2 q3⟩
  | .vec n f :: r, _, ⟨h1, h2⟩, ⟨us, ws, e, ⟨q0, q⟩, q3⟩ => ⟨us, ws, e, ⟨q0, fun i y hi => ⟨(q i y hi).1, freeCV_ok (h1 i (by rw [← q0]; exact (List.getElem?_eq_some_iff.1 hi).1)) (q i y hi).2⟩⟩, freeChs_ok h2 q3⟩
theorem freeAB_ok {g g' : GM} {x : AB} {v : Value} (h : freeAB x) (hr : x.rel g v) : x.rel g' v := by
  cases x with
  | cv c => exact freeCV_ok h hr
  | agg cs => obtain ⟨a, e, q⟩ := hr; exact ⟨a, e, freeChs_ok h q⟩
theorem freeABs_ok {g g' : GM} : ∀ {xs : List AB} {vs : List Value}, freeABs xs → absRel g xs vs → absRel g' xs vs
  | [], _, _, h => h
  | _ :: _, _, ⟨h1, h2⟩, ⟨y, ys, e, q1, q2⟩ => ⟨y, ys, e, freeAB_ok h1 q1, freeABs_ok h2 q2⟩
theorem freeAV_ok {g g' : GM} {x : AV} {v : Value} (h : freeAV x) (hr : x.rel g v) : x.rel g' v := by
  cases x with
  | b x => exact freeAB_ok h hr
  | tup xs => obtain ⟨a, e, q⟩ := hr; exact ⟨a, e, freeABs_ok h q⟩

/-- What the arguments' words say of the numbers in them. -/
def factCV : CV → Prop
  | .int k n => IntKind.has k n
  | _ => True
def factChs : List Ch → Prop
  | [] => True
  | .cell c :: r => factCV c ∧ factChs r
  | .num x :: r => x < BW ∧ factChs r
  | .vec n f :: r => (∀ i, i < n → factCV (f i)) ∧ factChs r
def factAB : AB → Prop
  | .cv c => factCV c
  | .agg cs => factChs cs
def factABs : List AB → Prop
  | [] => True
  | x :: r => factAB x ∧ factABs r
theorem factCV_ok {g : GM} {c : CV} {v : Value} (h : c.rel g v) : factCV c := by cases c <;> first | exact h.2 | trivial
theorem factChs_ok {g : GM} : ∀ {cs : List Ch} {vs : List Value}, chsRel g cs vs → factChs cs
  | [], _, _ => trivial
  | .cell c :: r, _, ⟨us, ws, e, ⟨y, e2, q1, q2⟩, q3⟩ => ⟨factCV_ok q2, factChs_ok q3⟩
  | .num x :: r, _, ⟨us, ws, e, q, q3⟩ => ⟨q.1, factChs_ok q3⟩
  | .vec n f :: r, _, ⟨us, ws, e, ⟨q0, q⟩, q3⟩ => ⟨fun i hi => factCV_ok (q i _ (List.getElem?_eq_getElem (by rw [q0]; exact hi))).2, factChs_ok q3⟩
theorem factABs_ok {g : GM} : ∀ {xs : List AB} {vs : List Value}, absRel g xs vs → factABs xs
  | [], _, _ => trivial
  | x :: _, _, ⟨y, ys, e, q1, q2⟩ => ⟨by
      cases x with
      | cv c => exact factCV_ok q1
      | agg cs => obtain ⟨a, e, q⟩ := q1; exact factChs_ok q, factABs_ok q2⟩

def noS : Nat → Prop := fun _ => False
def noG : GM := fun _ => none

theorem callFunc_enter {f : FuncId} {fn : Func} {c : Code} (hf : P.funcs[f]? = some fn) (hb : fn.body = some c) (hn : (fn.name == "runtime.NumGoroutine") = false) (vs : Array Value) (w : World) : (callFunc f vs).run P w = .ok (.enter f vs) w := by
  simp only [callFunc, Sem.run_bind, run_program, Result.andThen_ok, hf, hn, hb]
  rfl

theorem pure_of_ev (hC : CxOk P C) {f : FuncId} {fn : Func} {c : Code} {xs : List AB} {r : AV} (hf : P.funcs[f]? = some fn) (hb : fn.body = some c) (hn : (fn.name == "runtime.NumGoroutine") = false) (hl : xs.length ≤ fn.ntmps)
    (hfree : freeABs xs) (hfr : freeAV r)
    (h : factABs xs → ∀ w, evC P noS w C noG 0 c (ts0 xs (fn.ntmps - xs.length)) [] fun x ts' mem' => match x with
      | .exit _ => False
      | _ => resK C fn.results.toList ts' mem' fun r' => leAV 0 r' r True) : PureOk P f xs r := by
  intro g w vs hv
  refine .inr ⟨callFunc_enter hf hb hn _ w, (calls_of_ev hC hf hb (g0 := noG) (k0 := 0) (S := noS) (w := w) (mem := []) (xs := xs) (vs := vs) (K := fun r' _ => leAV 0 r' r True) (fun l h => absurd rfl h) (freeABs_ok hfree hv) hl (fun l b k h => by cases h) ⟨(fun l b h => by cases h), Fr.refl _ _⟩ (fun l h => absurd rfl h) (fun l l' b b' k k' h => by cases h) (h (factABs_ok hv) w)).mono ?_⟩
  rintro en w' ⟨v, r', mem', g', he, hK, hr, _, _, hg, _⟩
  exact ⟨v, he, freeAV_ok hfr ((leAV_ok hK).2 g' v hr), hg.fr⟩

end Go.Ev
