/- The evaluator of operations is right. No condition. -/
import Derived.Test.YtacjiajijigebaaEvH
namespace Go.Ev
open Go

variable {P : Program} {S : Nat → Prop} {w0 : World} {C : Cx} {o : Oper} {ts : List AV} {mem : List Blk} {K : OK3}

theorem conv_ok (hC : CxOk P C) {t t' : TypeId} {x : Operand} (ho : o.op = .convert t t' x) (h : convK P S w0 C o ts mem K t t' x) : byHand P S w0 o ts mem K := by
  unfold convK at h
  split at h
  · rename_i k a k0 k' hx0 hT hT'
    have h1 := hC.ty t
    have h2 := hC.ty t'
    rw [hT] at h1
    rw [hT'] at h2
    refine ⟨_, _, _, exec_pure fun g ac w hx => ?_, h⟩
    have q := hx x (by simp [ho, Op.operands])
    rw [hx0] at q
    refine ⟨.int k' (k'.wrap a), ?_, ⟨rfl, has_wrap _ _⟩⟩
    simp [execOp, ho, q.1, convert, run_underlying' h1.2, run_underlying' h2.2, Conv.intToInt]
  · exact h

theorem un_ok {op : UnOp} {t : TypeId} {x : Operand} (ho : o.op = .unOp op t x) (h : unK P S w0 o ts mem K op x) : byHand P S w0 o ts mem K := by
  unfold unK at h
  split at h
  · rename_i b hx0
    refine ⟨_, _, _, exec_pure fun g ac w hx => ?_, h⟩
    have q := hx x (by simp [ho, Op.operands])
    rw [hx0] at q
    have q : ac.eval x = .bool b := q
    exact ⟨.bool (!b), by simp [execOp, ho, q, Op.unary], rfl⟩
  · rename_i k a hx0
    refine ⟨_, _, _, exec_pure fun g ac w hx => ?_, h⟩
    have q := hx x (by simp [ho, Op.operands])
    rw [hx0] at q
    exact ⟨.int k (k.wrap (0 - a)), by simp [execOp, ho, q.1, Op.unary, Op.intArith], ⟨rfl, has_wrap _ _⟩⟩
  · exact h

theorem extr_ok {x : Operand} {i : Nat} (ho : o.op = .extract x i) (h : extrK P S w0 o ts mem K x i) : byHand P S w0 o ts mem K := by
  unfold extrK at h
  split at h
  · rename_i xs hx0
    split at h
    · rename_i ab hab
      rw [xth_eq] at hab
      refine ⟨_, _, _, exec_pure fun g ac w hx => ?_, h⟩
      have q := hx x (by simp [ho, Op.operands])
      rw [hx0] at q
      obtain ⟨a, e, hr⟩ := q
      obtain ⟨v, h1, h2⟩ := absRel_get xs _ i ab hr hab
      have h1 : a[i]? = some v := by rw [← Array.getElem?_toList]; exact h1
      exact ⟨v, by simp [execOp, ho, e, Instr.extract, h1], h2⟩
    · exact h
  · exact h

theorem move_ok {x : Operand} (ho : o.op = .move x ∨ o.op = .assign x) (h : K (opv ts x) noEff []) : byHand P S w0 o ts mem K := by
  refine ⟨_, _, _, exec_pure fun g ac w hx => ?_, h⟩
  have q := hx x (by rcases ho with ho | ho <;> simp [ho, Op.operands])
  exact ⟨ac.eval x, by rcases ho with ho | ho <;> simp [execOp, ho], q⟩

theorem pick_ok {c a b : Operand} {t : Bool} (ho : o.op = .pick c a b) (hc : opv ts c = .b (.cv (.bool t))) (h : pickK t (opv ts a) (opv ts b) fun av => K av noEff []) : byHand P S w0 o ts mem K := by
  have hrun : ∀ (g : GM) (ac : Act) (w : World), (∀ x ∈ o.op.operands, (opv ts x).rel g (ac.eval x)) → (execOp ac.eval o).run P w = .ok (.value (if t then ac.eval a else ac.eval b)) w := by
    intro g ac w hx
    have q := hx c (by simp [ho, Op.operands])
    rw [hc] at q
    have q : ac.eval c = .bool t := q
    simp [execOp, ho, q, asBool]
  unfold pickK at h
  split at h
  · rename_i x y ha hb
    refine ⟨_, _, _, exec_pure fun g ac w hx => ⟨_, hrun g ac w hx, ?_⟩, h⟩
    have q1 := hx a (by simp [ho, Op.operands])
    have q2 := hx b (by simp [ho, Op.operands])
    rw [ha] at q1
    rw [hb] at q2
    have q1 : ac.eval a = .bool x := q1
    have q2 : ac.eval b = .bool y := q2
    show _ = Value.bool (cond t x y)
    rw [q1, q2]; cases t <;> rfl
  · split at h
    · refine ⟨_, _, _, exec_pure fun g ac w hx => ⟨_, hrun g ac w hx, ?_⟩, h⟩
      exact hx a (by simp [ho, Op.operands])
    · refine ⟨_, _, _, exec_pure fun g ac w hx => ⟨_, hrun g ac w hx, ?_⟩, h⟩
      exact hx b (by simp [ho, Op.operands])

theorem two_args {ts : List AV} {l : List Operand} {x y : AV} (h : l.map (opv ts) = [x, y]) : ∃ a b, l = [a, b] ∧ opv ts a = x ∧ opv ts b = y := by
  cases l with
  | nil => simp at h
  | cons a l => cases l with
    | nil => simp at h
    | cons b l => cases l with
      | nil => simp at h; exact ⟨a, b, rfl, h.1, h.2⟩
      | cons => simp at h
theorem call_ok (hC : CxOk P C) {c : Call} (ho : o.op = .call c) (h : callK P S w0 C o ts mem K c) : byHand P S w0 o ts mem K := by
  unfold callK at h
  split at h
  · rename_i fx hfx
    split at h
    · rename_i f fs cs xs hf hxs
      split at h
      · rename_i p r e rd hr
        exact ⟨_, _, _, exec_call ho hfx hf hxs (hC.O _ _ _ _ _ _ _ hr h.1 S w0), h.2⟩
      · obtain ⟨rd, r, e, h1, h2⟩ := h
        exact ⟨_, _, _, exec_call ho hfx hf hxs h1, h2⟩
    · exact h
  · rename_i hb
    split at h
    · rename_i l off i n cc e esz hl hT
      refine ⟨_, _, _, exec_pure fun g ac w hx => ?_, h⟩
      obtain ⟨x, hax, hx0⟩ : ∃ x, c.args.toList = [x] ∧ opv ts x = .b (.cv (.sl l off i n cc)) := by
        cases hq : c.args.toList with
        | nil => rw [hq] at hl; simp at hl
        | cons x r => cases r with
          | nil => rw [hq] at hl; simp at hl; exact ⟨x, rfl, hl⟩
          | cons => rw [hq] at hl; simp at hl
      obtain ⟨t, hat, ht⟩ : ∃ t, c.argTypes.toList = [t] ∧ C.T t = .slice e esz := by
        cases hq : c.argTypes.toList with
        | nil => rw [hq] at hT; simp at hT
        | cons x r => cases r with
          | nil => rw [hq] at hT; simp at hT; exact ⟨x, rfl, hT⟩
          | cons => rw [hq] at hT; simp at hT
      have q := hx x (by simp only [ho, Op.operands, Call.operands, hb]; rw [Array.mem_append]; exact .inr (Array.mem_toList_iff.1 (by rw [hax]; simp)))
      rw [hx0] at q
      have hty := hC.ty t
      rw [ht] at hty
      have hbd : n ≤ 9223372036854775807 ∧ ∃ bs cap, ac.eval x = .slice bs n cap := by
        rcases q with ⟨r1, _, ad, r3⟩ | ⟨h1, cap, h1', h2, b, hgb, hrm, hv⟩
        · exact ⟨by omega, ad, 0, by rw [r1]; exact r3⟩
        · exact ⟨by omega, _, cap, hv⟩
      obtain ⟨h2, bs, cap, hv⟩ := hbd
      refine ⟨.int .i64 n, ?_, ⟨rfl, ?_⟩⟩
      · have e1 : c.args = #[x] := by rw [← Array.toList_inj]; exact hax
        have e2 : c.argTypes = #[t] := by rw [← Array.toList_inj]; exact hat
        simp [execOp, ho, resolve, hb, invoke, builtin, e1, e2, Builtin.len_, run_underlying' hty.2.1, hv, goInt]
      · have q1 : IntKind.i64.min = -9223372036854775808 := rfl
        have q2 : IntKind.i64.max = 9223372036854775807 := rfl
        unfold IntKind.has
        rw [q1, q2]
        show _ ∧ (n : Int) ≤ _
        constructor
        · show _ ≤ (n : Int); omega
        · omega
    · rename_i A n cc e esz hl hT
      obtain ⟨hbn, h⟩ := obl_ok h
      have hbn := Nat.le_of_ble_eq_true hbn
      refine ⟨_, _, _, exec_pure fun g ac w hx => ?_, h⟩
      obtain ⟨x, hax, hx0⟩ : ∃ x, c.args.toList = [x] ∧ opv ts x = .b (.cv (.v (.slice A n cc))) := by
        cases hq : c.args.toList with
        | nil => rw [hq] at hl; simp at hl
        | cons x r => cases r with
          | nil => rw [hq] at hl; simp at hl; exact ⟨x, rfl, hl⟩
          | cons => rw [hq] at hl; simp at hl
      obtain ⟨t, hat, ht⟩ : ∃ t, c.argTypes.toList = [t] ∧ C.T t = .slice e esz := by
        cases hq : c.argTypes.toList with
        | nil => rw [hq] at hT; simp at hT
        | cons x r => cases r with
          | nil => rw [hq] at hT; simp at hT; exact ⟨x, rfl, hT⟩
          | cons => rw [hq] at hT; simp at hT
      have q := hx x (by simp only [ho, Op.operands, Call.operands, hb]; rw [Array.mem_append]; exact .inr (Array.mem_toList_iff.1 (by rw [hax]; simp)))
      rw [hx0] at q
      have hv : ac.eval x = .slice A n cc := q
      have hty := hC.ty t
      rw [ht] at hty
      refine ⟨.int .i64 n, ?_, ⟨rfl, ?_⟩⟩
      · have e1 : c.args = #[x] := by rw [← Array.toList_inj]; exact hax
        have e2 : c.argTypes = #[t] := by rw [← Array.toList_inj]; exact hat
        simp [execOp, ho, resolve, hb, invoke, builtin, e1, e2, Builtin.len_, run_underlying' hty.2.1, hv, goInt]
      · have q1 : IntKind.i64.min = -9223372036854775808 := rfl
        have q2 : IntKind.i64.max = 9223372036854775807 := rfl
        unfold IntKind.has
        rw [q1, q2]
        constructor
        · show _ ≤ (n : Int); omega
        · show (n : Int) ≤ _; omega
    · rename_i s hl hT
      obtain ⟨hbn, h⟩ := obl_ok h
      have hbn := Nat.le_of_ble_eq_true hbn
      refine ⟨_, _, _, exec_pure fun g ac w hx => ?_, h⟩
      obtain ⟨x, hax, hx0⟩ : ∃ x, c.args.toList = [x] ∧ opv ts x = .b (.cv (.v (.string s))) := by
        cases hq : c.args.toList with
        | nil => rw [hq] at hl; simp at hl
        | cons x r => cases r with
          | nil => rw [hq] at hl; simp at hl; exact ⟨x, rfl, hl⟩
          | cons => rw [hq] at hl; simp at hl
      obtain ⟨t, hat, ht⟩ : ∃ t, c.argTypes.toList = [t] ∧ C.T t = .str := by
        cases hq : c.argTypes.toList with
        | nil => rw [hq] at hT; simp at hT
        | cons x r => cases r with
          | nil => rw [hq] at hT; simp at hT; exact ⟨x, rfl, hT⟩
          | cons => rw [hq] at hT; simp at hT
      have q := hx x (by simp only [ho, Op.operands, Call.operands, hb]; rw [Array.mem_append]; exact .inr (Array.mem_toList_iff.1 (by rw [hax]; simp)))
      rw [hx0] at q
      have hv : ac.eval x = .string s := q
      have hty := hC.ty t
      rw [ht] at hty
      refine ⟨.int .i64 s.size, ?_, ⟨rfl, ?_⟩⟩
      · have e1 : c.args = #[x] := by rw [← Array.toList_inj]; exact hax
        have e2 : c.argTypes = #[t] := by rw [← Array.toList_inj]; exact hat
        simp [execOp, ho, resolve, hb, invoke, builtin, e1, e2, Builtin.len_, run_underlying' hty.2, hv, goInt]
      · have q1 : IntKind.i64.min = -9223372036854775808 := rfl
        have q2 : IntKind.i64.max = 9223372036854775807 := rfl
        unfold IntKind.has
        rw [q1, q2]
        constructor
        · show _ ≤ (s.size : Int); omega
        · show (s.size : Int) ≤ _; omega
    · exact h
  · rename_i hb
    split at h
    · rename_i k x k' y hl
      split at h
      · rename_i hk
        have := kindB_eq hk; subst this
        refine ⟨_, _, _, exec_pure fun g ac w hx => ?_, h⟩
        obtain ⟨a, b, hab, ha0, hb0⟩ := two_args hl
        have q1 := hx a (by simp only [ho, Op.operands, Call.operands, hb]; rw [Array.mem_append]; exact .inr (Array.mem_toList_iff.1 (by rw [hab]; simp)))
        have q2 := hx b (by simp only [ho, Op.operands, Call.operands, hb]; rw [Array.mem_append]; exact .inr (Array.mem_toList_iff.1 (by rw [hab]; simp)))
        rw [ha0] at q1; rw [hb0] at q2
        have e1 : c.args = #[a, b] := by rw [← Array.toList_inj]; exact hab
        refine ⟨.int k (if y < x then y else x), ?_, ?_⟩
        · simp [execOp, ho, resolve, hb, invoke, builtin, e1, Builtin.min_, Builtin.min2, q1.1, q2.1]
        · have e2 : (bif iltB y x then y else x) = if y < x then y else x := by rw [iltB_eq]; simp [cond_eq_ite]
          rw [e2]
          refine ⟨rfl, ?_⟩
          split
          · exact q2.2
          · exact q1.2
      · exact h
    · exact h
  · rename_i hb
    split at h
    · rename_i k x k' y hl
      split at h
      · rename_i hk
        have := kindB_eq hk; subst this
        refine ⟨_, _, _, exec_pure fun g ac w hx => ?_, h⟩
        obtain ⟨a, b, hab, ha0, hb0⟩ := two_args hl
        have q1 := hx a (by simp only [ho, Op.operands, Call.operands, hb]; rw [Array.mem_append]; exact .inr (Array.mem_toList_iff.1 (by rw [hab]; simp)))
        have q2 := hx b (by simp only [ho, Op.operands, Call.operands, hb]; rw [Array.mem_append]; exact .inr (Array.mem_toList_iff.1 (by rw [hab]; simp)))
        rw [ha0] at q1; rw [hb0] at q2
        have e1 : c.args = #[a, b] := by rw [← Array.toList_inj]; exact hab
        refine ⟨.int k (if y > x then y else x), ?_, ?_⟩
        · simp [execOp, ho, resolve, hb, invoke, builtin, e1, Builtin.max_, Builtin.max2, q1.1, q2.1]
        · have e2 : (bif iltB x y then y else x) = if y > x then y else x := by rw [iltB_eq]; simp [cond_eq_ite]
          rw [e2]
          refine ⟨rfl, ?_⟩
          split
          · exact q2.2
          · exact q1.2
      · exact h
    · exact h
  · exact h

theorem caps0_ok {g : GM} : ∀ (l : List AV) (q : List Nat) (vs : List Value), caps0 l = some q → (∀ (i : Nat) (a : AV) (y : Value), l[i]? = some a → vs[i]? = some y → a.rel g y) → l.length = vs.length → capsRel g q vs
  | [], q, vs, h, _, hl => by
    simp only [caps0, Option.some.injEq] at h; subst h
    cases vs with
    | nil => rfl
    | cons => simp at hl
  | a :: r, q, vs, h, hr, hl => by
    cases vs with
    | nil => simp at hl
    | cons y ys =>
      unfold caps0 at h
      split at h
      · rename_i h0; cases h0
      · rename_i l r' h0
        injection h0 with e1 e2
        subst e1; subst e2
        split at h
        · rename_i q' hq
          injection h with h; subst h
          obtain ⟨b, hb, hv⟩ := hr 0 _ y rfl rfl
          exact ⟨b, ys, hb, by rw [hv], caps0_ok _ q' ys hq (fun i a z h1 h2 => hr (i + 1) a z (by simpa using h1) (by simpa using h2)) (by simpa using hl)⟩
        · cases h
      · cases h

theorem mk_ok {fn : Fn} {first captured : Array Operand} (ho : o.op = .makeFunc fn first captured) (h : mkK P S w0 o ts mem K fn first captured) : byHand P S w0 o ts mem K := by
  unfold mkK at h
  split at h
  · rename_i f q hf hq
    refine ⟨_, _, _, exec_pure fun g ac w hx => ?_, h⟩
    have e1 : first = #[] := by rw [← Array.toList_inj]; exact hf
    subst e1
    refine ⟨.func (.func f) #[] (captured.map ac.eval), by simp [execOp, ho, Instr.makeFunc], trivial, captured.map ac.eval, ?_, rfl⟩
    refine caps0_ok _ q _ hq (fun i a y h1 h2 => ?_) (by simp)
    rw [Array.toList_map] at h2
    simp only [List.getElem?_map, Option.map_eq_some_iff] at h1 h2
    obtain ⟨x, q1, rfl⟩ := h1
    obtain ⟨x', q2, rfl⟩ := h2
    rw [q1] at q2; injection q2 with q2; subst q2
    exact hx x (by simp only [ho, Op.operands]; exact Array.mem_append.2 (.inr (Array.mem_toList_iff.1 (List.mem_of_getElem? q1))))
  · exact h

theorem foldl_setL (vs : List Value) : ∀ (cs : Array Value) (off n : Nat), ((vs.zipIdx n).foldl (fun cs p => cs.setIfInBounds (off + p.2) p.1) cs) = setL cs (off + n) vs := by
  induction vs with
  | nil => intro cs off n; rfl
  | cons v vs ih => intro cs off n; rw [List.zipIdx_cons, List.foldl_cons, ih]; rfl

theorem updCell_ok {c : CV} : ∀ {cs cs' : List Ch} {off : Nat}, updCell c cs off = some cs' → ∀ (g : GM) (vs : List Value) (y : Value), chsRel g cs vs → y.oneCell' = true → c.rel g y → off + 1 ≤ vs.length ∧ chsRel g cs' (vs.set off y)
  | [], _, _, h => by simp [updCell] at h
  | x :: r, cs', off, h => by
    intro g vs y ⟨us, ws, e, h1, h2⟩ hy hc
    have hs := Ch.rel_size h1
    subst e
    unfold updCell at h
    split at h
    · rename_i hle
      have hle := Nat.le_of_ble_eq_true hle
      split at h
      · rename_i q hq
        injection h with h; subst h
        obtain ⟨q1, q2⟩ := updCell_ok hq g ws y h2 hy hc
        refine ⟨by simp; omega, us, ws.set (off - x.size) y, ?_, h1, q2⟩
        rw [List.set_append_right _ _ (by omega), hs]
      · cases h
    · rename_i hle
      have hlt : off < x.size := by
        rcases Nat.lt_or_ge off x.size with h | h
        · exact h
        · rw [Nat.ble_eq_true_of_le h] at hle; cases hle
      split at h
      · rename_i n f
        injection h with h; subst h
        have hsz : off < us.length := by omega
        refine ⟨by simp; omega, us.set off y, ws, by rw [List.set_append_left _ _ hsz], ⟨by rw [List.length_set]; exact h1.1, fun j z hz => ?_⟩, h2⟩
        unfold fupd
        by_cases e : j = off
        · subst e
          rw [Nat.beq_refl]
          rw [List.getElem?_set_self hsz] at hz
          injection hz with hz; subst hz; exact ⟨hy, hc⟩
        · have : Nat.beq j off = false := by cases hb : Nat.beq j off with | false => rfl | true => exact absurd (Nat.eq_of_beq_eq_true hb) e
          rw [this]
          rw [List.getElem?_set_ne (Ne.symm e)] at hz
          exact h1.2 j z hz
      · cases h
theorem set_splice {vs : List Value} {off : Nat} {y : Value} (h : off + 1 ≤ vs.length) : vs.set off y = vs.take off ++ ([y] ++ vs.drop (off + 1)) := by
  rw [List.set_eq_take_append_cons_drop, if_pos (by omega)]; simp
theorem putCh_ok {g : GM} {cs cs' new : List Ch} {off sz : Nat} (hr : putCh new sz cs off = some cs') {vs us : List Value} (hv : chsRel g cs vs) (hu : chsRel g new us) (hl : us.length = sz) :
    off + sz ≤ vs.length ∧ chsRel g cs' (vs.take off ++ (us ++ vs.drop (off + sz))) := by
  unfold putCh at hr
  split at hr
  · rename_i q hq
    injection hr with hr; subst hr
    exact chsRel_splice hq hv hu hl
  · split at hr
    · rename_i c
      split at hr
      · rename_i hsz
        have := Nat.eq_of_beq_eq_true hsz; subst this
        obtain ⟨us1, us2, rfl, ⟨y, rfl, hy, hc⟩, h2⟩ := hu
        rw [show us2 = [] from h2, List.append_nil]
        obtain ⟨q1, q2⟩ := updCell_ok hr g vs y hv hy hc
        exact ⟨by omega, by rw [← set_splice (by omega)]; exact q2⟩
      · cases hr
    · cases hr
theorem repL_ok {g : GM} {z : List Ch} {vs : List Value} (h : chsRel g z vs) : ∀ n, chsRel g (repL n z) ((List.replicate n vs).flatten)
  | 0 => rfl
  | n + 1 => by
    rw [repL, appCh_eq, List.replicate_succ, List.flatten_cons]
    exact (chsRel_append _ _ _).2 ⟨vs, _, rfl, h, repL_ok h n⟩
theorem repCh_ok {g : GM} {z : List Ch} {vs : List Value} (h : chsRel g z vs) (n : Nat) : chsRel g (repCh n z) ((List.replicate n vs).flatten) := by
  unfold repCh
  split
  · rename_i c
    obtain ⟨us, ws, rfl, ⟨y, rfl, hy, hc⟩, h2⟩ := h
    rw [show ws = [] from h2, List.append_nil]
    have e : (List.replicate n [y]).flatten = List.replicate n y := by simp [List.flatten_replicate_singleton]
    rw [e]
    refine ⟨List.replicate n y, [], by simp, ⟨by simp, fun i u hi => ?_⟩, rfl⟩
    rw [List.getElem?_replicate] at hi
    split at hi
    · injection hi with hi; subst hi; exact ⟨hy, hc⟩
    · cases hi
  · exact repL_ok h n
theorem flat_get {L : List Value} (hk : 0 < L.length) : ∀ (n i : Nat), i < n * L.length → (List.replicate n L).flatten[i]? = L[i % L.length]?
  | 0, i, h => by omega
  | n + 1, i, h => by
    rw [List.replicate_succ, List.flatten_cons]
    by_cases hi : i < L.length
    · rw [List.getElem?_append_left hi, Nat.mod_eq_of_lt hi]
    · rw [List.getElem?_append_right (by omega), flat_get hk n (i - L.length) (by rw [Nat.add_mul] at h; omega)]
      rw [Nat.mod_eq_sub_mod (a := i) (by omega)]
theorem zero_row {z : Array Value} (hk : 0 < z.size) (n : Nat) : ((Array.range (n * z.size)).map (z[· % z.size]!)).toList = (List.replicate n z.toList).flatten := by
  apply List.ext_getElem?
  intro i
  by_cases hi : i < n * z.size
  · rw [flat_get (by rw [Array.length_toList]; exact hk) n i (by rw [Array.length_toList]; exact hi)]
    have hm : i % z.size < z.size := Nat.mod_lt _ hk
    simp [hi, hm]
  · rw [List.getElem?_eq_none (by simp; omega), List.getElem?_eq_none (by simp; omega)]

theorem parts_ok {g : GM} {ac : Act} {place : Nat → Option (Nat × Nat)} : ∀ (parts : List (Nat × Operand)) (cs cs' : List Ch) (vs : Array Value), partsK C place (parts.map fun p => (p.1, opv ts p.2)) cs = some cs' → chsRel g cs vs.toList →
    (∀ p ∈ parts, (opv ts p.2).rel g (ac.eval p.2)) → ∃ vs', Instr.fill place vs (parts.map fun p => (p.1, ac.eval p.2)) = some vs' ∧ chsRel g cs' vs'.toList
  | [], cs, cs', vs, h, hr, _ => by
    simp only [List.map_nil, partsK, Option.some.injEq] at h; subst h
    exact ⟨vs, rfl, hr⟩
  | (i, x) :: parts, cs, cs', vs, h, hr, hx => by
    simp only [List.map_cons, partsK] at h
    split at h
    · rename_i p new hp hnew
      split at h
      · rename_i c2 hl hrep
        have hl := Nat.eq_of_beq_eq_true hl
        have h1 : chsRel g new (ac.eval x).cells.toList := chsOf_rel hnew (hx (i, x) (List.mem_cons_self ..))
        have h2 := chsRel_size _ _ h1
        obtain ⟨h3, h4⟩ := putCh_ok hrep hr h1 (by omega)
        have h5 : chsRel g c2 (setL vs p.1 (ac.eval x).cells.toList).toList := by
          rw [setL_toList _ _ _ (by rw [Array.length_toList] at h3; omega), h2, hl]; exact h4
        obtain ⟨vs', h6, h7⟩ := parts_ok parts c2 cs' _ h h5 fun q hq => hx q (List.mem_cons_of_mem _ hq)
        refine ⟨vs', ?_, h7⟩
        simp only [List.map_cons, Instr.fill, hp]
        rw [Array.length_toList] at h2 h3
        have hc : ((ac.eval x).cells.size ≠ p.2 || p.1 + (ac.eval x).cells.size > vs.size) = false := by
          rw [Bool.or_eq_false_iff]; constructor
          · simp; omega
          · simp; omega
        obtain ⟨po, ps⟩ := p
        simp only at hc h3 hl ⊢
        simp only [hc, Bool.false_eq_true, if_false]
        rw [← h6]
        congr 1
        have := foldl_setL (ac.eval x).cells.toList vs po 0
        rw [Nat.add_zero] at this
        rw [← this, ← Array.foldl_toList, Array.toList_zipIdx]
      · cases h
    · cases h

theorem mapM_places (F : Array Field) (w : World) (hs : ∀ f ∈ F.toList, P.cellsOf f.type ≠ 0) : (F.mapM fun f => (do pure (f.offset, ← sizeOf f.type) : Sem (Nat × Nat))).run P w = .ok (F.map fun f => (f.offset, P.cellsOf f.type)) w := by
  have key : ∀ (l : List Field) (hs : ∀ f ∈ l, P.cellsOf f.type ≠ 0), (l.mapM fun f => (do pure (f.offset, ← sizeOf f.type) : Sem (Nat × Nat))).run P w = .ok (l.map fun f => (f.offset, P.cellsOf f.type)) w := by
    intro l
    induction l with
    | nil => intro _; simp
    | cons f l ih =>
      intro hs
      have hne := hs f (List.mem_cons_self ..)
      have hsz : (P.info? f.type).map (·.size) = some (P.cellsOf f.type) := by
        unfold Program.cellsOf at hne ⊢
        cases hq : (P.info? f.type).map (·.size) with
        | none => rw [hq] at hne; simp at hne
        | some n => rfl
      rw [List.mapM_cons, Sem.run_bind, Sem.run_bind, run_sizeOf' hsz]
      simp only [Result.andThen_ok, Sem.run_pure, Sem.run_bind, ih fun f' h' => hs f' (List.mem_cons_of_mem _ h'), List.map_cons]
  rw [Array.mapM_eq_mapM_toList, Sem.run_map, key _ hs]
  simp only [Result.andThen_ok]
  congr 1
  apply Array.toList_inj.1; simp

theorem build_ok (hC : CxOk P C) {t : TypeId} {parts : Array (Nat × Operand)} (ho : o.op = .build t parts) (h : buildK P S w0 C o ts mem K t parts) : byHand P S w0 o ts mem K := by
  unfold buildK at h
  have hty := hC.ty t
  split at h
  · rename_i fs sz z hT
    rw [hT] at hty
    obtain ⟨v, F, hz, hu, hfs, hnz, hzr⟩ := hty
    split at h
    · rename_i cs hcs
      refine ⟨_, _, _, exec_pure fun g ac w hx => ?_, h⟩
      have hxp : ∀ p ∈ parts.toList, (opv ts p.2).rel g (ac.eval p.2) := fun p hp => hx p.2 (by simp only [ho, Op.operands, List.mem_toArray, List.mem_map]; exact ⟨p, hp, rfl⟩)
      obtain ⟨vs', h1, h2⟩ := parts_ok parts.toList z cs v hcs (hzr g) hxp
      refine ⟨.agg vs', ?_, ⟨vs', rfl, h2⟩⟩
      have hpl : (fun i => ((F.map fun f => (f.offset, P.cellsOf f.type))[i]? : Option (Nat × Nat))) = fld fs := by
        funext i
        rw [fld_eq, ← hfs]
        simp [List.getElem?_map]
      have hm := mapM_places (P := P) F w fun f hf => hnz (f.offset, P.cellsOf f.type) (by rw [← hfs]; exact List.mem_map_of_mem hf)
      simp only [execOp, ho, Instr.build, Sem.run_bind, (run_zero' hz w).1, Result.andThen_ok, run_underlying' hu, hm, hpl]
      have hpm : (parts.map fun p => (p.1, ac.eval p.2)).toList = parts.toList.map fun p => (p.1, ac.eval p.2) := by simp
      rw [hpm, show Value.cells (.agg v) = v from rfl, h1]
      rfl
    · exact h
  · rename_i n e esz z hT
    rw [hT] at hty
    obtain ⟨v, hz, hu, hs, hn, hzr⟩ := hty
    split at h
    · rename_i z' hp
      refine ⟨_, _, _, exec_pure fun g ac w hx => ?_, h⟩
      refine ⟨.agg v, ?_, ⟨v, rfl, hzr g⟩⟩
      have e1 : parts = #[] := by rw [← Array.toList_inj]; exact hp
      subst e1
      simp [execOp, ho, Instr.build, (run_zero' hz w).1, run_underlying' hu, run_sizeOf' hs, Instr.fill, Value.cells]
    · rename_i x n0 hp
      split at h
      · rename_i q hx0 hes
        have hes := Nat.eq_of_beq_eq_true hes; subst hes
        refine ⟨_, _, _, exec_pure fun g ac w hx => ?_, h⟩
        have hxm : x ∈ o.op.operands := by simp only [ho, Op.operands, List.mem_toArray, List.mem_map]; exact ⟨(0, x), by rw [hp]; simp, rfl⟩
        have q1 := hx x hxm
        rw [hx0] at q1
        obtain ⟨us, ws, e0, hnum, e2⟩ := hzr g
        have hws : ws = [] := e2
        subst hws
        rw [List.append_nil] at e0
        have hnum' := hnum
        obtain ⟨_, e3⟩ := hnum
        have hset : (Ch.num (setl 0 q.toNat n0)).rel g (us.set 0 (ac.eval x)) := by
          obtain ⟨c', hc', _, _, h5⟩ := upd_ok (c := .num n0) (i := 0) (v := .int .u64 q) (K := fun c => c = .num (setl 0 q.toNat n0)) (show obl (Nat.blt 0 4) _ from obl_of (by decide) rfl) rfl
          rw [← hc']; exact h5 g us _ hnum' q1
        have e1 : parts = #[(0, x)] := by rw [← Array.toList_inj]; exact hp
        subst e1
        refine ⟨.agg (v.setIfInBounds 0 (ac.eval x)), ?_, ⟨_, rfl, ⟨_, [], (List.append_nil _).symm, ?_, rfl⟩⟩⟩
        · have hsz : v.size = 4 := by rw [← Array.length_toList, e0, e3]; rfl
          have hne : ¬ v = #[] := fun h => by rw [h] at hsz; simp at hsz
          simp [execOp, ho, Instr.build, (run_zero' hz w).1, run_underlying' hu, run_sizeOf' hs, Instr.fill, Value.cells, q1.1, hne]
        · rw [Array.toList_setIfInBounds, e0]; exact hset
      · exact h
    · split at h
      · rename_i cs hcs
        refine ⟨_, _, _, exec_pure fun g ac w hx => ?_, h⟩
        have hxp : ∀ p ∈ parts.toList, (opv ts p.2).rel g (ac.eval p.2) := fun p hp => hx p.2 (by simp only [ho, Op.operands, List.mem_toArray, List.mem_map]; exact ⟨p, hp, rfl⟩)
        obtain ⟨vs', h1, h2⟩ := parts_ok parts.toList _ cs v hcs (hzr g) hxp
        refine ⟨.agg vs', ?_, ⟨vs', rfl, h2⟩⟩
        have hpm : (parts.map fun p => (p.1, ac.eval p.2)).toList = parts.toList.map fun p => (p.1, ac.eval p.2) := by simp
        simp only [execOp, ho, Instr.build, Sem.run_bind, (run_zero' hz w).1, Result.andThen_ok, run_underlying' hu, run_sizeOf' hs]
        rw [hpm, show Value.cells (.agg v) = v from rfl, h1]
        rfl
      · exact h
  · exact h

theorem zero_size {t : Nat} {ti : TI} {z : List Ch} (hT : TyOk P t ti) (h : zeroOf ti = some z) {v : Value} (hv : ∀ w, (zeroValue t).run P w = .ok v w) : v.cells.size = chsSize z := by
  obtain ⟨v', h1, h2⟩ := zeroOf_rel hT h
  have h3 := hv default
  rw [h1 default] at h3
  injection h3 with h3; subst h3
  rw [← Array.length_toList]; exact chsRel_size _ _ (h2 (fun _ => none))

theorem fill_size (place : Nat → Option (Nat × Nat)) : ∀ (parts : List (Nat × Value)) (cs cs' : Array Value), Instr.fill place cs parts = some cs' → cs'.size = cs.size
  | [], cs, cs', h => by simp only [Instr.fill, Option.some.injEq] at h; rw [h]
  | (i, v) :: r, cs, cs', h => by
    simp only [Instr.fill] at h
    split at h
    · cases h
    · split at h
      · cases h
      · rename_i po ps _ _
        have := fill_size place r _ cs' h
        rw [this, ← Array.foldl_toList, Array.toList_zipIdx]
        have h2 := foldl_setL v.cells.toList cs po 0
        rw [h2, setL_size]

theorem buildSl_ok (hC : CxOk P C) {t : TypeId} {len : Nat} {parts : Array (Nat × Operand)} (ho : o.op = .buildSlice t len parts) (h : buildSlK P S w0 C o ts mem K t len parts) : byHand P S w0 o ts mem K := by
  unfold buildSlK at h
  have hty := hC.ty t
  split at h
  · rename_i e esz hT
    rw [hT] at hty
    obtain ⟨_, hu, hs⟩ := hty
    split at h
    · rename_i z hz
      split at h
      · rename_i cs hcs
        obtain ⟨hb, h⟩ := obl_ok h
        simp only [Bool.and_eq_true, Nat.ble_eq, Nat.blt_eq, Bool.not_eq_true'] at hb
        obtain ⟨hb1, hb2, hsl, hz2⟩ := hb
        have hz2 := Nat.eq_of_beq_eq_true hz2
        obtain ⟨v, hv, hzr⟩ := zeroOf_rel (hC.ty e) hz
        refine ⟨_, _, _, exec_new (mk := esz - 1) hsl fun g ac w hx _ _ hfr => ?_, h⟩
        have hxp : ∀ p ∈ parts.toList, (opv ts p.2).rel (g.ext mem.length ⟨w.heap.size, len * esz, emk (esz - 1)⟩) (ac.eval p.2) := fun p hp => AV.rel_mono (GM.ext_le hfr) (hx p.2 (by simp only [ho, Op.operands, List.mem_toArray, List.mem_map]; exact ⟨p, hp, rfl⟩))
        have hzs : v.cells.size = esz := by rw [zero_size (hC.ty e) hz hv]; exact hz2
        have hrow := zero_row (z := v.cells) (by omega) len
        have hrow2 : ((Array.range (len * esz)).map ((if len * esz = 0 then #[] else v.cells)[· % (if len * esz = 0 then #[] else v.cells).size]!)).toList = (List.replicate len v.cells.toList).flatten := by
          split
          · rename_i h0
            have : len = 0 := by rcases Nat.mul_eq_zero.1 h0 with h | h <;> omega
            subst this; simp
          · rw [← hzs]; exact hrow
        have hz3 : chsRel (g.ext mem.length ⟨w.heap.size, len * esz, emk (esz - 1)⟩) (repCh len z) ((Array.range (len * esz)).map ((if len * esz = 0 then #[] else v.cells)[· % (if len * esz = 0 then #[] else v.cells).size]!)).toList := by
          rw [hrow2]; exact repCh_ok (hzr _) len
        obtain ⟨vs', h1, h2⟩ := parts_ok parts.toList (repCh len z) cs _ hcs hz3 hxp
        have hvs : vs'.size = len * esz := by
          have := fill_size _ _ _ _ h1
          rw [this]; simp
        refine ⟨.slice (some ⟨w.heap.size, 0, none⟩) len len, vs', e, (0, 0), 0, ?_, ?_, ?_, fun off _ => by simp⟩
        · have hpm : (parts.map fun p => (p.1, ac.eval p.2)).toList = parts.toList.map fun p => (p.1, ac.eval p.2) := by simp
          have hnb : ¬ (len * esz > 2 ^ 24) := by rw [show (2 : Nat) ^ 24 = 16777216 by decide]; omega
          by_cases h0 : len * esz = 0
          · simp only [if_pos h0] at h1
            simp only [execOp, ho, Instr.buildSlice, Sem.run_bind, run_underlying' hu, run_sizeOf' hs, Result.andThen_ok, if_neg hnb, if_pos h0, Sem.run_pure]
            rw [hpm, h1]
            rfl
          · simp only [if_neg h0] at h1
            simp only [execOp, ho, Instr.buildSlice, Sem.run_bind, run_underlying' hu, run_sizeOf' hs, Result.andThen_ok, if_neg hnb, if_neg h0, hv, Sem.run_pure]
            rw [hpm, h1]
            rfl
        · exact .inr ⟨Nat.le_refl _, len, Nat.le_refl _, by have := Nat.le_mul_of_pos_right len hb2; omega, _, GM.ext_same _ _ _, by
            show 0 + 0 + len * emk (esz - 1) ≤ vs'.size
            have hem : emk (esz - 1) = esz := by
              have h9 : Nat.ble EXTM (esz - 1) = false := hsl
              unfold emk; rw [h9]; show esz - 1 + 1 = esz; omega
            rw [hem, hvs]; omega, rfl⟩
        · exact ⟨vs'.toList, [], by simp, by rw [hvs]; exact h2⟩
      · exact h
    · exact h
  · exact h

theorem opK_ok (hC : CxOk P C) (h : opK P S w0 C o ts mem K) : byHand P S w0 o ts mem K := by
  unfold opK at h
  split at h
  · rename_i x ho; exact move_ok (.inl ho) h
  · rename_i x ho; exact move_ok (.inr ho) h
  · rename_i c a b ho
    split at h
    · rename_i t hc; exact pick_ok ho hc h
    · exact h
  · rename_i t ho
    split at h
    · rename_i z hz; exact ⟨_, _, _, exec_alloc ho (hC.ty t) hz, h⟩
    · exact h
  · rename_i t x ho
    split at h
    · rename_i cs hcs; exact ⟨_, _, _, exec_box ho hcs, h⟩
    · exact h
  · rename_i t parts ho; exact build_ok hC ho h
  · rename_i t len parts ho; exact buildSl_ok hC ho h
  · rename_i t x ho; exact load_ok hC ho h
  · rename_i t x y ho; exact store_ok hC ho h
  · rename_i x ho
    split at h
    · rename_i l off i hx0
      refine ⟨_, _, _, exec_pure fun g ac w hx => ?_, h⟩
      have q := hx x (by simp [ho, Op.operands])
      rw [hx0] at q
      obtain ⟨b, hb, hv⟩ := q
      exact ⟨_, by simp [execOp, ho, hv], ⟨b, hb, rfl⟩⟩
    · rename_i a hx0
      refine ⟨_, _, _, exec_pure fun g ac w hx => ?_, h⟩
      have q := hx x (by simp [ho, Op.operands])
      rw [hx0] at q
      have q : ac.eval x = .pointer (some a) := q
      exact ⟨_, by simp [execOp, ho, q], rfl⟩
    · rename_i f fs cs hx0
      refine ⟨_, _, _, exec_pure fun g ac w hx => ?_, h⟩
      have q := hx x (by simp [ho, Op.operands])
      rw [hx0] at q
      obtain ⟨h1, ws, h2, hv⟩ := q
      exact ⟨_, by simp [execOp, ho, hv], ⟨h1, ws, h2, rfl⟩⟩
    · exact h
  · rename_i op t x y t' ho; exact bin_ok hC ho h
  · rename_i op t x ho; exact un_ok ho h
  · rename_i t t' x ho; exact conv_ok hC ho h
  · rename_i fn first captured ho; exact mk_ok ho h
  · rename_i t x f ho; exact field_ok hC ho h
  · rename_i t x y ho; exact index_ok hC ho h
  · rename_i x i ho; exact extr_ok ho h
  · rename_i t x lo hi ho; exact slice_ok hC ho h
  · rename_i t x ho; exact arrayAt_ok hC ho h
  · rename_i t x y ho; exact indexV_ok hC ho h
  · rename_i c ho; exact call_ok hC ho h
  · exact h

end Go.Ev
