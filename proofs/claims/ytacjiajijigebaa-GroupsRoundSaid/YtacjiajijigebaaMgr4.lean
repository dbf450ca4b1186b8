/- Exponents go round: the row. No condition. -/
import Derived.Test.YtacjiajijigebaaMgr3
namespace Go.Ev
open Go
variable {P : Program} {S : Nat → Prop} {w0 : World}
/-- Nothing handed back reads as an empty slice, too. -/
theorem CallOk.padNil {f : FuncId} {args : List AB} {mem : List Blk} {k : Blk} (h : CallOk P S w0 f args mem [] (.b (.cv (.v (.slice none 0 0)))) noEff) : CallOk P S w0 f args mem [] (.b (.cv (.sl mem.length 0 0 0 0))) ⟨[k], []⟩ := by
  have key : ∀ {g g' : GM} {w w' : World}, (∀ i, i < 1 → g (mem.length + i) = none) → Post S w0 mem noEff g g' w w' → Post S w0 mem ⟨[k], []⟩ g g' w w' := by
    intro g g' w w' hfr hp
    have hnone : g' mem.length = none := by
      cases hg : g' mem.length with
      | none => rfl
      | some b =>
        have := hp.dom mem.length (by rw [hg]; simp) (hfr 0 (by decide))
        simp [noEff] at this
    refine ⟨hp.le, hp.gw, fun l hl hl' => ?_, hp.size, fun b hb hne => hp.keep b hb (fun l c b' hm => by simp [noEff] at hm), fun i k' hi b hb => ?_, fun l c hw => by simp [wrFind] at hw, fun l c hm => by simp at hm, fun i b hb hn => ?_, fun i j b b' h1 h2 h3 h4 hbb => ?_⟩
    · have := hp.dom l hl hl'
      simp [noEff] at this
      omega
    · cases i with
      | succ i => simp at hi
      | zero => rw [Nat.add_zero, hnone] at hb; cases hb
    · have := hp.dom _ (by rw [hb]; simp) hn
      simp [noEff] at this
      omega
    · have := hp.dom _ (by rw [h3]; simp) h1
      simp [noEff] at this
      omega
  intro g w vs hv hrd hgw hfr hij
  have hfr1 : ∀ i, i < 1 → g (mem.length + i) = none := fun i hi => hfr i (by simpa using hi)
  rcases h g w vs hv hrd hgw (fun i hi => by simp [noEff] at hi) hij with ⟨v, w', g', h1, h2, h3⟩ | ⟨h1, h2⟩
  · exact .inl ⟨v, w', g', h1, .inl ⟨rfl, rfl, none, h2⟩, key hfr1 h3⟩
  · exact .inr ⟨h1, h2.mono fun en w' ⟨v, g', e, hr, hp⟩ => ⟨v, g', e, .inl ⟨rfl, rfl, none, hr⟩, key hfr1 hp⟩⟩
/-- The room of a slice that is told outright. -/
theorem exec_cap_v {ts : List AV} {mem : List Blk} {o : Oper} {c : Call} {x : Operand} {t : TypeId} {ad : Option Addr} {n cp : Nat} (ho : o.op = .call c) (hc : c.callee = .builtin .cap) (hargs : c.args = #[x]) (htys : c.argTypes = #[t]) {e : TypeId} (ht : P.underlying t = some (.slice e)) (hx0 : opv ts x = .b (.cv (.v (.slice ad n cp)))) (h63 : cp ≤ 9223372036854775807) :
    Exec P S w0 o ts mem [] (.b (.cv (.int .i64 (Int.ofNat cp)))) noEff := by
  refine exec_pure fun g a w hx => ?_
  have hx1 : a.eval x = .slice ad n cp := by
    have := hx x (by simp [ho, Op.operands, Call.operands, hargs])
    rw [hx0] at this; exact this
  refine ⟨.int .i64 (Int.ofNat cp), ?_, rfl, ?_⟩
  · simp [execOp, ho, resolve, hc, hargs, htys, invoke, builtin, Builtin.cap_, hx1, run_underlying' ht, goInt]
  · show IntKind.min .i64 ≤ Int.ofNat cp ∧ Int.ofNat cp ≤ IntKind.max .i64
    rw [show IntKind.min .i64 = -9223372036854775808 from rfl, show IntKind.max .i64 = 9223372036854775807 from rfl]
    simp only [Int.ofNat_eq_natCast]
    omega
/-- Nothing, sliced. -/
theorem exec_slice_nil {ts : List AV} {mem : List Blk} {o : Oper} {x y : Operand} {t e : TypeId} {k : IntKind} (ho : o.op = .slice t x none (some y) none) (ht : P.underlying t = some (.slice e)) (hs : ∃ n, (P.info? e).map (·.size) = some n) (hx0 : opv ts x = .b (.cv (.v (.slice none 0 0)))) (hy0 : opv ts y = .b (.cv (.int k 0))) :
    Exec P S w0 o ts mem [] (.b (.cv (.v (.slice none 0 0)))) noEff := by
  obtain ⟨n, hs⟩ := hs
  refine exec_pure fun g a w hx => ?_
  have hx1 : a.eval x = .slice none 0 0 := by
    have := hx x (by simp [ho, Op.operands])
    rw [hx0] at this; exact this
  have hy1 : a.eval y = .int k 0 := by
    have := hx y (by simp [ho, Op.operands])
    rw [hy0] at this; exact this.1
  refine ⟨.slice none 0 0, ?_, rfl⟩
  simp [execOp, ho, Instr.sliceAt, Instr.slice, hx1, hy1, run_underlying' ht, run_sizeOf' hs, Instr.sliceBounds, Instr.sliceBound, asIntOf]
end Go.Ev
namespace Go.Proofs.Ytacjiajijigebaa
open Go Go.Ev
set_option linter.unusedSimpArgs false

theorem info22 : (Try.prog.info? 22).map (fun i => (i.zero, i.size, i.bytes)) = some (some (.int .u64 0), 1, 8) := by kernel_rfl
theorem un139 : Try.prog.underlying 139 = some (.slice 22) := by kernel_rfl
theorem un3 : Try.prog.underlying 3 = some (.int .i64) := by kernel_rfl
set_option maxRecDepth 20000 in
theorem grow_nil : PureOk Try.prog 189 [.cv (.v (.slice none 0 0)), aI 0] (.b (.cv (.v (.slice none 0 0)))) := by
  refine pure_of_ev (cxK []) Try.func189 rfl (by kernel_rfl) (Nat.le_of_ble_eq_true rfl) ⟨rfl, rfl, trivial⟩ rfl fun hf w => ?_
  conv => whnf
  refine ⟨_, _, _, exec_cap_v rfl rfl rfl rfl un139 rfl (by omega), ?_⟩
  conv => whnf
  exact ⟨rfl, trivial⟩
set_option maxRecDepth 20000 in
theorem grow_some (n : Nat) (h0 : 0 < n) (hn : n * 8 ≤ 140737488355328) (S : Nat → Prop) (w0 : World) (mem : List Blk) :
    CallOk Try.prog S w0 189 [.cv (.v (.slice none 0 0)), aI (Int.ofNat n)] mem [] (.b (.cv (.sl mem.length 0 0 0 n))) ⟨[([.vec n fun _ => .int .u64 0], 0)], []⟩ := by
  have key := callLoc (S := S) (w0 := w0) (cxK []) Try.func189 rfl (by kernel_rfl) (xs := [.cv (.v (.slice none 0 0)), aI (Int.ofNat n)]) (lm := []) (lw := [([.vec n fun _ => .int .u64 0], 0)]) (r := .b (.cv (.sl 0 0 0 0 n))) (ls := []) (mem := mem) (Nat.le_of_ble_eq_true rfl) rfl (Nat.zero_le _)
    (fun i j l h => by simp at h) (fun i l k h => by simp at h) (fun i k k' h => by simp at h) ⟨trivial, trivial, trivial⟩ (fun k h => by simp at h) (fun k h => by simp at h; subst h; exact ⟨fun i hi => rfl, trivial⟩)
    (fun k h => by simp at h; subst h; exact ⟨by simp, rfl⟩) ⟨Nat.le_refl _, Nat.zero_lt_one⟩ (fun S w g vs hv hfa => by
      conv => whnf
      refine ⟨_, _, _, exec_cap_v rfl rfl rfl rfl un139 rfl (by omega), ?_⟩
      conv => whnf
      have e0 : IntKind.i64.wrap (Int.ofNat n - IntKind.i64.wrap (Int.ofNat 0 - Int.ofNat 0)) = Int.ofNat n := by
        rw [show IntKind.i64.wrap (Int.ofNat 0 - Int.ofNat 0) = 0 from rfl, wrapI _ (by simp only [Int.ofNat_eq_natCast]; omega), Int.sub_zero]
      rw [e0]
      refine brkT (by rw [iltB_eq, decide_eq_true_eq]; simp only [Int.ofNat_eq_natCast]; omega) ?_
      conv => whnf
      refine ⟨_, _, _, exec_cap_v rfl rfl rfl rfl un139 rfl (by omega), ?_⟩
      conv => whnf
      refine ⟨_, _, _, exec_slice_nil rfl un139 ⟨1, by kernel_rfl⟩ rfl rfl, ?_⟩
      conv => whnf
      refine ⟨_, _, _, exec_append_make rfl rfl rfl rfl un139 un3 info22 rfl rfl (cv := .int .u64 0) (fun g => ⟨rfl, hasU.2 (by omega)⟩) rfl rfl h0 (by omega) (by omega), ?_⟩
      conv => whnf
      repeat' (refine And.intro ?_ ?_)
      all_goals try first | with_reducible rfl | exact trivial
      all_goals first | rfl | omega | exact leVec (v := fun _ => 0) (fun _ _ => rfl) (fun _ _ => rfl))
  exact key
/-- Room for n elements, and none of them. -/
theorem grow_ok (n : Nat) (hn : n * 8 ≤ 140737488355328) (S : Nat → Prop) (w0 : World) (mem : List Blk) :
    CallOk Try.prog S w0 189 [.cv (.v (.slice none 0 0)), aI (Int.ofNat n)] mem [] (.b (.cv (.sl mem.length 0 0 0 n))) ⟨[([.vec n fun _ => .int .u64 0], 0)], []⟩ := by
  rcases Nat.eq_zero_or_pos n with rfl | h0
  · exact CallOk.padNil (CallOk.of_pure grow_nil)
  · exact grow_some n h0 hn S w0 mem
/-- What slices of slices hold: each a slice and its cells. -/
abbrev Pt := Value × List Value
def ptLen (ps : List Pt) : Nat := (ps.map fun p => p.2.length).sum
def ptCells (ps : List Pt) : List Value := (ps.map fun p => p.2).flatten
theorem ptCells_len : ∀ (ps : List Pt), (ptCells ps).length = ptLen ps
  | [] => rfl
  | p :: ps => by
    have := ptCells_len ps
    simp only [ptCells, ptLen, List.map_cons, List.flatten_cons, List.length_append, List.sum_cons] at *
    omega
theorem ptLen_take {ps : List Pt} {i : Nat} {p : Pt} (h : ps[i]? = some p) : ptLen (ps.take (i + 1)) = ptLen (ps.take i) + p.2.length := by
  rw [List.take_add_one, h]; simp [ptLen]
theorem ptCells_take {ps : List Pt} {i : Nat} {p : Pt} (h : ps[i]? = some p) : ptCells (ps.take (i + 1)) = ptCells (ps.take i) ++ p.2 := by
  rw [List.take_add_one, h]; simp [ptCells]
theorem ptLen_le {ps : List Pt} (i : Nat) : ptLen (ps.take i) ≤ ptLen ps := by
  have : ptLen ps = ptLen (ps.take i) + ptLen (ps.drop i) := by
    unfold ptLen
    rw [← List.sum_append, ← List.map_append, List.take_append_drop]
  omega
theorem ptGet {w : World} {D : Nat → Prop} {ps : List Pt} {ad : Option Addr} {i : Nat} (hrow : RowAt w D ad (ps.map (·.1))) (hi : i < ps.length) : ∃ b o p, ad = some ⟨b, o, none⟩ ∧ ps[i]? = some p ∧ p ∈ ps ∧ b < w.heap.size ∧ D b ∧ w.cell? ⟨b, o + i, none⟩ = some p.1 := by
  rcases hrow with h | ⟨b, o, e, h1, h2, h3⟩
  · have := congrArg List.length h
    simp at this; subst this; simp at hi
  · exact ⟨b, o, ps[i], e, List.getElem?_eq_getElem hi, List.getElem_mem hi, h1, h2, h3 i _ (by rw [List.getElem?_map, List.getElem?_eq_getElem hi]; rfl)⟩
set_option maxRecDepth 20000 in
theorem concat_at (ps : List Pt) (v : Value) (hlen : ptLen ps * 8 ≤ 140737488355328) (hone : ∀ p ∈ ps, ∀ u ∈ p.2, u.oneCell' = true) {S : Nat → Prop} {w0 w : World} {mem : List Blk} {g : GM}
    (hv : SlAt w (fun _ => True) 1 v ps.length (ps.map (·.1))) (hp : ∀ p ∈ ps, SlAt w (fun _ => True) 1 p.1 p.2.length p.2) (hgw : GW g S w0 w) (hfr : g mem.length = none) :
    CallAt Try.prog S w0 153 [v] mem g w (.b (.cv (.sl mem.length 0 0 (ptLen ps) (ptLen ps)))) ⟨[([.vec (ptLen ps) fun j => .v ((ptCells ps).getD j undef)], 0)], []⟩ := by
  obtain ⟨ad, cap, rfl, hc1, hc2, hl, hrow⟩ := hv
  have key := callLocAt (S := S) (w0 := w0) (w := w) (g := g) (cxK []) Try.func153 rfl (by kernel_rfl) (xs := [.cv (.v (.slice ad ps.length cap))]) (vs := [.slice ad ps.length cap]) (lm := []) (lw := [([.vec (ptLen ps) fun j => .v ((ptCells ps).getD j undef)], 0)]) (r := .b (.cv (.sl 0 0 0 (ptLen ps) (ptLen ps)))) (ls := []) (mem := mem) (Nat.le_of_ble_eq_true rfl) rfl (Nat.zero_le _)
    (fun i j l h => by simp at h) (fun i l k h => by simp at h) (fun i k k' h => by simp at h) ⟨trivial, trivial⟩ (fun k h => by simp at h) (fun k h => by simp at h; subst h; exact ⟨fun i hi => rfl, trivial⟩)
    (fun k h => by simp at h; subst h; exact ⟨by simp, rfl⟩) ⟨Nat.le_refl _, Nat.zero_lt_one⟩ ⟨_, _, rfl, rfl, rfl⟩ (fun l h => by simp at h) hgw (fun i hi => by simp at hi; subst hi; exact hfr) (fun l h => by simp at h) (fun S' g' hS' hv hfa => by
      have hk : ps.length ≤ 9223372036854775807 := by omega
      have nS : ∀ b, ¬ S' b := fun b hb => by obtain ⟨_, l, _, _, h, _⟩ := hS' b hb; simp at h
      conv => whnf
      refine oblT (by rw [Nat.ble_eq]; exact hk) ?_
      conv => whnf
      refine LoopK.cut Nat (fun i => [(3, tI (Int.ofNat (ptLen (ps.take i)))), (11, tI (Int.ofNat i))]) (fun _ => []) (fun i => i ≤ ps.length) (fun i => ps.length - i) 0 (Nat.zero_le _) ?_
        Unit (fun _ => [(3, tI (Int.ofNat (ptLen ps))), (11, tI (Int.ofNat ps.length))]) (fun _ => []) (fun _ => True) 0 ?_ ?_
      · repeat' (refine And.intro ?_ ?_)
        all_goals try first | with_reducible rfl | exact trivial
        all_goals rfl
      · intro i hi
        replace hi : i ≤ ps.length := hi
        conv => whnf
        refine brk (fun h3 => ?_) (fun h3 => ?_)
        · replace h3 : iltB (Int.ofNat i) (Int.ofNat ps.length) = true := h3
          rw [iltB_eq, decide_eq_true_eq] at h3
          have h3 : i < ps.length := Int.ofNat_lt.1 h3
          obtain ⟨b, o, p, rfl, hpi, hpm, hb, _, hcell⟩ := ptGet hrow h3
          obtain ⟨ad', cap', hpv, hc1', hc2', hl', _⟩ := hp p hpm
          refine ⟨_, _, _, exec_index_out rfl ty191 rfl rfl h3, ?_⟩
          conv => whnf
          refine ⟨_, _, _, exec_load_out (cv := .v p.1) rfl ty139 rfl rfl hb (nS b) (by rw [Nat.mul_one]; exact hcell) (fun g => rfl), ?_⟩
          rw [hpv]
          conv => whnf
          refine oblT (by rw [Nat.ble_eq]; omega) ?_
          conv => whnf
          have e1 : IntKind.i64.wrap (Int.ofNat (ptLen (ps.take i)) + Int.ofNat p.2.length) = Int.ofNat (ptLen (ps.take (i + 1))) := by
            have := ptLen_le (ps := ps) (i + 1)
            rw [ptLen_take hpi] at *
            rw [wrapI _ (by simp only [Int.ofNat_eq_natCast]; omega)]; rfl
          rw [e1]
          conv => whnf
          refine ⟨i + 1, h3, ?_, ?_⟩
          · repeat' (refine And.intro ?_ ?_)
            all_goals try first | with_reducible rfl | exact trivial
            show IntKind.wrap .i64 (Int.ofNat i + 1) = Int.ofNat (i + 1)
            rw [wrapI _ (by simp only [Int.ofNat_eq_natCast]; omega)]; rfl
          · show ps.length - (i + 1) < ps.length - i
            omega
        · replace h3 : iltB (Int.ofNat i) (Int.ofNat ps.length) = false := h3
          rw [iltB_eq, decide_eq_false_iff_not] at h3
          have h3 : i = ps.length := by
            have : ¬ i < ps.length := fun h => h3 (Int.ofNat_lt.2 h)
            omega
          subst h3
          refine ⟨(), trivial, ?_⟩
          repeat' (refine And.intro ?_ ?_)
          all_goals try first | with_reducible rfl | exact trivial
          show Int.ofNat (ptLen (ps.take ps.length)) = Int.ofNat (ptLen ps)
          rw [List.take_length]
      · intro _ _
        conv => whnf
        refine ⟨[], _, _, grow_ok (ptLen ps) hlen _ _ _, ?_⟩
        conv => whnf
        refine oblT (by rw [Nat.ble_eq]; exact hk) ?_
        conv => whnf
        refine LoopK.gen (Nat × Nat × Nat × (Nat → CV)) (fun x => [(6, .b (.cv (.sl 0 0 0 (ptLen (ps.take x.1)) x.2.1))), (24, .top), (27, tI (Int.ofNat x.1))]) (fun x => [([.vec x.2.2.1 x.2.2.2], 0)])
          (fun x => x.1 ≤ ps.length ∧ ptLen (ps.take x.1) ≤ x.2.1 ∧ ptLen (ps.take x.1) ≤ x.2.2.1 ∧ (x.2.2.1 = ptLen ps ∨ x.2.2.1 = ptLen (ps.take x.1)) ∧ ∀ j, j < ptLen (ps.take x.1) → x.2.2.2 j = .v ((ptCells (ps.take x.1)).getD j undef)) (fun x => ps.length - x.1)
          (0, ptLen ps, ptLen ps, fun _ => .int .u64 0) ?_ id ?_
          Unit (fun _ => [(6, .b (.cv (.sl 0 0 0 (ptLen ps) (ptLen ps)))), (24, .top), (27, .top)]) (fun _ => [([.vec (ptLen ps) fun j => .v ((ptCells ps).getD j undef)], 0)]) (fun _ => True) 2 ?_ ?_
        · refine ⟨Nat.zero_le _, Nat.zero_le _, Nat.zero_le _, .inl rfl, fun j hj => ?_⟩
          simp [ptLen] at hj
        · conv => whnf
          repeat' (refine And.intro ?_ ?_)
          all_goals try first | with_reducible rfl | exact trivial
          · show 0 = ptLen (List.take 0 ps); rfl
          · show ptLen (List.take 0 ps) ≤ ptLen ps; exact Nat.zero_le _
          · exact Nat.le_refl _
          · rfl
          · exact fun j hj => ⟨rfl, trivial⟩
        · rintro ⟨i, c, N, f⟩ ⟨hi, hc, hN, hN2, hf⟩
          replace hi : i ≤ ps.length := hi
          replace hc : ptLen (ps.take i) ≤ c := hc
          replace hN : ptLen (ps.take i) ≤ N := hN
          replace hN2 : N = ptLen ps ∨ N = ptLen (ps.take i) := hN2
          replace hf : ∀ j, j < ptLen (ps.take i) → f j = .v ((ptCells (ps.take i)).getD j undef) := hf
          conv => whnf
          refine brk (fun h3 => ?_) (fun h3 => ?_)
          · replace h3 : iltB (Int.ofNat i) (Int.ofNat ps.length) = true := h3
            rw [iltB_eq, decide_eq_true_eq] at h3
            have h3 : i < ps.length := Int.ofNat_lt.1 h3
            obtain ⟨b, o, p, rfl, hpi, hpm, hb, _, hcell⟩ := ptGet hrow h3
            refine ⟨_, _, _, exec_index_out rfl ty191 rfl rfl h3, ?_⟩
            conv => whnf
            refine ⟨_, _, _, exec_load_out (cv := .v p.1) rfl ty139 rfl rfl hb (nS b) (by rw [Nat.mul_one]; exact hcell) (fun g => rfl), ?_⟩
            conv => whnf
            have hle := ptLen_le (ps := ps) (i + 1)
            have htk := ptLen_take hpi
            refine ⟨_, _, [0], exec_append (x := .tmp 31) (y := .tmp 32) (d := .slice 22) (mk := 0) (l := 0) (m := p.2.length) (h := fun j => .v (p.2.getD j undef)) rfl rfl rfl rfl un139 un139 (fun k h => by cases h) info22 rfl rfl rfl rfl rfl (by simp) (by rw [Nat.mul_one]; exact hN) (by show (ptLen (ps.take i) + p.2.length) * 8 ≤ _; omega) (by show ptLen (ps.take i) + p.2.length ≤ _; omega) (by decide) (fun g a w' hx _ hg => ?_), ?_⟩
            · have hy : a.eval (.tmp 32) = p.1 := hx (.tmp 32) (by simp [Op.operands, Call.operands])
              have hs := (hp p hpm).mono (D' := fun _ => True) hg.fr.size fun b hb _ => ⟨hg.fr.block b hb (nS b), trivial⟩
              exact ⟨p.2, by rw [hy]; exact src_out hs fun j u hj => ⟨hone p hpm u (List.mem_of_getElem? hj), by show u = p.2.getD j undef; rw [List.getD_eq_getElem?_getD, hj]; rfl⟩⟩
            conv => whnf
            have hcat : ∀ j, j < ptLen (ps.take (i + 1)) → catF (ptLen (ps.take i) * 1) f (fun j => .v (p.2.getD j undef)) j = CV.v ((ptCells (ps.take (i + 1))).getD j undef) := fun j hj => by
              rw [ptCells_take hpi, List.getD_eq_getElem?_getD, List.getElem?_append, ptCells_len]
              unfold catF
              rw [Nat.mul_one]
              split
              · rename_i hb
                rw [Nat.blt_eq] at hb
                rw [if_pos hb, hf j hb, List.getD_eq_getElem?_getD]
              · rename_i hb
                have hb : ¬ j < ptLen (ps.take i) := fun h => by rw [← Nat.blt_eq] at h; rw [h] at hb; cases hb
                rw [if_neg hb]
                show CV.v (p.2.getD (j - ptLen (ps.take i)) undef) = _
                rw [List.getD_eq_getElem?_getD]
            refine ⟨(i + 1, ptLen (ps.take i) + p.2.length, (ptLen (ps.take i) + p.2.length) * 1, catF (ptLen (ps.take i) * 1) f (fun j => .v (p.2.getD j undef))), ⟨h3, by show ptLen (ps.take (i + 1)) ≤ ptLen (ps.take i) + p.2.length; omega, by show ptLen (ps.take (i + 1)) ≤ (ptLen (ps.take i) + p.2.length) * 1; omega, .inr (by show (ptLen (ps.take i) + p.2.length) * 1 = ptLen (ps.take (i + 1)); omega), fun j hj => ?_⟩, ⟨fun _ => 1, ?_⟩, ?_⟩
            · exact hcat j hj
            · conv => whnf
              repeat' (refine And.intro ?_ ?_)
              all_goals try first | with_reducible rfl | exact trivial
              · exact htk.symm
              · show ptLen (ps.take (i + 1)) ≤ ptLen (ps.take i) + p.2.length; omega
              · exact Nat.le_refl _
              · show IntKind.wrap .i64 (Int.ofNat i + 1) = Int.ofNat (i + 1)
                rw [wrapI _ (by simp only [Int.ofNat_eq_natCast]; omega)]; rfl
              · intro j hj
                replace hj : j < (ptLen (ps.take i) + p.2.length) * 1 := hj
                show leCVR _ _ (catF (ptLen (ps.take i) * 1) f (fun j => .v (p.2.getD j undef)) j) (catF (ptLen (ps.take i) * 1) f (fun j => .v (p.2.getD j undef)) j) True
                rw [hcat j (by omega)]
                exact ⟨rfl, trivial⟩
            · show ps.length - (i + 1) < ps.length - i
              omega
          · replace h3 : iltB (Int.ofNat i) (Int.ofNat ps.length) = false := h3
            rw [iltB_eq, decide_eq_false_iff_not] at h3
            have h3 : i = ps.length := by
              have : ¬ i < ps.length := fun h => h3 (Int.ofNat_lt.2 h)
              omega
            subst h3
            rw [List.take_length] at *
            obtain rfl : N = ptLen ps := by omega
            refine ⟨(), trivial, ⟨id, ?_⟩⟩
            conv => whnf
            repeat' (refine And.intro ?_ ?_)
            all_goals try first | with_reducible rfl | exact trivial
            · exact Nat.le_refl _
            · exact hc
            · intro j hj
              show leCVR _ _ (f j) _ True
              rw [hf j hj]
              exact ⟨rfl, trivial⟩
        · intro _ _
          conv => whnf
          repeat' (refine And.intro ?_ ?_)
          all_goals try first | with_reducible rfl | exact trivial
          · exact Nat.le_refl _
          · exact Nat.le_refl _
          · exact fun j hj => ⟨rfl, trivial⟩)
  exact key
end Go.Proofs.Ytacjiajijigebaa
namespace Go.Ev
open Go
theorem CallAt.calls {S : Nat → Prop} {w0 w : World} {P : Program} {f : FuncId} {fn : Func} {c : Code} {vs : List Value} {mem : List Blk} {g : GM} {r : AV} {e : Eff} (h : CallAt P S w0 f vs mem g w r e) (hf : P.funcs[f]? = some fn) (hb : fn.body = some c) (hn : (fn.name == "runtime.NumGoroutine") = false) :
    Calls P f vs.toArray w fun en w' => ∃ v g', en = .returned v ∧ r.rel g' v ∧ Post S w0 mem e g g' w w' := by
  rcases h with ⟨v, w', g', h1, _⟩ | ⟨_, h2⟩
  · rw [callFunc_enter hf hb hn] at h1; cases h1
  · exact h2
end Go.Ev
namespace Go.Proofs.Ytacjiajijigebaa
open Go Go.Ev Go.RowKit Go.Shelf
attribute [local go_sem] Oper.semAt_some

theorem short_calls (a : Nat) (ha : a < BW) (w : World) : Calls Try.prog 129 #[lv a] w fun e w' => e = .returned (.bool (decide (a < B64))) ∧ Below w.heap.size w w' := by
  refine ((divides_short a).calls (g := noG) (vs := [lv a]) Try.func129 rfl (by kernel_rfl) ⟨_, _, rfl, lv_rel ha, rfl⟩ w).mono ?_
  rintro e w' ⟨v, rfl, hr, hb⟩
  exact ⟨by rw [show v = .bool _ from hr], hb⟩
theorem eq0_run (m : Nat) (hm0 : 0 < m) (hm : m < BW) (w : World) : (Op.equalIn 10000 26 (lv m) (.agg z4)).run Try.prog w = .ok false w := by
  have h := eq26 9998 (limb 0 m) (limb 1 m) (limb 2 m) (limb 3 m) 0 0 0 0 w
  refine h.trans ?_
  have e := limbs_inj (x := m) (y := 0) hm (by decide)
  have e2 : Nat.beq m 0 = false := by
    cases hb : Nat.beq m 0 with
    | false => rfl
    | true => have := Nat.eq_of_beq_eq_true hb; omega
  rw [e2] at e
  have z : ∀ i, limb i 0 = 0 := fun i => by simp [limb]
  rw [z, z, z, z] at e
  exact congrArg (Result.ok · w) e

theorem lvA_small {r : Nat} (h : r < B64) : lvA r = #[.int .u64 (r : Int), .int .u64 0, .int .u64 0, .int .u64 0] := by
  have e0 : limb 0 r = r := by unfold limb; rw [Nat.pow_zero, Nat.div_one, Nat.mod_eq_of_lt h]
  have e : ∀ i, limb (i + 1) r = 0 := fun i => by
    unfold limb
    rw [Nat.div_eq_of_lt, Nat.zero_mod]
    exact Nat.lt_of_lt_of_le h (by rw [Nat.pow_succ]; exact Nat.le_mul_of_pos_left _ (Nat.pow_pos (by decide)))
  show #[Value.int .u64 (limb 0 r), .int .u64 (limb 1 r), .int .u64 (limb 2 r), .int .u64 (limb 3 r)] = _
  rw [e0, e 0, e 1, e 2]; rfl
theorem div64_calls (hi lo y : Nat) (h1 : hi < y) (hl : lo < B64) (hy : y < B64) (w : World) : Calls Try.prog 130 #[.int .u64 (hi : Int), .int .u64 (lo : Int), .int .u64 (y : Int)] w fun e w' => e = .returned (.tuple #[.int .u64 (((hi * B64 + lo) / y : Nat) : Int), .int .u64 (((hi * B64 + lo) % y : Nat) : Int)]) ∧ Below w.heap.size w w' := by
  refine ((bits_Div64 (hi : Int) lo y (by omega)).calls (g := noG) (vs := [.int .u64 (hi : Int), .int .u64 (lo : Int), .int .u64 (y : Int)]) Try.func130 rfl (by kernel_rfl) ⟨_, _, rfl, ⟨rfl, hasU.2 (by unfold B64 at *; omega)⟩, _, _, rfl, ⟨rfl, hasU.2 (by unfold B64 at *; omega)⟩, _, _, rfl, ⟨rfl, hasU.2 (by unfold B64 at *; omega)⟩, rfl⟩ w).mono ?_
  rintro e w' ⟨v, rfl, hr, hb⟩
  obtain ⟨a, rfl, y1, ys1, e1, r1, y2, ys2, rfl, r2, rfl⟩ := hr
  obtain ⟨l⟩ := a
  simp only at e1
  subst e1
  refine ⟨?_, hb⟩
  rw [r1.1, r2.1]
  have ea : ((hi : Int) * 18446744073709551616 + lo) / y = (((hi * B64 + lo) / y : Nat) : Int) := by
    rw [Int.natCast_ediv, Int.natCast_add, Int.natCast_mul]; rfl
  have eb : ((hi : Int) * 18446744073709551616 + lo) % y = (((hi * B64 + lo) % y : Nat) : Int) := by
    rw [Int.natCast_emod, Int.natCast_add, Int.natCast_mul]; rfl
  rw [ea, eb]
theorem four_allocs {w w' : World} {A B C D : Obj} (hb : Below ((((w.alloc A).alloc B).alloc C).alloc D).heap.size ((((w.alloc A).alloc B).alloc C).alloc D) w') :
    w'.heap[w.heap.size]? = some A ∧ w'.heap[w.heap.size + 1]? = some B ∧ w'.heap[w.heap.size + 1 + 1]? = some C ∧ w'.heap[w.heap.size + 1 + 1 + 1]? = some D ∧ w.heap.size + 4 ≤ w'.heap.size ∧ Below w.heap.size w w' := by
  obtain ⟨h1, h2, h3, h4⟩ := one_alloc hb
  obtain ⟨h5, h6, h7, h8, h9⟩ := three_allocs h4
  simp only [World.size_alloc] at *
  exact ⟨h5, h6, h7, h2, by omega, h9⟩
/-- The words of two numbers, one behind the other. -/
def ws2 (low high : Nat) : List U64 := [⟨limb 0 low, limb_lt _ _⟩, ⟨limb 1 low, limb_lt _ _⟩, ⟨limb 2 low, limb_lt _ _⟩, ⟨limb 3 low, limb_lt _ _⟩, ⟨limb 0 high, limb_lt _ _⟩, ⟨limb 1 high, limb_lt _ _⟩, ⟨limb 2 high, limb_lt _ _⟩, ⟨limb 3 high, limb_lt _ _⟩]
/-- What is left when these words have come. -/
def remB (B m : Nat) (pre : List IW) : Nat := pre.foldl (fun r x => (r * B + x.2.1) % m) 0
theorem remB_snoc (B m : Nat) (pre : List IW) (x : IW) : remB B m (pre ++ [x]) = (remB B m pre * B + x.2.1) % m := by simp [remB]
theorem remB_lt {B m : Nat} (hm : 0 < m) (pre : List IW) : remB B m pre < m := by
  rcases List.eq_nil_or_concat pre with rfl | ⟨ys, x, rfl⟩
  · exact hm
  · rw [List.concat_eq_append, remB_snoc]; exact Nat.mod_lt _ hm
theorem horner_mod (B m : Nat) : ∀ (l : List IW) (a : Nat), l.foldl (fun r x => (r * B + x.2.1) % m) (a % m) = l.foldl (fun r x => r * B + x.2.1) a % m
  | [], a => rfl
  | x :: l, a => by
    rw [List.foldl_cons, List.foldl_cons, ← horner_mod B m l]
    congr 1
    rw [Nat.add_mod, Nat.mul_mod, Nat.mod_mod, ← Nat.mul_mod, ← Nat.add_mod]
theorem horner8 (B l0 l1 l2 l3 h0 h1 h2 h3 : Nat) : (((((((0 * B + h3) * B + h2) * B + h1) * B + h0) * B + l3) * B + l2) * B + l1) * B + l0 = (l0 + B * l1 + B ^ 2 * l2 + B ^ 3 * l3) + B ^ 4 * (h0 + B * h1 + B ^ 2 * h2 + B ^ 3 * h3) := by grind
theorem remB_all (B m : Nat) (low high : Nat) : remB B m (backs (ws2 low high)) = ((limb 0 low + B * limb 1 low + B ^ 2 * limb 2 low + B ^ 3 * limb 3 low) + B ^ 4 * (limb 0 high + B * limb 1 high + B ^ 2 * limb 2 high + B ^ 3 * limb 3 high)) % m := by
  have h := horner_mod B m (backs (ws2 low high)) 0
  rw [Nat.zero_mod] at h
  unfold remB
  rw [h, ← horner8]
  rfl
abbrev remW (m : Nat) (pre : List IW) : Nat := remB B64 m pre
theorem remW_all {low high m : Nat} (hl : low < BW) (hh : high < BW) : remW m (backs (ws2 low high)) = (low + BW * high) % m := by
  have e1 := num4_limb hl
  have e2 := num4_limb hh
  unfold num4 at e1 e2
  show remB B64 m (backs (ws2 low high)) = _
  rw [remB_all B64 m low high, e1, e2, show B64 ^ 4 = BW from rfl]
theorem concat_two (low high B b1 b2 : Nat) (t : TypeId) (w : World) (h1 : Box w b1 26 (lvA low)) (h2 : Box w b2 26 (lvA high)) (hB : Box w B t #[.slice (some ⟨b1, 0, none⟩) 4 4, .slice (some ⟨b2, 0, none⟩) 4 4]) :
    Calls Try.prog 153 #[.slice (some ⟨B, 0, none⟩) 2 2] w fun e w' => ∃ b o cap, e = .returned (.slice (some ⟨b, o, none⟩) (ws2 low high).length cap) ∧ (w.heap.size ≤ b ∧ b < w'.heap.size) ∧ (∀ i, i < (ws2 low high).length → w'.cell? ⟨b, o + i, none⟩ = some (.int .u64 ((wAt (ws2 low high) i).1 : Int))) ∧ Below w.heap.size w w' := by
  have hsl : ∀ (b n : Nat), Box w b 26 (lvA n) → SlAt w (fun _ => True) 1 (.slice (some ⟨b, 0, none⟩) 4 4) 4 (lvA n).toList := fun b n hb => by
    refine ⟨_, _, rfl, Nat.le_refl _, by decide, rfl, .inr ⟨b, 0, rfl, hb.lt, trivial, fun j u hj => ?_⟩⟩
    rw [Nat.zero_add]
    exact (hb.cellA (i := j) (by rw [← Array.getElem?_toList]; exact hj)).1
  have key := concat_at [(.slice (some ⟨b1, 0, none⟩) 4 4, (lvA low).toList), (.slice (some ⟨b2, 0, none⟩) 4 4, (lvA high).toList)] (.slice (some ⟨B, 0, none⟩) 2 2) (Nat.le_of_ble_eq_true rfl)
    (fun p hp u hu => by
      simp only [List.mem_cons, List.not_mem_nil, or_false] at hp
      rcases hp with rfl | rfl
      all_goals
        simp only [List.mem_cons, List.not_mem_nil, or_false] at hu
        rcases hu with rfl | rfl | rfl | rfl <;> rfl) (S := noS) (w0 := w) (w := w) (mem := []) (g := noG)
    ⟨_, _, rfl, Nat.le_refl _, by decide, rfl, .inr ⟨B, 0, rfl, hB.lt, trivial, fun j u hj => by
      rw [Nat.zero_add]
      exact (hB.cellA (i := j) (by rw [← Array.getElem?_toList]; exact hj)).1⟩⟩
    (fun p hp => by
      simp only [List.mem_cons, List.not_mem_nil, or_false] at hp
      rcases hp with rfl | rfl
      · exact hsl b1 low h1
      · exact hsl b2 high h2) ⟨(fun l b h => by cases h), Fr.refl _ _⟩ rfl
  refine (key.calls Try.func153 rfl (by kernel_rfl)).mono ?_
  rintro e w' ⟨v, g', rfl, hr, hp⟩
  rcases hr with ⟨h0, _⟩ | ⟨_, cap, _, _, b, hgb, _, rfl⟩
  · cases h0
  have hbr := hp.new 0 _ rfl b hgb
  obtain ⟨cs, ty, fz, us, rest, p1, _, p3, p4, _⟩ := hbr.2.resolve_left (by simp)
  obtain ⟨us', ws', rfl, ⟨q1, q2⟩, q3⟩ := p4
  have hnb : w.heap.size ≤ b.b := by
    rcases hp.nw 0 b hgb rfl with h | ⟨l, b', h, _⟩
    · exact h
    · simp [wrFind] at h
  refine ⟨b.b, 0, cap, rfl, ⟨hnb, hp.gw.own _ b hgb⟩, fun i hi => ?_, hp.gw.fr.below⟩
  have hi : i < 8 := hi
  have hlt : i < us'.length := by rw [q1]; exact hi
  have e1 := (q2 i _ (List.getElem?_eq_getElem hlt)).2
  have e1 : us'[i] = (ptCells [(.slice (some ⟨b1, 0, none⟩) 4 4, (lvA low).toList), (.slice (some ⟨b2, 0, none⟩) 4 4, (lvA high).toList)]).getD i undef := e1
  rw [cell_blk p1, ← Array.getElem?_toList, p3, List.append_assoc, Nat.zero_add, List.getElem?_append_left hlt, List.getElem?_eq_getElem hlt, e1]
  have : ∀ i, i < 8 → (ptCells [(.slice (some ⟨b1, 0, none⟩) 4 4, (lvA low).toList), (.slice (some ⟨b2, 0, none⟩) 4 4, (lvA high).toList)]).getD i undef = .int .u64 ((wAt (ws2 low high) i).1 : Int) := by
    intro i hi
    match i, hi with
    | 0, _ => rfl
    | 1, _ => rfl
    | 2, _ => rfl
    | 3, _ => rfl
    | 4, _ => rfl
    | 5, _ => rfl
    | 6, _ => rfl
    | 7, _ => rfl
  rw [this i hi]
set_option maxHeartbeats 1000000 in
theorem back_in (n : Nat) (ad : Option Addr) (k c : Nat) (w : World) : CallsIn (FW none) n Try.prog 154 #[.slice ad k c] w fun e w' => e = .returned (.func (.func 190) #[] #[.pointer (some ⟨w.heap.size, 0, none⟩)]) ∧ w' = w.alloc (.cells #[.slice ad k c] 139) := by
  refine callsIn_of_wp Try.func154 rfl trivial ?_ rfl
  simp only [Try.ntmps154, List.size_toArray, List.length_cons, List.length_nil, Nat.reduceAdd, Nat.reduceSub, Array.replicate_succ, Array.replicate_zero, List.push_toArray, List.append_toArray, List.nil_append, List.cons_append]
  gi_wp2
  go_ret
  exact ⟨rfl, rfl⟩
set_option maxRecDepth 100000 in
set_option maxHeartbeats 4000000 in
theorem wide_short_in (n : Nat) (hn : 3 ≤ n) (low high m : Nat) (hl : low < BW) (hh : high < BW) (hm0 : 0 < m) (hm : m < 18446744073709551616) (w : World) :
    CallsIn (FW none) n Try.prog 86 #[lv low, lv high, lv m] w fun e w' => e = .returned (.tuple #[lv ((low + BW * high) % m), .int .i64 0]) ∧ Below w.heap.size w w' := by
  have h1 : 1 ≤ n := by omega
  have hro : (FW none).round = none := rfl
  refine callsIn_of_wp_marks Try.func86 rfl trivial ?_ hro
  simp only [Try.ntmps86, List.size_toArray, List.length_cons, List.length_nil, Nat.reduceAdd, Nat.reduceSub, Array.replicate_succ, Array.replicate_zero, List.push_toArray, List.append_toArray, List.nil_append, List.cons_append]
  have hmB : m < BW := Nat.lt_trans hm (by decide)
  have heq := eq0_run m hm0 hmB
  gi_wp2
  refine ⟨trivial, ?_⟩
  gi_at_call 129
  refine (callsIn_FW (short_calls m hmB _)).mono ?_
  rintro e w1 ⟨rfl, hb⟩
  rw [show decide (m < B64) = true from decide_eq_true hm]
  obtain ⟨e0, e1, e2, e3, hs1, hB1⟩ := four_allocs hb
  clear hb
  gi_wp2
  refine wpIn_region_still_tailF (r := none) rfl 2 (by kernel_rfl) (noDefer_of (by kernel_rfl)) (by kernel_rfl) ?_
  simp only [List.take_succ_cons, List.take_zero, List.drop_succ_cons, List.drop_zero]
  repeat still_step
  refine wpStill_nil ?_
  gi_wp2
  have b1 : Box w1 w.heap.size 26 (lvA low) := e0
  have b2 : Box w1 (w.heap.size + 1) 26 (lvA high) := e1
  have b3 : Box w1 (w.heap.size + 1 + 1) 26 (lvA m) := e2
  have b4 : Box w1 (w.heap.size + 1 + 1 + 1) 26 (lvA 0) := e3
  clear e0 e1 e2 e3
  refine ⟨trivial, ?_⟩
  gi_at_call 153
  refine (callsIn_FW (concat_two low high w1.heap.size w.heap.size (w.heap.size + 1) 139 (World.drew (w1.alloc (.cells #[.slice (some ⟨w.heap.size, 0, none⟩) 4 4, .slice (some ⟨w.heap.size + 1, 0, none⟩) 4 4] 139))) (Box.alloc b1 _) (Box.alloc b2 _) (heap_new w1 _))).mono ?_
  rintro e w2 ⟨b, o, cap, rfl, ⟨hbl0, hbl⟩, hcs, hb⟩
  have hbl0 : w1.heap.size + 1 ≤ b := by simpa using hbl0
  gi_wp2
  refine ⟨trivial, ?_⟩
  gi_at_call 154
  refine (back_in (n - 1) _ _ _ w2).mono ?_
  rintro e w3 ⟨rfl, rfl⟩
  gi_wp2
  have hsw : w1.heap.size < w2.heap.size := by have := hb.size; simp at this; omega
  have hbox : ∀ (B : Nat) (t : TypeId) (cs : Array Value), Box w1 B t cs → Box w2 B t cs := fun B t cs h => (hb.block B (by have := h.lt; simp; omega)).trans (Box.alloc h _)
  have c1 : Box w2 (w.heap.size + 1 + 1) 26 (lvA m) := hbox _ _ _ b3
  have c2 : Box w2 (w.heap.size + 1 + 1 + 1) 26 (lvA 0) := hbox _ _ _ b4
  have kB2 : Below w.heap.size w w2 := hB1.trans ((((Below.refl _ w1).alloc (by omega) _).drew).trans (hb.mono (by simp; omega)))
  obtain ⟨W0, hW0⟩ : ∃ W0, (w2.alloc (.cells #[.slice (some ⟨b, o, none⟩) (ws2 low high).length cap] 139)) = W0 := ⟨_, rfl⟩
  have hsz : W0.heap.size = w2.heap.size + 1 := by rw [← hW0]; simp
  replace c1 : Box W0 (w.heap.size + 1 + 1) 26 (lvA m) := by rw [← hW0]; exact c1.alloc _
  replace c2 : Box W0 (w.heap.size + 1 + 1 + 1) 26 (lvA 0) := by rw [← hW0]; exact c2.alloc _
  have c3 : Box W0 w2.heap.size 139 #[.slice (some ⟨b, o, none⟩) (ws2 low high).length cap] := by rw [← hW0]; exact heap_new w2 _
  replace hcs : ∀ i, i < (ws2 low high).length → W0.cell? ⟨b, o + i, none⟩ = some (.int .u64 ((wAt (ws2 low high) i).1 : Int)) := fun i hi => by rw [← hW0]; exact cell_al _ (hcs i hi)
  replace kB : Below w.heap.size w W0 := by rw [← hW0]; exact kB2.alloc kB2.size _
  rw [hW0]
  clear hW0
  have hlm : lvA m = #[.int .u64 (m : Int), .int .u64 0, .int .u64 0, .int .u64 0] := lvA_small hm
  refine wpIn_rangeFunc_ownH (show (FW none).round = none from rfl) h1 (gf := 190) (lb := #[.pointer (some ⟨w2.heap.size, 0, none⟩)]) rfl trivial (enters_of Try.func190 (by kernel_rfl) rfl)
    (back_stops (n - 1) (by omega) w2.heap.size w.heap.size b o cap (ws2 low high) (show 8 ≤ 1000000 by decide) W0 (by omega) (by omega) (cells_cell c3 0) hcs)
    KP.trans (fun W l o' o'' hl ho hc hw => ⟨belowK_b kB.size W l o' o'' hl ho hc hw, ?kba, ?kbb⟩) (Below.refl _ _) (fun _ => rfl)
    (fun pre W => (Box W (w.heap.size + 1 + 1) 26 (lvA m) ∧ Box W (w.heap.size + 1 + 1 + 1) 26 (lvA (remW m pre))) ∧ (Below w.heap.size w W ∧ W0.heap.size ≤ W.heap.size))
    (fun _ _ _ => False)
    (OwnFrom.and (OwnFrom.and (Own.from (Box.own _ _ _) _) (Own.from (Box.own _ _ _) _)) (OwnFrom.and (ownFrom_below (Nat.le_refl _) kB.size) (fun _ _ _ _ hs hg _ => Nat.le_trans hs hg.size)))
    (fun c => ownFrom_pure _ _)
    ⟨⟨c1, c2⟩, kB, Nat.le_refl _⟩
    (fun x a' _ => a' = { tmps := #[lv low, lv high, lv m, .pointer (some ⟨w.heap.size, 0, none⟩), .pointer (some ⟨w.heap.size + 1, 0, none⟩), .pointer (some ⟨w.heap.size + 1 + 1, 0, none⟩), .pointer (some ⟨w.heap.size + 1 + 1 + 1, 0, none⟩), .int .i64 0, .slice (some ⟨b, o, none⟩) (ws2 low high).length cap, undef, .int .u64 (x.2.1 : Int), undef, undef, undef, .bool false, .agg #[.int .u64 (m : Int), .int .u64 0, .int .u64 0, .int .u64 0], .agg #[.int .u64 0, .int .u64 0, .int .u64 0, .int .u64 0], .bool false, undef, .bool true, .agg #[.int .u64 (m : Int), .int .u64 0, .int .u64 0, .int .u64 0], .bool true, .slice (some ⟨w.heap.size, 0, none⟩) 4 4, .slice (some ⟨w.heap.size + 1, 0, none⟩) 4 4, .slice (some ⟨w1.heap.size, 0, none⟩) 2 2, .slice (some ⟨b, o, none⟩) (ws2 low high).length cap, .slice (some ⟨b, o, none⟩) (ws2 low high).length cap, .func (.func 190) #[] #[.pointer (some ⟨w2.heap.size, 0, none⟩)], .int .i64 (x.1 : Int), .int .u64 (x.2.1 : Int), undef, undef, undef, undef, undef, undef, undef, undef, undef, undef, undef, undef, undef, undef, undef, undef, undef, undef, undef, undef, undef, undef, undef, undef, undef, undef, undef, undef, undef, undef, undef, undef, undef], defers := [] })
    (fun x a' _ X Y row hs hg hr => hs)
    ?assign ?body ?done ?stop
  case kba => exact (grownBy_putObj' W l o'').block _ (by have := (Array.getElem?_eq_some_iff.1 ho).1; omega) (by simp; omega)
  case kbb => exact (grownBy_putObj' W l o'').block _ (by have := (Array.getElem?_eq_some_iff.1 ho).1; omega) (by simp; omega)
  case assign =>
    rintro l pre x W K ⟨⟨d1, d2⟩, hB, hsW⟩ hK
    gi_wp2
    refine hK _ _ (KeepsFrom.refl _ _) (KP.refl _ _ _ _) ⟨⟨d1, d2⟩, hB, hsW⟩ ?_
    rfl
  case body =>
    rintro l pre x a' W hl ⟨r, hr⟩ ⟨⟨d1, d2⟩, hB, hsW⟩ rfl hlt
    rw [hlm] at d1
    have hrl := remB_lt (B := B64) hm0 pre
    have hrB : remW m pre < B64 := Nat.lt_trans hrl hm
    rw [lvA_small hrB] at d2
    have x1 := (d1.cellA (i := 0) rfl).1
    have x2 := (d2.cellA (i := 0) rfl).1
    have x3 := (d2.cellA (i := 0) rfl).2
    have h1' : 1 ≤ n - 1 - 1 := by omega
    gi_wp2
    refine ⟨trivial, ?_⟩
    gi_at_call 130
    refine (CallsIn.inRound l (callsIn_FW (div64_calls (remW m pre) x.2.1 m hrl x.2.2 hm _))).mono ?_
    rintro e w4 ⟨rfl, hb4⟩
    have p1 := d1.below hb4 d1.lt
    have p2 := d2.below hb4 d2.lt
    obtain ⟨x4, x5⟩ := p2.cellA (i := 0) rfl
    have hlen := hb4.size
    obtain ⟨R, hR⟩ : ∃ R, (remW m pre * B64 + x.2.1) % m = R := ⟨_, rfl⟩
    have hRm : R < m := by rw [← hR]; exact Nat.mod_lt _ hm0
    rw [hR]
    gi_wp2
    have hks : ∀ {k : Nat}, k ≠ w.heap.size + 1 + 1 + 1 → k < W.heap.size → (w4.setCell ⟨w.heap.size + 1 + 1 + 1, 0, none⟩ (.int .u64 (R : Int))).heap[k]? = W.heap[k]? := fun {k} hk hl => by
      rw [Below.heap_setCell _ _ _ _ hk, hb4.block k hl]
    have hle := hB.size
    refine ⟨((keeps_below hb4).from _).trans ((KeepsOthers.setCell _ _ _).from _), ⟨(hb4.mono hle).setCell (p := ⟨w.heap.size + 1 + 1 + 1, 0, none⟩) (by simp; omega) _, hks (by omega) (by omega), hks (by omega) (by omega)⟩, ⟨?_, ?_⟩, (hB.trans (hb4.mono hle)).setCell (p := ⟨w.heap.size + 1 + 1 + 1, 0, none⟩) (by simp; omega) _, ?_⟩
    · rw [hlm]; exact p1.other _ (by omega)
    · show Box _ _ 26 (lvA (remB B64 m (pre ++ [x])))
      rw [remB_snoc, hR, lvA_small (Nat.lt_trans hRm hm)]
      exact p2.set (i := 0) (.int .u64 (R : Int)) (show 0 < 4 by decide)
    · simp only [World.setCell, Array.size_modify]; omega
  case done =>
    rintro D ys W hD rfl ⟨⟨d1, d2⟩, hB, hsW⟩ hK
    rw [remW_all hl hh] at d2
    obtain ⟨R, hR⟩ : ∃ R, (low + BW * high) % m = R := ⟨_, rfl⟩
    rw [hR] at d2
    obtain ⟨y0, f0⟩ := d2.cellA (i := 0) rfl
    obtain ⟨y1, f1⟩ := d2.cellA (i := 1) rfl
    obtain ⟨y2, f2⟩ := d2.cellA (i := 2) rfl
    obtain ⟨y3, f3⟩ := d2.cellA (i := 3) rfl
    gi_wp2
    have hK' := ((((KeepsOthers.setCell W ⟨w.heap.size + 1 + 1 + 1, 0, none⟩ (.int .u64 (limb 0 R))).trans (KeepsOthers.setCell _ ⟨w.heap.size + 1 + 1 + 1, 1, none⟩ (.int .u64 (limb 1 R)))).trans (KeepsOthers.setCell _ ⟨w.heap.size + 1 + 1 + 1, 2, none⟩ (.int .u64 (limb 2 R)))).trans (KeepsOthers.setCell _ ⟨w.heap.size + 1 + 1 + 1, 3, none⟩ (.int .u64 (limb 3 R)))).same D _ hK rfl
    refine ⟨by simp, .inl ⟨_, _, rfl, run_takeDeferred hK', ?_⟩⟩
    have y1 := (d2.set4 (.int .u64 (limb 0 R)) (.int .u64 (limb 1 R)) (.int .u64 (limb 2 R)) (.int .u64 (limb 3 R))).put hK' rfl (.deferred none)
    have x0 := (y1.cellA (i := 0) rfl).1
    have x1 := (y1.cellA (i := 1) rfl).1
    have x2 := (y1.cellA (i := 2) rfl).1
    have x3 := (y1.cellA (i := 3) rfl).1
    refine ⟨.tuple #[lv R, .int .i64 0], ?_, by rw [hR], ?_⟩
    · simp [results, Try.f86, go_sem, x0, x1, x2, x3]
    · exact ((((hB.setCell (p := ⟨w.heap.size + 1 + 1 + 1, 0, none⟩) (by simp; omega) _).setCell (p := ⟨w.heap.size + 1 + 1 + 1, 1, none⟩) (by simp; omega) _).setCell (p := ⟨w.heap.size + 1 + 1 + 1, 2, none⟩) (by simp; omega) _).setCell (p := ⟨w.heap.size + 1 + 1 + 1, 3, none⟩) (by simp; omega) _).trans (belowK_b (w := w) (Nat.le_refl _) _ D _ _ (by have := kB.size; omega) hK' rfl rfl)
  case stop =>
    rintro D c pre W _ _ h _
    exact h.elim
end Go.Proofs.Ytacjiajijigebaa
namespace Go.Proofs.Ytacjiajijigebaa
open Go Go.Ev Go.RowKit
theorem divides_Wide_one (low high m : Nat) (h0 : 0 < m) (h : m < 18446744073709551616) : PureOk Try.prog 86 [aN low, aN high, aN m] (wideN low high m) := by
  intro g w vs hv
  obtain ⟨v0, vs1, rfl, r0, v1, vs2, rfl, r1, v2, vs3, rfl, r2, rfl⟩ := hv
  obtain ⟨rfl, hl⟩ := rel_lv r0
  obtain ⟨rfl, hh⟩ := rel_lv r1
  obtain ⟨rfl, hm⟩ := rel_lv r2
  refine .inr ⟨callFunc_enter Try.func86 rfl (by kernel_rfl) _ w, ?_⟩
  refine (callsIn_wide.1 (show CallsIn Fence.wide 3 _ _ _ _ _ from wide_short_in 3 (Nat.le_refl _) low high m hl hh h0 h w)).mono ?_
  rintro e w' ⟨rfl, hB⟩
  refine ⟨_, rfl, ?_, ⟨hB.os, hB.tape, hB.output, hB.size, fun k hk _ => hB.block k hk⟩⟩
  have e1 : dR (low + BW * high) m = (low + BW * high) % m := if_neg (by omega)
  have e2 : dE m = 0 := if_neg (by omega)
  unfold wideN
  rw [e1, e2]
  exact tup_rel (Nat.lt_trans (Nat.mod_lt _ h0) hm) (hasI.2 ⟨by omega, by omega⟩)
theorem divides_Wide (low high m : Nat) : PureOk Try.prog 86 [aN low, aN high, aN m] (wideN low high m) := by
  by_cases h0 : m = 0
  · exact divides_Wide_many low high m (.inl h0)
  · by_cases h : m < 18446744073709551616
    · exact divides_Wide_one low high m (by omega) h
    · exact divides_Wide_many low high m (.inr (by omega))
def wideK : Known Try.prog := kNNN 86 (fun _ _ _ => True) wideN (fun a b m _ => divides_Wide a b m)
end Go.Proofs.Ytacjiajijigebaa
namespace Go.Proofs.Ytacjiajijigebaa
open Go Go.Ev

/-- Exponents go round by Q. -/
theorem pow_round {g : Grp} {a n m : Nat} (ha : inG g a = true) (h : n % g.Q = m % g.Q) : a ^ n % g.P = a ^ m % g.P := by
  obtain ⟨h1, h2⟩ := inG_iff.1 ha
  have hP := (mayG_t h1).1
  have key : ∀ k, a ^ k % g.P = a ^ (k % g.Q) % g.P := fun k => by
    conv => lhs; rw [← Nat.div_add_mod k g.Q, Nat.pow_add, Nat.pow_mul, Nat.mul_mod, Nat.pow_mod (a ^ g.Q), h2, Nat.one_pow, Nat.mod_eq_of_lt hP, Nat.one_mul, Nat.mod_mod]
  rw [key n, key m, h]
theorem pow_undone {g : Grp} {a n y : Nat} (hQ : 1 < g.Q) (ha : inG g a = true) (h : (n % g.Q) * y % g.Q = 1) : (a ^ n % g.P) ^ y % g.P = a := by
  have hm := mayG_t (inG_iff.1 ha).1
  rw [← Nat.pow_mod, ← Nat.pow_mul]
  have e0 : (n * y) % g.Q = (n % g.Q * y) % g.Q := by rw [Nat.mul_mod n y, Nat.mul_mod (n % g.Q) y, Nat.mod_mod]
  have e : (n * y) % g.Q = 1 % g.Q := by rw [e0, h, Nat.mod_eq_of_lt hQ]
  rw [pow_round ha e, Nat.pow_one, Nat.mod_eq_of_lt hm.2.2]
end Go.Proofs.Ytacjiajijigebaa
namespace Go.Proofs.Ytacjiajijigebaa
open Go Go.Ev
set_option linter.unusedSimpArgs false

set_option maxRecDepth 20000 in
set_option maxHeartbeats 4000000 in
theorem calls_GroupsRound (g : Grp) (a n0 n1 : Nat) {v0 v1 v2 : Value} (h0 : AB.rel noG (aG g) v0) (h1 : AB.rel noG (aN a) v1) (h2 : AB.rel noG (.agg [.num n0, .num n1]) v2) (w : World) : Calls Try.prog 19 #[v0, v1, v2] w fun e w' => e = .returned (.bool true) ∧ Fr (fun _ => False) w w' := by
  obtain ⟨P, Q, G, H⟩ := g
  refine calls_true (cxK [of08K, alive08K, divDK, grpExpK, inGK, limbsMulK, wideK, grpMulK, limbsAddK]) (xs := [aG ⟨P, Q, G, H⟩, aN a, .agg [.num n0, .num n1]]) (vs := [v0, v1, v2]) Try.func19 rfl (Nat.le_of_ble_eq_true rfl) ⟨_, _, rfl, h0, _, _, rfl, h1, _, _, rfl, h2, rfl⟩ ?_
  refine ⟨by kernel_rfl, trivial, ?_⟩
  conv => whnf
  refine brk (fun hQ => ?_) (fun hQ => ?_) <;> replace hQ : Nat.beq Q 0 = _ := hQ
  · exact ⟨trivial, rfl, trivial⟩
  refine ⟨trivial, ?_⟩
  conv => whnf
  refine brk (fun hA => ?_) (fun hA => ?_) <;> replace hA : (!inG ⟨P, Q, G, H⟩ a) = _ := hA <;> simp only [Bool.not_eq_true', Bool.not_eq_false'] at hA
  · exact ⟨trivial, rfl, trivial⟩
  have hQ0 : Q ≠ 0 := Nat.ne_of_beq_eq_false hQ
  conv => whnf
  obtain ⟨ki, hki⟩ : ∃ ki, (Int.ofNat (limb (0 + 0) n1)).tmod 4294967296 = ki := ⟨_, rfl⟩
  rw [hki]
  refine ⟨trivial, ?_⟩
  refine ⟨trivial, ?_⟩
  refine ⟨trivial, ?_⟩
  refine ⟨trivial, ?_⟩
  refine ⟨trivial, ?_⟩
  refine ⟨trivial, ?_⟩
  refine ⟨trivial, ?_⟩
  refine ⟨trivial, ?_⟩
  refine ⟨trivial, ?_⟩
  refine ⟨trivial, ?_⟩
  refine ⟨trivial, ?_⟩
  refine ⟨by kernel_rfl, ?_⟩
  refine ⟨trivial, ?_⟩
  refine ⟨trivial, ?_⟩
  refine ⟨by kernel_rfl, ?_⟩
  refine ⟨trivial, ?_⟩
  refine ⟨trivial, ?_⟩
  conv => whnf
  have mA := (inG_iff.1 hA).1
  have mX := (inG_iff.1 (in_exp (n := n0) hQ0 hA)).1
  have mU := (inG_iff.1 (in_exp (n := ki.toNat) hQ0 hA)).1
  have hd : ieqB (dE Q) 0 = true := by unfold dE; rw [if_neg hQ0]; rfl
  refine brkT (by exact hd) ?_
  conv => whnf
  refine brkT (by show ieqB (eM (mayG ⟨P, Q, G, H⟩ a)) 0 = true; rw [mA]; rfl) ?_
  conv => whnf
  refine brkT (by show ieqB (eM (mayG ⟨P, Q, G, H⟩ a)) 0 = true; rw [mA]; rfl) ?_
  conv => whnf
  refine brkT (by show ieqB (eM (mayG ⟨P, Q, G, H⟩ (gM (mayG ⟨P, Q, G, H⟩ a) (a ^ n0 % P)))) 0 = true; rw [mA]; show ieqB (eM (mayG ⟨P, Q, G, H⟩ (a ^ n0 % P))) 0 = true; rw [mX]; rfl) ?_
  conv => whnf
  refine brkT (by exact hd) ?_
  conv => whnf
  refine brkT (by show ieqB (eM (mayG ⟨P, Q, G, H⟩ a)) 0 = true; rw [mA]; rfl) ?_
  conv => whnf
  refine brkT (by show ieqB (eM (mayG ⟨P, Q, G, H⟩ a)) 0 = true; rw [mA]; rfl) ?_
  conv => whnf
  refine brkT (by show ieqB (eM (and (mayG ⟨P, Q, G, H⟩ (gM (mayG ⟨P, Q, G, H⟩ a) (a ^ n0 % P))) (mayG ⟨P, Q, G, H⟩ (gM (mayG ⟨P, Q, G, H⟩ a) (a ^ ki.toNat % P))))) 0 = true; rw [mA]; show ieqB (eM (and (mayG ⟨P, Q, G, H⟩ (a ^ n0 % P)) (mayG ⟨P, Q, G, H⟩ (a ^ ki.toNat % P)))) 0 = true; rw [mX, mU]; rfl) ?_
  conv => whnf
  refine brkT (by exact hd) ?_
  conv => whnf
  refine brkT (by show ieqB (eM (mayG ⟨P, Q, G, H⟩ a)) 0 = true; rw [mA]; rfl) ?_
  conv => whnf
  have hdR : ∀ n, dR n Q % Q = n % Q := fun n => by unfold dR; rw [if_neg hQ0, Nat.mod_mod]
  have e1 : a ^ n0 % P = a ^ dR n0 Q % P := pow_round (g := ⟨P, Q, G, H⟩) hA (hdR n0).symm
  have e2 : (a ^ n0 % P) ^ ki.toNat % P = a ^ dR (mulLo n0 ki.toNat + BW * mulHi n0 ki.toNat) Q % P := by
    rw [← Nat.pow_mod, ← Nat.pow_mul]
    refine pow_round (g := ⟨P, Q, G, H⟩) hA ?_
    rw [hdR]
    show n0 * ki.toNat % Q = (n0 * ki.toNat % BW + BW * (n0 * ki.toNat / BW)) % Q
    rw [Nat.mod_add_div]
  have e3 : (a ^ n0 % P) * (a ^ ki.toNat % P) % P = a ^ dR (addN n0 ki.toNat + BW * 0 + BW * (moreN n0 ki.toNat).toNat) Q % P := by
    rw [← Nat.mul_mod, ← Nat.pow_add]
    refine pow_round (g := ⟨P, Q, G, H⟩) hA ?_
    rw [hdR]
    show (n0 + ki.toNat) % Q = ((n0 + ki.toNat) % BW + BW * 0 + BW * (((n0 + ki.toNat) / BW : Nat) : Int).toNat) % Q
    rw [Int.toNat_natCast, Nat.mul_zero, Nat.add_zero, Nat.mod_add_div]
  rw [Nat.mul_zero, Nat.add_zero] at e3
  refine brkT (by show Nat.beq (gM (mayG ⟨P, Q, G, H⟩ a) (a ^ n0 % P)) (gM (mayG ⟨P, Q, G, H⟩ a) (a ^ dR n0 Q % P)) = true; rw [mA, ← e1]; exact Nat.beq_refl _) ?_
  conv => whnf
  refine brkT (by show Nat.beq (gM (mayG ⟨P, Q, G, H⟩ (gM (mayG ⟨P, Q, G, H⟩ a) (a ^ n0 % P))) ((gM (mayG ⟨P, Q, G, H⟩ a) (a ^ n0 % P)) ^ ki.toNat % P)) (gM (mayG ⟨P, Q, G, H⟩ a) (a ^ dR (mulLo n0 ki.toNat + BW * mulHi n0 ki.toNat) Q % P)) = true; rw [mA]; show Nat.beq (gM (mayG ⟨P, Q, G, H⟩ (a ^ n0 % P)) ((a ^ n0 % P) ^ ki.toNat % P)) (a ^ dR (mulLo n0 ki.toNat + BW * mulHi n0 ki.toNat) Q % P) = true; rw [mX, ← e2]; exact Nat.beq_refl _) ?_
  refine ⟨?_, trivial⟩
  show Nat.beq (gM (and (mayG ⟨P, Q, G, H⟩ (gM (mayG ⟨P, Q, G, H⟩ a) (a ^ n0 % P))) (mayG ⟨P, Q, G, H⟩ (gM (mayG ⟨P, Q, G, H⟩ a) (a ^ ki.toNat % P)))) ((gM (mayG ⟨P, Q, G, H⟩ a) (a ^ n0 % P)) * (gM (mayG ⟨P, Q, G, H⟩ a) (a ^ ki.toNat % P)) % P)) (gM (mayG ⟨P, Q, G, H⟩ a) (a ^ dR (addN n0 ki.toNat + BW * (moreN n0 ki.toNat).toNat) Q % P)) = true
  rw [mA]
  show Nat.beq (gM (and (mayG ⟨P, Q, G, H⟩ (a ^ n0 % P)) (mayG ⟨P, Q, G, H⟩ (a ^ ki.toNat % P))) ((a ^ n0 % P) * (a ^ ki.toNat % P) % P)) (a ^ dR (addN n0 ki.toNat + BW * (moreN n0 ki.toNat).toNat) Q % P) = true
  rw [mX, mU, ← e3]
  exact Nat.beq_refl _
end Go.Proofs.Ytacjiajijigebaa
namespace Go.Proofs.Ytacjiajijigebaa
open Go Go.Ev Go.ChangeShapes Go.WideShapes Go.ChangeAt Go.RowKit

set_option maxRecDepth 100000 in
theorem groupsRound_lifted (os : Os) (started : os.Started) (H : Type) (enc : TypeId × Value → H) :
    ReturnsInHanded {} Try.checked os 19 .any (Rows.groupsRoundSpec.pre6 enc Try.prog Try.f19 Rows.groupsRoundRow.domain false) (Rows.groupsRoundSpec.post enc Try.prog Try.f19 false true false false) := by
  refine returnsInHanded_of_change (C := Try.checked) Try.own started (by kernel_rfl) Try.func19
    (ChangeSpec.witness6 (enc := enc) (C := Try.checked) false ⟨#[], #[zs 16, zs 4, zs 8], []⟩ 8 (by kernel_rfl) (by kernel_rfl) (by kernel_rfl) (by kernel_rfl)) ?_
  intro W base args ds gs before hval0 hW hcnd _
  have hval : ∀ (j : Nat) t v, Try.f19.params[j]? = some t → args[j]? = some v → Value.okWide Try.prog W .any base t v := hval0
  have hW' := hW
  obtain ⟨p, q, hA0, hV, hbq, hfz, hnd⟩ := hW
  have hA : DataW.TrodAll enc Try.prog W 0 (fun _ => true) true Try.f19.params.toList args.toList ds p := hA0
  have hA1 := hA
  rw [Try.params19] at hA hval
  obtain ⟨v0, v1, v2, d0, d1, d2, p0, p1, p2, rfl, rfl, hp, h0, h1, h2⟩ := trodAll_three hA
  obtain ⟨rfl, rfl⟩ := trodVars_none hV
  obtain ⟨g, r0, rfl⟩ := open_grp (hval 0 45 v0 rfl rfl) h0
  obtain ⟨a, r1, rfl⟩ := open_num (hval 1 26 v1 rfl rfl) h1
  obtain ⟨n0, n1, r2, rfl⟩ := open_pair (hval 2 102 v2 rfl rfl) h2
  refine (calls_GroupsRound g a n0 n1 r0 r1 r2 W).mono fun e W' ⟨he, hw⟩ => ?_
  subst he
  exact ⟨_, rfl, post_true (q := []) Try.laidOut hW' hA1 hbq (by decide +kernel) rfl rfl rfl und4 rfl rfl rfl hw⟩

set_option maxRecDepth 100000 in
theorem groupsRound_facts : joinedFacts Try.prog 19 Try.f19 Rows.groupsRoundSpec Rows.groupsRoundRow = true := by
  unfold joinedFacts
  repeat' (with_reducible refine and_t ?_ ?_)
  all_goals first
    | with_reducible exact may_enter
    | with_reducible exact Try.laidOut
    | with_reducible exact io_maps
    | with_reducible exact io_heard
    | with_reducible exact io_stops
    | ((with_reducible refine io_lift ?_); rfl)
    | ((with_reducible refine io_make ?_); rfl)
    | kernel_rfl

theorem groupsRound_holds : Rows.GroupsRoundSaid :=
  OpenClaim.holds_of_wide 19 Try.f19 rfl rfl rfl rfl rfl rfl rfl ⟨rfl, rfl, rfl, rfl, rfl⟩ rfl rfl rfl rfl rfl (by kernel_rfl) Try.func19 groupsRound_facts
    (of_decide_eq_true (by kernel_rfl)) (by unfold Func.isWrapper; rw [if_neg (by decide +kernel)]; exact ⟨rfl, rfl⟩)
    (fun os started H enc _ => groupsRound_lifted os started H enc)
end Go.Proofs.Ytacjiajijigebaa
