/- A product of powers is gathered in any order, and in parts: the row. No condition. -/
import Derived.Test.YtacjiajijigebaaRows
import Derived.Test.YtacjiajijigebaaB3
namespace Go.Proofs.Ytacjiajijigebaa
open Go Go.Ev
set_option linter.unusedSimpArgs false

set_option maxRecDepth 20000 in
theorem calls_GroupsClosed (g : Grp) (a b n : Nat) {v0 v1 v2 : Value} (h0 : AB.rel noG (aG g) v0) (h1 : AB.rel noG (.agg [.num a, .num b]) v1) (h2 : AB.rel noG (aN n) v2) (w : World) : Calls Try.prog 18 #[v0, v1, v2] w fun e w' => e = .returned (.bool true) ∧ Fr (fun _ => False) w w' := by
  obtain ⟨P, Q, G, H⟩ := g
  refine calls_true (cxK [of08K, alive08K, grpMulK, grpInvK, grpExpK, inGK]) (xs := [aG ⟨P, Q, G, H⟩, .agg [.num a, .num b], aN n]) (vs := [v0, v1, v2]) Try.func18 rfl (Nat.le_of_ble_eq_true rfl) ⟨_, _, rfl, h0, _, _, rfl, h1, _, _, rfl, h2, rfl⟩ ?_
  refine ⟨by kernel_rfl, trivial, ?_⟩
  conv => whnf
  refine brk (fun hQ => ?_) (fun hQ => ?_) <;> replace hQ : Nat.beq Q 0 = _ := hQ
  · exact ⟨trivial, rfl, trivial⟩
  refine ⟨trivial, ?_⟩
  conv => whnf
  refine brk (fun hA => ?_) (fun hA => ?_) <;> replace hA : (!inG ⟨P, Q, G, H⟩ a) = _ := hA <;> simp only [Bool.not_eq_true', Bool.not_eq_false'] at hA
  · exact ⟨trivial, rfl, trivial⟩
  refine ⟨trivial, ?_⟩
  conv => whnf
  refine brk (fun hB => ?_) (fun hB => ?_) <;> replace hB : (!inG ⟨P, Q, G, H⟩ b) = _ := hB <;> simp only [Bool.not_eq_true', Bool.not_eq_false'] at hB
  · exact ⟨trivial, rfl, trivial⟩
  replace hQ : Q ≠ 0 := Nat.ne_of_beq_eq_false hQ
  have mA := (inG_iff.1 hA).1
  have mB := (inG_iff.1 hB).1
  have hP := (mayG_t mA).1
  obtain ⟨iI, i1⟩ := in_inv hQ hA
  have mI := (inG_iff.1 iI).1
  refine ⟨trivial, trivial, trivial, trivial, by kernel_rfl, trivial, ?_⟩
  conv => whnf
  refine brkT (by show ieqB (eM (mayG ⟨P, Q, G, H⟩ a && mayG ⟨P, Q, G, H⟩ b)) 0 = true; rw [mA, mB]; rfl) ?_
  conv => whnf
  refine brkT (by show ieqB (eGI ⟨P, Q, G, H⟩ a) 0 = true; unfold eGI; rw [mA]; show ieqB (if Nat.gcd a P = 1 then 0 else 7) 0 = true; rw [if_pos (in_gcd hQ hA)]; rfl) ?_
  conv => whnf
  refine brkT (by show ieqB (eM (mayG ⟨P, Q, G, H⟩ a)) 0 = true; rw [mA]; rfl) ?_
  conv => whnf
  refine brkT (by show ieqB (eM (mayG ⟨P, Q, G, H⟩ a && mayG ⟨P, Q, G, H⟩ (gM (mayG ⟨P, Q, G, H⟩ a) (invN a P)))) 0 = true; rw [mA]; show ieqB (eM (true && mayG ⟨P, Q, G, H⟩ (invN a P))) 0 = true; rw [mI]; rfl) ?_
  refine ⟨trivial, ?_⟩
  conv => whnf
  refine brkT (by show inG ⟨P, Q, G, H⟩ (gM (mayG ⟨P, Q, G, H⟩ a && mayG ⟨P, Q, G, H⟩ b) (a * b % P)) = true; rw [mA, mB]; exact in_mul hQ hA hB) ?_
  refine ⟨trivial, ?_⟩
  conv => whnf
  refine brkT (by show inG ⟨P, Q, G, H⟩ (gM (mayG ⟨P, Q, G, H⟩ a) (invN a P)) = true; rw [mA]; exact iI) ?_
  refine ⟨trivial, ?_⟩
  conv => whnf
  refine brkT (by show inG ⟨P, Q, G, H⟩ (gM (mayG ⟨P, Q, G, H⟩ a) (a ^ n % P)) = true; rw [mA]; exact in_exp hQ hA) ?_
  refine ⟨trivial, ?_⟩
  conv => whnf
  refine brkT (by show Nat.beq (gM (mayG ⟨P, Q, G, H⟩ a && mayG ⟨P, Q, G, H⟩ (gM (mayG ⟨P, Q, G, H⟩ a) (invN a P))) (a * gM (mayG ⟨P, Q, G, H⟩ a) (invN a P) % P)) 1 = true; rw [mA]; show Nat.beq (gM (true && mayG ⟨P, Q, G, H⟩ (invN a P)) (a * invN a P % P)) 1 = true; rw [mI]; show Nat.beq (a * invN a P % P) 1 = true; rw [Nat.beq_eq]; exact i1) ?_
  exact ⟨trivial, trivial, in_one hP hQ, trivial⟩
end Go.Proofs.Ytacjiajijigebaa
namespace Go.Proofs.Ytacjiajijigebaa
open Go Go.Ev Go.ChangeShapes Go.WideShapes Go.ChangeAt Go.RowKit

theorem und4 : Try.prog.underlying 4 = some .bool := by kernel_rfl
theorem u102 : Try.prog.underlying 102 = some (.array 2 26) := by kernel_rfl
theorem c102 : Try.prog.cellsOf 102 = 8 := by kernel_rfl
theorem trod_pair {H : Type} {enc : TypeId × Value → H} {w : World} {base : Nat} {sp : Nat → Bool} {held : Bool} {fuel : Nat} {cs : List Value} {d : DataW H} {ps : List MemPlace} (h : DataW.trod enc Try.prog w base sp held fuel 102 cs = some (d, ps)) :
    ∃ a b : Nat, chsRel noG [.num a, .num b] cs ∧ ps = [] := by
  cases fuel with
  | zero => simp [DataW.trod] at h
  | succ m =>
    rw [DataW.trod_step] at h
    unfold DataW.trodStep at h
    simp only [u102, c102, c26] at h
    split at h
    · rename_i hl
      have hr : List.range 2 = [0, 1] := rfl
      simp only [hr, List.mapM_cons, List.mapM_nil, Option.map_eq_some_iff, bind, Option.bind_eq_some_iff, pure, Option.some.injEq] at h
      obtain ⟨ys, ⟨⟨y0, p0⟩, h0, z0, ⟨⟨y1, p1⟩, h1, z1, hz1, e1⟩, e0⟩, e⟩ := h
      obtain ⟨n0, b0, q0, rfl⟩ := trod_num h0
      obtain ⟨n1, b1, q1, rfl⟩ := trod_num h1
      subst hz1; subst e1; subst e0
      simp only [Prod.mk.injEq] at e
      refine ⟨n0, n1, ⟨limbs n0, cs.drop 4, ?_, ⟨b0, rfl⟩, limbs n1, [], ?_, ⟨b1, rfl⟩, rfl⟩, ?_⟩
      · rw [← q0]; simp
      · rw [← q1, List.append_nil]; exact (List.take_of_length_le (by simp; omega)).symm
      · rw [← e.2]; rfl
    · cases h
set_option maxRecDepth 20000 in
theorem open_pair {H : Type} {enc : TypeId × Value → H} {w : World} {base : Nat} {sp : Nat → Bool} {held : Bool} {r : Reach} {b0 : Nat} {v : Value} {d : DataW H} {ps : List MemPlace} (h : Value.okWide Try.prog w r b0 102 v) (hd : DataW.Trod enc Try.prog w base sp held 102 v d ps) : ∃ a b : Nat, AB.rel noG (.agg [.num a, .num b]) v ∧ ps = [] := by
  obtain ⟨cs, rfl⟩ := open_agg (.inr ⟨_, _, u102⟩) h
  obtain ⟨fuel, hf⟩ := hd
  obtain ⟨a, b, h1, h2⟩ := trod_pair hf
  exact ⟨a, b, ⟨cs, rfl, h1⟩, h2⟩
def zs (n : Nat) : Value := .agg (Array.replicate n (.int .u64 0))
set_option maxRecDepth 100000 in
theorem groupsClosed_lifted (os : Os) (started : os.Started) (H : Type) (enc : TypeId × Value → H) :
    ReturnsInHanded {} Try.checked os 18 .any (Rows.groupsClosedSpec.pre6 enc Try.prog Try.f18 Rows.groupsClosedRow.domain false) (Rows.groupsClosedSpec.post enc Try.prog Try.f18 false true false false) := by
  refine returnsInHanded_of_change (C := Try.checked) Try.own started (by kernel_rfl) Try.func18
    (ChangeSpec.witness6 (enc := enc) (C := Try.checked) false ⟨#[], #[zs 16, zs 8, zs 4], []⟩ 8 (by kernel_rfl) (by kernel_rfl) (by kernel_rfl) (by kernel_rfl)) ?_
  intro W base args ds gs before hval0 hW hcnd _
  have hval : ∀ (j : Nat) t v, Try.f18.params[j]? = some t → args[j]? = some v → Value.okWide Try.prog W .any base t v := hval0
  have hW' := hW
  obtain ⟨p, q, hA0, hV, hbq, hfz, hnd⟩ := hW
  have hA : DataW.TrodAll enc Try.prog W 0 (fun _ => true) true Try.f18.params.toList args.toList ds p := hA0
  have hA1 := hA
  rw [Try.params18] at hA hval
  obtain ⟨v0, v1, v2, d0, d1, d2, p0, p1, p2, rfl, rfl, hp, h0, h1, h2⟩ := trodAll_three hA
  obtain ⟨rfl, rfl⟩ := trodVars_none hV
  obtain ⟨g, r0, rfl⟩ := open_grp (hval 0 45 v0 rfl rfl) h0
  obtain ⟨a, b, r1, rfl⟩ := open_pair (hval 1 102 v1 rfl rfl) h1
  obtain ⟨n, r2, rfl⟩ := open_num (hval 2 26 v2 rfl rfl) h2
  refine (calls_GroupsClosed g a b n r0 r1 r2 W).mono fun e W' ⟨he, hw⟩ => ?_
  subst he
  exact ⟨_, rfl, post_true (q := []) Try.laidOut hW' hA1 hbq (by decide +kernel) rfl rfl rfl und4 rfl rfl rfl hw⟩

set_option maxRecDepth 100000 in
theorem groupsClosed_facts : joinedFacts Try.prog 18 Try.f18 Rows.groupsClosedSpec Rows.groupsClosedRow = true := by
  unfold joinedFacts
  repeat' (with_reducible refine and_t ?_ ?_)
  all_goals first
    | with_reducible exact may_enter
    | with_reducible exact Try.laidOut
    | with_reducible exact io_maps
    | with_reducible exact io_heard
    | with_reducible exact io_stops
    | ((with_reducible refine io_lift ?_); rfl)
    | ((with_reducible refine io_make ?_); rfl)
    | kernel_rfl

theorem groupsClosed_holds : Rows.GroupsClosedSaid :=
  OpenClaim.holds_of_wide 18 Try.f18 rfl rfl rfl rfl rfl rfl rfl ⟨rfl, rfl, rfl, rfl, rfl⟩ rfl rfl rfl rfl rfl (by kernel_rfl) Try.func18 groupsClosed_facts
    (of_decide_eq_true (by kernel_rfl)) (by unfold Func.isWrapper; rw [if_neg (by decide +kernel)]; exact ⟨rfl, rfl⟩)
    (fun os started H enc _ => groupsClosed_lifted os started H enc)
end Go.Proofs.Ytacjiajijigebaa
namespace Go.Proofs.Ytacjiajijigebaa
open Go Go.Ev Go.RowKit
set_option linter.unusedSimpArgs false

/-- Numbers in a row of words. -/
def nvec (l : List Nat) : Nat → CV := fun j => .int .u64 (Int.ofNat (limb (j % 4) (l.getD (j / 4) 0)))
theorem nvec_at {l : List Nat} {k x j : Nat} (h : l[k]? = some x) (hj : j < 4) : nvec l (k * 4 + j) = .int .u64 (Int.ofNat (limb j x)) := by
  unfold nvec
  rw [show (k * 4 + j) % 4 = j by omega, show (k * 4 + j) / 4 = k by omega, List.getD_eq_getElem?_getD, h]
  rfl
theorem nvec_cat {l : List Nat} {x : Nat} {h : Nat → CV} (hh : ∀ j, j < 4 → h j = .int .u64 (Int.ofNat (limb j x))) : ∀ j, j < (l.length + 1) * 4 → catF (l.length * 4) (nvec l) h j = nvec (l ++ [x]) j := by
  intro j hj
  unfold catF
  split
  · rename_i hb
    rw [Nat.blt_eq] at hb
    unfold nvec
    rw [List.getD_eq_getElem?_getD, List.getD_eq_getElem?_getD, List.getElem?_append_left (by omega)]
  · rename_i hb
    have hb : ¬ j < l.length * 4 := fun h => by rw [← Nat.blt_eq] at h; rw [h] at hb; cases hb
    rw [hh _ (by omega)]
    have e : j = l.length * 4 + (j - l.length * 4) := by omega
    rw [e, nvec_at (x := x) (by simp) (by omega)]
    congr 3
    omega
/-- A slice of one number as a source. -/
theorem src_num {P : Program} {S : Nat → Prop} {w0 : World} {g : GM} {w : World} {l c x mk : Nat} {v : Value} (hv : (CV.sl l 0 0 1 c).rel g v) (hb : ∀ b, g l = some b → BlkRel S w0 g w b ([.num x], mk)) : ∃ news, Src P g w v 4 1 (fun j => .int .u64 (Int.ofNat (limb j x))) news := by
  rcases hv with ⟨h, _⟩ | ⟨_, cap, _, _, b, hgb, _, rfl⟩
  · cases h
  · obtain ⟨cs, ty, fz, us0, rest, h2, _, h2a, h3, _⟩ := (hb b hgb).2.resolve_left (by simp)
    obtain ⟨us, ws, rfl, ⟨q1, rfl⟩, rfl⟩ := h3
    refine ⟨limbs x, src_cells rfl (fun j u hj => ?_) (fun j u hj => ?_)⟩
    · have hlt := (List.getElem?_eq_some_iff.1 hj).1
      rw [add_addr, cell_blk h2, ← Array.getElem?_toList, h2a, List.append_assoc, Nat.zero_add, List.getElem?_append_left hlt]
      exact hj
    · have hlt := (List.getElem?_eq_some_iff.1 hj).1
      rw [limbs_get x j hlt] at hj
      injection hj with hj
      subst hj
      exact ⟨rfl, rfl, limb_has j x⟩

def okP (g : Grp) (zs : List NP) : Bool := and (decide (1 < g.P)) (allMay g zs)
def prodR (g : Grp) (zs : List NP) : AV := .tup [aN (gM (okP g zs) (prodV g zs)), aI (eM (okP g zs))]
theorem gM_lt {g : Grp} (hg : grpOk g) (zs : List NP) : gM (okP g zs) (prodV g zs) < BW := by
  unfold okP
  by_cases hP : 1 < g.P
  · have := prodV_lt hP zs
    have := hg.1
    cases (decide (1 < g.P) && allMay g zs) <;> simp only [gM]
    · decide
    · omega
  · rw [decide_eq_false hP]
    exact show 0 < BW by decide
theorem row_vec {S : Nat → Prop} {w0 w : World} {g : GM} {l i c N mk : Nat} {f : Nat → CV} {zs : List NP} {get : NP → Nat} {v : Value} (hv : (CV.sl l 0 i zs.length c).rel g v) (hgw : GW g S w0 w) (hb : ∀ b, g l = some b → BlkRel S w0 g w b ([.vec N f], mk)) (hN : i + zs.length * 4 ≤ N)
    (hf : ∀ k x, zs[k]? = some x → ∀ j, j < 4 → f (i + k * 4 + j) = .int .u64 (Int.ofNat (limb j (get x)))) : Nums w.heap.size w v get zs ∧ ∃ ad cap, v = .slice ad zs.length cap ∧ cap ≤ 9223372036854775807 := by
  rcases hv with ⟨h, h', ad, rfl⟩ | ⟨_, cap, _, hcap, b, hgb, _, rfl⟩
  · rw [h]
    exact ⟨⟨ad, 0, by rw [h], .inl (List.eq_nil_of_length_eq_zero h)⟩, ad, 0, rfl, by omega⟩
  · refine ⟨⟨_, cap, rfl, .inr ⟨b.b, 0 + i, rfl, hgw.own l b hgb, fun k x hk j hj => ?_⟩⟩, _, cap, rfl, hcap⟩
    obtain ⟨cs, ty, fz, us0, rest, h2, _, h2a, h3, _⟩ := (hb b hgb).2.resolve_left (by simp)
    obtain ⟨us, ws, rfl, ⟨q1, q2⟩, rfl⟩ := h3
    have hk' := (List.getElem?_eq_some_iff.1 hk).1
    have hlt : i + k * 4 + j < us.length := by rw [q1]; omega
    have hr := (q2 _ _ (List.getElem?_eq_getElem hlt)).2
    rw [hf k x hk j hj] at hr
    rw [cell_blk h2, ← Array.getElem?_toList, h2a, List.append_assoc, Nat.zero_add, List.getElem?_append_left hlt, List.getElem?_eq_getElem hlt, hr.1]
    rfl
/-- The product of slices of numbers. -/
theorem product_vec (g : Grp) (zs : List NP) (hlen : zs.length ≤ 1000) (l l2 i i2 c c2 N N2 mk mk2 : Nat) (f f2 : Nat → CV) (mem : List Blk) (hm : bnth mem l = some ([.vec N f], mk)) (hm2 : bnth mem l2 = some ([.vec N2 f2], mk2)) (hN : i + zs.length * 4 ≤ N) (hN2 : i2 + zs.length * 4 ≤ N2)
    (hf : ∀ k x, zs[k]? = some x → ∀ j, j < 4 → f (i + k * 4 + j) = .int .u64 (Int.ofNat (limb j x.1.1))) (hf2 : ∀ k x, zs[k]? = some x → ∀ j, j < 4 → f2 (i2 + k * 4 + j) = .int .u64 (Int.ofNat (limb j x.1.2))) (S : Nat → Prop) (w0 : World) :
    CallOk Try.prog S w0 79 [aG g, .cv (.sl l 0 i zs.length c), .cv (.sl l2 0 i2 zs.length c2)] mem [l, l2] (prodR g zs) noEff := by
  rw [bnth_eq] at hm hm2
  intro m w vs hv hrd hgw hfr hij
  have hv0 := hv
  obtain ⟨v0, vs1, rfl, r0, v1, vs2, rfl, r1, v2, vs3, rfl, r2, rfl⟩ := hv
  obtain ⟨n1, ad1, cap1, e1, hc1⟩ := row_vec (get := (·.1.1)) r1 hgw (fun b hb => hrd l (by simp) b _ hb hm) hN hf
  obtain ⟨n2, ad2, cap2, e2, hc2⟩ := row_vec (get := (·.1.2)) r2 hgw (fun b hb => hrd l2 (by simp) b _ hb hm2) hN2 hf2
  by_cases hP : 1 < g.P
  · obtain ⟨rfl, hg⟩ := rel_gV r0
    refine .inr ⟨callFunc_enter Try.func79 rfl (by kernel_rfl) _ w, ?_⟩
    have key := product_in 3 (Nat.le_refl _) g hg hP v1 v2 zs (by omega) w n1 n2
    refine (callsIn_wide.1 (show CallsIn Fence.wide 3 _ _ _ _ _ from key)).mono ?_
    rintro e w' ⟨rfl, hB⟩
    have e3 : okP g zs = allMay g zs := by unfold okP; rw [decide_eq_true hP]; rfl
    refine ⟨_, m, rfl, ?_, Post.pure hgw ⟨hB.os, hB.tape, hB.output, hB.size, fun k hk _ => hB.block k hk⟩⟩
    have hlt := gM_lt hg zs
    unfold prodR
    rw [e3] at *
    exact tup_rel hlt (by cases allMay g zs <;> exact hasI.2 ⟨by decide, by decide⟩)
  · have hz : okP g zs = false := by unfold okP; rw [decide_eq_false hP]; rfl
    have hb := CallOk.of_pure (S := S) (w0 := w0) (mem := mem) (product_bad g ad1 ad2 zs.length cap1 zs.length cap2 (.inr (by omega)) (by omega) (by omega)) m w [v0, v1, v2] ⟨_, _, rfl, r0, _, _, rfl, e1, _, _, rfl, e2, rfl⟩ (fun l h => by simp at h) hgw (fun i h => by simp [noEff] at h) (fun l h => by simp at h)
    unfold prodR
    rw [hz]
    exact hb

/-! ### Its plain laws -/
/-- The product of the powers. -/
def powP : List NP → Nat
  | [] => 1
  | x :: r => x.1.1 ^ x.1.2 * powP r
theorem powP_append : ∀ (a b : List NP), powP (a ++ b) = powP a * powP b
  | [], b => by simp [powP]
  | x :: a, b => by rw [List.cons_append, powP, powP, powP_append a b, Nat.mul_assoc]
theorem powP_reverse : ∀ (a : List NP), powP a.reverse = powP a
  | [] => rfl
  | x :: a => by
    rw [List.reverse_cons, powP_append, powP_reverse a, powP, powP, powP, Nat.mul_one, Nat.mul_comm]
theorem prodV_eq {g : Grp} (hP : 1 < g.P) (zs : List NP) : prodV g zs = powP zs % g.P := by
  have key : ∀ (l : List NP) (a : Nat), l.foldl (stepV g) (a % g.P) = a * powP l % g.P := by
    intro l
    induction l with
    | nil => intro a; simp [powP]
    | cons x l ih =>
      intro a
      have e : stepV g (a % g.P) x = (a * x.1.1 ^ x.1.2) % g.P := by unfold stepV; rw [← Nat.mul_mod]
      rw [List.foldl_cons, powP, e, ih, Nat.mul_assoc]
  have := key zs 1
  rw [Nat.mod_eq_of_lt hP, Nat.one_mul] at this
  exact this
theorem allMay_append (g : Grp) (a b : List NP) : allMay g (a ++ b) = (allMay g a && allMay g b) := by unfold allMay; rw [List.all_append]
theorem allMay_reverse (g : Grp) (a : List NP) : allMay g a.reverse = allMay g a := by unfold allMay; rw [List.all_reverse]
theorem okP_reverse (g : Grp) (a : List NP) : okP g a.reverse = okP g a := by unfold okP; rw [allMay_reverse]
theorem prod_reverse (g : Grp) (zs : List NP) : gM (okP g zs.reverse) (prodV g zs.reverse) = gM (okP g zs) (prodV g zs) := by
  rw [okP_reverse]
  by_cases hP : 1 < g.P
  · rw [prodV_eq hP, prodV_eq hP, powP_reverse]
  · unfold okP; rw [decide_eq_false hP]; rfl
theorem okP_t {g : Grp} {zs : List NP} (h : okP g zs = true) : 1 < g.P ∧ allMay g zs = true := by
  unfold okP at h
  cases hm : allMay g zs with
  | true => rw [hm] at h; exact ⟨of_decide_eq_true (by simpa using h), rfl⟩
  | false => rw [hm] at h; simp at h
theorem okP_parts {g : Grp} {zs : List NP} (h : okP g zs = true) (k : Nat) : okP g (zs.take k) = true ∧ okP g (zs.drop k) = true ∧ prodV g zs = prodV g (zs.take k) * prodV g (zs.drop k) % g.P := by
  obtain ⟨hP, hm⟩ := okP_t h
  rw [← List.take_append_drop k zs, allMay_append, Bool.and_eq_true] at hm
  refine ⟨by unfold okP; rw [decide_eq_true hP, hm.1]; rfl, by unfold okP; rw [decide_eq_true hP, hm.2]; rfl, ?_⟩
  conv => lhs; rw [← List.take_append_drop k zs]
  rw [prodV_eq hP, prodV_eq hP, prodV_eq hP, powP_append, Nat.mul_mod]
end Go.Proofs.Ytacjiajijigebaa
namespace Go.Proofs.Ytacjiajijigebaa
open Go Go.Ev
set_option linter.unusedSimpArgs false

theorem un95 : Try.prog.underlying 95 = some (.slice 26) := by kernel_rfl
theorem info26 : (Try.prog.info? 26).map (fun i => (i.zero, i.size, i.bytes)) = some (some (.agg #[.int .u64 0, .int .u64 0, .int .u64 0, .int .u64 0]), 4, 32) := by kernel_rfl
/-- The cells of pairs of numbers. -/
def prCells (zs : List NP) : List Value := (zs.map fun z => limbs z.1.1 ++ limbs z.1.2).flatten
theorem prCells_at {zs : List NP} {i : Nat} {z : NP} (h : zs[i]? = some z) : (∀ j u, (limbs z.1.1)[j]? = some u → (prCells zs)[i * 8 + j]? = some u) ∧ ∀ j u, (limbs z.1.2)[j]? = some u → (prCells zs)[i * 8 + 4 + j]? = some u := by
  induction zs generalizing i with
  | nil => simp at h
  | cons x zs ih =>
    have e : prCells (x :: zs) = (limbs x.1.1 ++ limbs x.1.2) ++ prCells zs := by simp [prCells]
    cases i with
    | zero =>
      simp only [List.getElem?_cons_zero, Option.some.injEq] at h
      subst h
      rw [e]
      refine ⟨fun j u hj => ?_, fun j u hj => ?_⟩
      · have hlt := (List.getElem?_eq_some_iff.1 hj).1
        rw [Nat.zero_mul, Nat.zero_add, List.append_assoc, List.getElem?_append_left hlt]; exact hj
      · have hlt := (List.getElem?_eq_some_iff.1 hj).1
        rw [limbs_length] at hlt
        rw [Nat.zero_mul, Nat.zero_add, List.getElem?_append_left (by simp [limbs_length]; omega), List.getElem?_append_right (by rw [limbs_length]; omega), limbs_length, Nat.add_sub_cancel_left]; exact hj
    | succ i =>
      obtain ⟨h1, h2⟩ := ih (by simpa using h)
      rw [e]
      refine ⟨fun j u hj => ?_, fun j u hj => ?_⟩
      · rw [List.getElem?_append_right (by simp [limbs_length]; omega), show (i + 1) * 8 + j - (limbs x.1.1 ++ limbs x.1.2).length = i * 8 + j by simp [limbs_length]; omega]
        exact h1 j u hj
      · rw [List.getElem?_append_right (by simp [limbs_length]; omega), show (i + 1) * 8 + 4 + j - (limbs x.1.1 ++ limbs x.1.2).length = i * 8 + 4 + j by simp [limbs_length]; omega]
        exact h2 j u hj
theorem numLoad {n : Nat} (h : n < BW) : ∀ g, chsRel g [.num n] (limbs n) := fun _ => ⟨limbs n, [], (List.append_nil _).symm, ⟨h, rfl⟩, rfl⟩
abbrev as_ (zs : List NP) (i : Nat) : List Nat := (zs.take i).map (·.1.1)
abbrev ns_ (zs : List NP) (i : Nat) : List Nat := (zs.take i).map (·.1.2)
theorem as_len {zs : List NP} {i : Nat} (h : i ≤ zs.length) : (as_ zs i).length = i := by simp; omega
theorem ns_len {zs : List NP} {i : Nat} (h : i ≤ zs.length) : (ns_ zs i).length = i := by simp; omega
theorem as_succ {zs : List NP} {i : Nat} {z : NP} (h : zs[i]? = some z) : as_ zs (i + 1) = as_ zs i ++ [z.1.1] := by unfold as_; rw [List.take_add_one, h]; simp
theorem ns_succ {zs : List NP} {i : Nat} {z : NP} (h : zs[i]? = some z) : ns_ zs (i + 1) = ns_ zs i ++ [z.1.2] := by unfold ns_; rw [List.take_add_one, h]; simp
theorem as_at {zs : List NP} {i k : Nat} {z : NP} (h : zs[k]? = some z) (hk : k < i) {j : Nat} (hj : j < 4) : nvec (as_ zs i) (k * 4 + j) = .int .u64 (Int.ofNat (limb j z.1.1)) :=
  nvec_at (by rw [List.getElem?_map, List.getElem?_take, if_pos hk, h]; rfl) hj
theorem ns_at {zs : List NP} {i k : Nat} {z : NP} (h : zs[k]? = some z) (hk : k < i) {j : Nat} (hj : j < 4) : nvec (ns_ zs i) (k * 4 + j) = .int .u64 (Int.ofNat (limb j z.1.2)) :=
  nvec_at (by rw [List.getElem?_map, List.getElem?_take, if_pos hk, h]; rfl) hj
theorem nvec_le {m n : Nat} {ρ : Nat → Nat} {f : Nat → CV} {l : List Nat} (h : ∀ j, j < n → f j = nvec l j) : ∀ j, j < n → leCVR ρ m (f j) (nvec l j) True := fun j hj => by
  rw [h j hj]
  exact ⟨rfl, trivial⟩

section
variable {P : Program} {S : Nat → Prop} {w0 : World} {ts : List AV} {mem : List Blk}
/-- One number more behind numbers. -/
theorem exec_push {o : Oper} {c : Call} {x y : Operand} (ho : o.op = .call c) (hc : c.callee = .builtin .append) (hargs : c.args = #[x, y]) (htys : c.argTypes = #[95, 95]) {l l2 n X cc : Nat} {L : List Nat} (hn : L.length = n)
    (hx0 : opv ts x = .b (.cv (.sl l 0 0 n cc))) (hy0 : opv ts y = .b (.cv (.sl l2 0 0 1 1))) (hk : mem[l]? = some ([.vec (n * 4) (nvec L)], 3)) (hk2 : mem[l2]? = some ([.num X], 3)) (hle : n ≤ 1000) :
    Exec Try.prog S w0 o ts mem [l, l2] (.b (.cv (.sl mem.length 0 0 (n + 1) (n + 1)))) ⟨[([.vec ((n + 1) * 4) (catF (n * 4) (nvec L) fun j => .int .u64 (Int.ofNat (limb j X)))], 3)], [(l, [])]⟩ := by
  refine exec_append (x := x) (y := y) (d := .slice 26) (mk := 3) (l := l) (m := 1) (sz := 4) ho hc hargs htys un95 un95 (fun k h => by cases h) info26 rfl hx0 hk rfl rfl (by simp) (Nat.le_refl _) (by omega) (by omega) (by decide) (fun g a w hx hr hg => ?_)
  have hy := hx y (by simp [ho, Op.operands, Call.operands, hargs])
  rw [hy0] at hy
  exact src_num hy fun b hb => hr l2 (by simp) b _ hb hk2
end

set_option maxRecDepth 20000 in
set_option maxHeartbeats 4000000 in
theorem calls_GroupsProduct (g : Grp) (zs : List NP) (cut : Int) {v0 v1 v2 : Value} (h0 : AB.rel noG (aG g) v0) (w : World) (h1 : SlAt w (fun _ => True) 8 v1 zs.length (prCells zs)) (h2 : AB.rel noG (.cv (.int .u8 cut)) v2) : Calls Try.prog 20 #[v0, v1, v2] w fun e w' => e = .returned (.bool true) ∧ Fr (fun _ => False) w w' := by
  obtain ⟨P, Q, G, H⟩ := g
  obtain ⟨ad, cap, rfl, hc1, hc2, hl, hrow⟩ := h1
  obtain ⟨cu, rfl, hcu⟩ : ∃ cu : Nat, cut = Int.ofNat cu ∧ cu < 256 := by
    have := has8.1 h2.2
    exact ⟨cut.toNat, by simp only [Int.ofNat_eq_natCast]; omega, by omega⟩
  refine calls_true (cxK [alive08K, of08K, grpExpK, grpMulK]) (xs := [aG ⟨P, Q, G, H⟩, .cv (.v (.slice ad zs.length cap)), .cv (.int .u8 (Int.ofNat cu))]) (vs := [v0, _, v2]) Try.func20 rfl (Nat.le_of_ble_eq_true rfl) ⟨_, _, rfl, h0, _, _, rfl, rfl, _, _, rfl, h2, rfl⟩ ?_
  refine ⟨trivial, ?_⟩
  conv => whnf
  refine oblT (by rw [Nat.ble_eq]; omega) ?_
  conv => whnf
  refine brk (fun h60 => ?_) (fun h60 => ?_) <;> replace h60 : iltB 60 (Int.ofNat zs.length) = _ := h60 <;> rw [iltB_eq] at h60 <;> simp only [decide_eq_true_eq, decide_eq_false_iff_not, Int.ofNat_eq_natCast] at h60
  · exact ⟨trivial, rfl, trivial⟩
  have h60 : zs.length ≤ 60 := by omega
  conv => whnf
  refine LoopK.gen Nat (fun i => [(7, .b (.cv (.sl 1 0 0 i i))), (8, .b (.cv (.sl 2 0 0 i i))), (9, .b (.cv (.sl 3 0 0 i i))), (10, .b (.cv (.sl 4 0 0 i i))), (11, tI (Int.ofNat i))])
    (fun i => [([.num P, .num Q, .num G, .num H], 0), ([.vec (i * 4) (nvec (as_ zs i))], 3), ([.vec (i * 4) (nvec (ns_ zs i))], 3), ([.vec (i * 4) (nvec (as_ zs.reverse i))], 3), ([.vec (i * 4) (nvec (ns_ zs.reverse i))], 3)])
    (fun i => i ≤ zs.length) (fun i => zs.length - i) 0 (Nat.zero_le _) (fun n => match n with | 0 => 0 | n + 1 => 100 + n) ?_
    Unit (fun _ => [(7, .b (.cv (.sl 1 0 0 zs.length zs.length))), (8, .b (.cv (.sl 2 0 0 zs.length zs.length))), (9, .b (.cv (.sl 3 0 0 zs.length zs.length))), (10, .b (.cv (.sl 4 0 0 zs.length zs.length))), (11, .top)])
    (fun _ => [([.num P, .num Q, .num G, .num H], 0), ([.vec (zs.length * 4) (nvec (as_ zs zs.length))], 3), ([.vec (zs.length * 4) (nvec (ns_ zs zs.length))], 3), ([.vec (zs.length * 4) (nvec (as_ zs.reverse zs.length))], 3), ([.vec (zs.length * 4) (nvec (ns_ zs.reverse zs.length))], 3)]) (fun _ => True) 0 ?_ ?_
  · conv => whnf
    repeat' (refine And.intro ?_ ?_)
    all_goals try first | with_reducible rfl | exact trivial
    all_goals rfl
  · intro i hi
    replace hi : i ≤ zs.length := hi
    conv => whnf
    refine oblT (by rw [Nat.ble_eq]; omega) ?_
    conv => whnf
    refine brk (fun h3 => ?_) (fun h3 => ?_) <;> replace h3 : iltB (Int.ofNat i) (Int.ofNat zs.length) = _ := h3 <;> rw [iltB_eq] at h3 <;> simp only [decide_eq_true_eq, decide_eq_false_iff_not, Int.ofNat_eq_natCast] at h3
    · have h3 : i < zs.length := by omega
      obtain ⟨b, o, had, hb, _, hcell⟩ := hrow.resolve_left (fun h => by rw [h] at hl; simp at hl; omega)
      subst had
      obtain ⟨z, hz⟩ : ∃ z, zs[i]? = some z := ⟨zs[i], List.getElem?_eq_getElem h3⟩
      obtain ⟨z', hz'⟩ : ∃ z', zs[zs.length - 1 - i]? = some z' := ⟨_, List.getElem?_eq_getElem (show zs.length - 1 - i < zs.length by omega)⟩
      refine ⟨_, _, _, exec_index_out rfl ty105 rfl rfl h3, ?_⟩
      conv => whnf
      refine ⟨_, _, _, exec_index_arr_out rfl ty102 rfl rfl (by decide), ?_⟩
      conv => whnf
      refine ⟨_, _, _, exec_load_outs rfl ty26 rfl rfl hb (fun h => h) (us := limbs z.1.1) rfl (fun j u hj => by have := hcell _ _ ((prCells_at hz).1 j u hj); rwa [show o + (i * 8 + j) = o + i * 8 + 0 * 4 + j by omega] at this) (numLoad z.2.1), ?_⟩
      conv => whnf
      refine ⟨_, _, [1, 5], exec_push rfl rfl rfl rfl (as_len hi) rfl rfl rfl rfl (by omega), ?_⟩
      conv => whnf
      refine ⟨_, _, _, exec_index_out rfl ty105 rfl rfl h3, ?_⟩
      conv => whnf
      refine ⟨_, _, _, exec_index_arr_out rfl ty102 rfl rfl (by decide), ?_⟩
      conv => whnf
      refine ⟨_, _, _, exec_load_outs rfl ty26 rfl rfl hb (fun h => h) (us := limbs z.1.2) rfl (fun j u hj => by have := hcell _ _ ((prCells_at hz).2 j u hj); rwa [show o + (i * 8 + 4 + j) = o + i * 8 + 1 * 4 + j by omega] at this) (numLoad z.2.2), ?_⟩
      conv => whnf
      refine ⟨_, _, [2, 7], exec_push rfl rfl rfl rfl (ns_len hi) rfl rfl rfl rfl (by omega), ?_⟩
      conv => whnf
      refine oblT (by rw [Nat.ble_eq]; omega) ?_
      conv => whnf
      have ei : IntKind.wrap .i64 (IntKind.wrap .i64 (Int.ofNat zs.length - 1) - Int.ofNat i) = Int.ofNat (zs.length - 1 - i) := by
        rw [wrapI (Int.ofNat zs.length - 1) (by simp only [Int.ofNat_eq_natCast]; omega), wrapI _ (by simp only [Int.ofNat_eq_natCast]; omega)]
        simp only [Int.ofNat_eq_natCast]; omega
      have hlt : zs.length - 1 - i < zs.length := by omega
      have hz2 : zs.reverse[i]? = some z' := by rw [List.getElem?_reverse h3]; exact hz'
      rw [ei]
      refine ⟨_, _, _, exec_index_out rfl ty105 rfl rfl hlt, ?_⟩
      conv => whnf
      refine ⟨_, _, _, exec_index_arr_out rfl ty102 rfl rfl (by decide), ?_⟩
      conv => whnf
      refine ⟨_, _, _, exec_load_outs rfl ty26 rfl rfl hb (fun h => h) (us := limbs z'.1.1) rfl (fun j u hj => by have := hcell _ _ ((prCells_at hz').1 j u hj); rwa [show o + ((zs.length - 1 - i) * 8 + j) = o + (zs.length - 1 - i) * 8 + 0 * 4 + j by omega] at this) (numLoad z'.2.1), ?_⟩
      conv => whnf
      refine ⟨_, _, [3, 9], exec_push rfl rfl rfl rfl (as_len (by simpa using hi)) rfl rfl rfl rfl (by omega), ?_⟩
      conv => whnf
      refine oblT (by rw [Nat.ble_eq]; omega) ?_
      conv => whnf
      rw [ei]
      refine ⟨_, _, _, exec_index_out rfl ty105 rfl rfl hlt, ?_⟩
      conv => whnf
      refine ⟨_, _, _, exec_index_arr_out rfl ty102 rfl rfl (by decide), ?_⟩
      conv => whnf
      refine ⟨_, _, _, exec_load_outs rfl ty26 rfl rfl hb (fun h => h) (us := limbs z'.1.2) rfl (fun j u hj => by have := hcell _ _ ((prCells_at hz').2 j u hj); rwa [show o + ((zs.length - 1 - i) * 8 + 4 + j) = o + (zs.length - 1 - i) * 8 + 1 * 4 + j by omega] at this) (numLoad z'.2.2), ?_⟩
      conv => whnf
      refine ⟨_, _, [4, 11], exec_push rfl rfl rfl rfl (ns_len (by simpa using hi)) rfl rfl rfl rfl (by omega), ?_⟩
      conv => whnf
      refine ⟨i + 1, h3, ⟨fun n => match n with | 0 => 0 | 1 => 6 | 2 => 8 | 3 => 10 | 4 => 12 | n + 5 => 100 + n, ?_⟩, ?_⟩
      · conv => whnf
        repeat' (refine And.intro ?_ ?_)
        all_goals try first | with_reducible rfl | exact trivial | exact Nat.le_refl _
        · show IntKind.wrap .i64 (Int.ofNat i + 1) = Int.ofNat (i + 1)
          rw [wrapI _ (by simp only [Int.ofNat_eq_natCast]; omega)]; rfl
        · refine nvec_le ?_
          have e := nvec_cat (l := as_ zs i) (x := z.1.1) (fun _ _ => rfl)
          rw [as_len hi, ← as_succ hz] at e
          exact e
        · refine nvec_le ?_
          have e := nvec_cat (l := ns_ zs i) (x := z.1.2) (fun _ _ => rfl)
          rw [ns_len hi, ← ns_succ hz] at e
          exact e
        · refine nvec_le ?_
          have e := nvec_cat (l := as_ zs.reverse i) (x := z'.1.1) (fun _ _ => rfl)
          rw [as_len (by simpa using hi), ← as_succ hz2] at e
          exact e
        · refine nvec_le ?_
          have e := nvec_cat (l := ns_ zs.reverse i) (x := z'.1.2) (fun _ _ => rfl)
          rw [ns_len (by simpa using hi), ← ns_succ hz2] at e
          exact e
      · show zs.length - (i + 1) < zs.length - i
        omega
    · have h3 : i = zs.length := by omega
      subst h3
      refine ⟨(), trivial, ⟨id, ?_⟩⟩
      conv => whnf
      repeat' (refine And.intro ?_ ?_)
      all_goals try first | with_reducible rfl | exact trivial | exact Nat.le_refl _
      all_goals exact nvec_le (fun _ _ => rfl)
  · intro _ _
    conv => whnf
    have hlr : zs.reverse.length = zs.length := List.length_reverse
    have ha : ∀ k x, zs[k]? = some x → ∀ j, j < 4 → nvec (as_ zs zs.length) (0 + k * 4 + j) = .int .u64 (Int.ofNat (limb j x.1.1)) := fun k x hk j hj => by rw [Nat.zero_add]; exact as_at hk (List.getElem?_eq_some_iff.1 hk).1 hj
    have hn : ∀ k x, zs[k]? = some x → ∀ j, j < 4 → nvec (ns_ zs zs.length) (0 + k * 4 + j) = .int .u64 (Int.ofNat (limb j x.1.2)) := fun k x hk j hj => by rw [Nat.zero_add]; exact ns_at hk (List.getElem?_eq_some_iff.1 hk).1 hj
    have har : ∀ k x, zs.reverse[k]? = some x → ∀ j, j < 4 → nvec (as_ zs.reverse zs.length) (0 + k * 4 + j) = .int .u64 (Int.ofNat (limb j x.1.1)) := fun k x hk j hj => by rw [Nat.zero_add]; exact as_at hk (by have := (List.getElem?_eq_some_iff.1 hk).1; omega) hj
    have hnr : ∀ k x, zs.reverse[k]? = some x → ∀ j, j < 4 → nvec (ns_ zs.reverse zs.length) (0 + k * 4 + j) = .int .u64 (Int.ofNat (limb j x.1.2)) := fun k x hk j hj => by rw [Nat.zero_add]; exact ns_at hk (by have := (List.getElem?_eq_some_iff.1 hk).1; omega) hj
    have pr := fun S w0 mem hm hm2 => product_vec ⟨P, Q, G, H⟩ zs.reverse (by omega) 3 4 0 0 zs.length zs.length (zs.length * 4) (zs.length * 4) 3 3 _ _ mem hm hm2 (by omega) (by omega) har hnr S w0
    rw [hlr] at pr
    refine ⟨[1, 2], _, _, product_vec ⟨P, Q, G, H⟩ zs (by omega) 1 2 0 0 zs.length zs.length (zs.length * 4) (zs.length * 4) 3 3 _ _ _ rfl rfl (by omega) (by omega) ha hn _ _, ?_⟩
    conv => whnf
    refine ⟨[3, 4], _, _, pr _ _ _ rfl rfl, ?_⟩
    conv => whnf
    rw [prod_reverse, okP_reverse]
    refine brkF (by show (!ieqB (eM (okP ⟨P, Q, G, H⟩ zs)) (eM (okP ⟨P, Q, G, H⟩ zs))) = false; rw [ieqB_eq]; simp) ?_
    conv => whnf
    refine brkF (by show (!Nat.beq (gM (okP ⟨P, Q, G, H⟩ zs) (prodV ⟨P, Q, G, H⟩ zs)) (gM (okP ⟨P, Q, G, H⟩ zs) (prodV ⟨P, Q, G, H⟩ zs))) = false; rw [Nat.beq_refl]; rfl) ?_
    conv => whnf
    cases hok : okP ⟨P, Q, G, H⟩ zs with
    | false =>
      conv => whnf
      refine ⟨by kernel_rfl, trivial, ?_⟩
      conv => whnf
      exact ⟨rfl, trivial⟩
    | true =>
      conv => whnf
      refine oblT (by rw [Nat.ble_eq]; omega) ?_
      conv => whnf
      obtain ⟨k, hk⟩ : ∃ k, cu % (zs.length + 1) = k := ⟨_, rfl⟩
      have hkn : k ≤ zs.length := by have := Nat.mod_lt cu (show 0 < zs.length + 1 by omega); omega
      have e1 : IntKind.wrap .i64 (Int.ofNat zs.length + 1) = Int.ofNat (zs.length + 1) := by
        rw [wrapI _ (by simp only [Int.ofNat_eq_natCast]; omega)]; rfl
      have e2 : (IntKind.wrap .i64 (Int.ofNat cu)).tmod (Int.ofNat (zs.length + 1)) = Int.ofNat k := by
        rw [wrapI _ (by simp only [Int.ofNat_eq_natCast]; omega), ← hk]; rfl
      rw [e1]
      refine oblT rfl ?_
      conv => whnf
      rw [e2]
      refine ⟨by kernel_rfl, ?_⟩
      conv => whnf
      refine oblT (by rw [Nat.ble_eq]; exact hkn) ?_
      conv => whnf
      refine oblT (by rw [Nat.ble_eq]; exact hkn) ?_
      conv => whnf
      have p1 := fun S w0 mem hm hm2 => product_vec ⟨P, Q, G, H⟩ (zs.take k) (by rw [List.length_take]; omega) 1 2 (0 + 0 * 4) (0 + 0 * 4) (zs.length - 0) (zs.length - 0) (zs.length * 4) (zs.length * 4) 3 3 (nvec (as_ zs zs.length)) (nvec (ns_ zs zs.length)) mem hm hm2 (by rw [List.length_take]; omega) (by rw [List.length_take]; omega)
        (fun q x hq j hj => ha q x (by rw [List.getElem?_take] at hq; split at hq; exact hq; cases hq) j hj) (fun q x hq j hj => hn q x (by rw [List.getElem?_take] at hq; split at hq; exact hq; cases hq) j hj) S w0
      rw [List.length_take, Nat.min_eq_left hkn] at p1
      have p2 := fun S w0 mem hm hm2 => product_vec ⟨P, Q, G, H⟩ (zs.drop k) (by rw [List.length_drop]; omega) 1 2 (0 + k * 4) (0 + k * 4) (zs.length - k) (zs.length - k) (zs.length * 4) (zs.length * 4) 3 3 (nvec (as_ zs zs.length)) (nvec (ns_ zs zs.length)) mem hm hm2 (by rw [List.length_drop]; omega) (by rw [List.length_drop]; omega)
        (fun q x hq j hj => by
          rw [List.getElem?_drop] at hq
          have := ha _ x hq j hj
          rwa [show 0 + (k + q) * 4 + j = 0 + k * 4 + q * 4 + j by omega] at this)
        (fun q x hq j hj => by
          rw [List.getElem?_drop] at hq
          have := hn _ x hq j hj
          rwa [show 0 + (k + q) * 4 + j = 0 + k * 4 + q * 4 + j by omega] at this) S w0
      rw [List.length_drop] at p2
      obtain ⟨o1, o2, o3⟩ := okP_parts hok k
      have pe : ∀ ys : List NP, okP ⟨P, Q, G, H⟩ ys = true → prodR ⟨P, Q, G, H⟩ ys = .tup [aN (prodV ⟨P, Q, G, H⟩ ys), aI 0] := fun ys h => by unfold prodR; rw [h]; rfl
      rw [pe _ o1] at p1
      rw [pe _ o2] at p2
      refine ⟨[1, 2], _, _, p1 _ _ _ rfl rfl, ?_⟩
      refine ⟨by kernel_rfl, ?_⟩
      refine ⟨by kernel_rfl, ?_⟩
      conv => whnf
      refine oblT (by rw [Nat.ble_eq]; exact Nat.le_refl _) ?_
      conv => whnf
      refine oblT (by rw [Nat.ble_eq]; exact hkn) ?_
      conv => whnf
      refine oblT (by rw [Nat.ble_eq]; exact Nat.le_refl _) ?_
      conv => whnf
      refine oblT (by rw [Nat.ble_eq]; exact hkn) ?_
      conv => whnf
      refine ⟨[1, 2], _, _, p2 _ _ _ rfl rfl, ?_⟩
      refine ⟨by kernel_rfl, ?_⟩
      conv => whnf
      refine oblT (by rw [Nat.ble_eq]; omega) ?_
      conv => whnf
      refine brk (fun h1 => ?_) (fun h1 => ?_) <;> replace h1 : ieqB (Int.ofNat zs.length) 1 = _ := h1 <;> rw [ieqB_eq] at h1 <;> simp only [decide_eq_true_eq, decide_eq_false_iff_not, Int.ofNat_eq_natCast] at h1
      · have h1 : zs.length = 1 := by omega
        obtain ⟨z, hz⟩ : ∃ z, zs[0]? = some z := ⟨zs[0], List.getElem?_eq_getElem (by omega)⟩
        have hz1 : zs = [z] := by
          match zs, h1, hz with
          | [y], _, hz => simp at hz; rw [hz]
        subst hz1
        refine ⟨by kernel_rfl, ?_⟩
        have hvn : ∀ (x : Nat) (f : Nat → CV), x < BW → (∀ j, j < 4 → f (0 + 0 * 4 + j) = .int .u64 (Int.ofNat (limb j x))) → ∀ (m : GM) (v : Value), AB.rel m (.agg [.vec 4 f]) v → AB.rel m (aN x) v := by
          rintro x f hx hf m v ⟨a, rfl, us, ws, e, ⟨q1, q2⟩, q3⟩
          refine ⟨a, rfl, us, ws, e, ⟨hx, ?_⟩, q3⟩
          apply List.ext_getElem?
          intro j
          by_cases hj : j < 4
          · have hlt : j < us.length := by omega
            have := (q2 j _ (List.getElem?_eq_getElem hlt)).2
            have e2 := hf j hj
            rw [show 0 + 0 * 4 + j = j by omega] at e2
            rw [e2] at this
            rw [List.getElem?_eq_getElem hlt, limbs_get x j hj, this.1]
          · rw [List.getElem?_eq_none (by omega), List.getElem?_eq_none (by rw [limbs_length]; omega)]
        conv => whnf
        refine ⟨[], _, _, CallOk.weaken (fun m vs hv => ?_) (CallOk.of_pure (groups_Exp ⟨P, Q, G, H⟩ z.1.1 z.1.2)), ?_⟩
        · obtain ⟨y0, ys, rfl, r0, y1, ys1, rfl, r1, y2, ys2, rfl, r2, r3⟩ := hv
          exact ⟨y0, _, rfl, r0, y1, _, rfl, hvn _ _ z.2.1 (fun j hj => ha 0 z rfl j hj) m y1 r1, y2, _, rfl, hvn _ _ z.2.2 (fun j hj => hn 0 z rfl j hj) m y2 r2, r3⟩
        refine ⟨by kernel_rfl, ?_⟩
        conv => whnf
        obtain ⟨hP1, hall⟩ := okP_t hok
        have hP1 : 1 < P := hP1
        have mz : mayG ⟨P, Q, G, H⟩ z.1.1 = true := by unfold allMay at hall; simpa using hall
        have hpv : prodV ⟨P, Q, G, H⟩ [z] = z.1.1 ^ z.1.2 % P := by
          have := prodV_eq (g := ⟨P, Q, G, H⟩) hP1 [z]
          rw [this]
          simp [powP]
        refine brkF (by show (!ieqB (eM (mayG ⟨P, Q, G, H⟩ z.1.1)) 0) = false; rw [mz]; rfl) ?_
        conv => whnf
        refine brkF (by show (!Nat.beq (gM (mayG ⟨P, Q, G, H⟩ z.1.1) (z.1.1 ^ z.1.2 % P)) (gM true (prodV ⟨P, Q, G, H⟩ [z]))) = false; rw [mz, hpv]; show (!Nat.beq (z.1.1 ^ z.1.2 % P) (z.1.1 ^ z.1.2 % P)) = false; rw [Nat.beq_refl]; rfl) ?_
        refine ⟨by kernel_rfl, trivial, ?_⟩
        conv => whnf
        refine brk (fun hX => ?_) (fun hX => ?_) <;> replace hX : Nat.beq (prodV ⟨P, Q, G, H⟩ ([z].take k)) (Int.toNat 0) = _ := hX
        · refine ⟨by kernel_rfl, trivial, ?_, trivial⟩
          have hX : prodV ⟨P, Q, G, H⟩ ([z].take k) = 0 := Nat.eq_of_beq_eq_true hX
          show Nat.beq (gM true (prodV ⟨P, Q, G, H⟩ [z])) 0 = true
          rw [show gM true (prodV ⟨P, Q, G, H⟩ [z]) = prodV ⟨P, Q, G, H⟩ [z] from rfl, o3, hX, Nat.zero_mul, Nat.zero_mod]; rfl
        refine ⟨trivial, ?_⟩
        conv => whnf
        refine brk (fun hY => ?_) (fun hY => ?_) <;> replace hY : Nat.beq (prodV ⟨P, Q, G, H⟩ ([z].drop k)) (Int.toNat 0) = _ := hY
        · refine ⟨by kernel_rfl, trivial, ?_, trivial⟩
          have hY : prodV ⟨P, Q, G, H⟩ ([z].drop k) = 0 := Nat.eq_of_beq_eq_true hY
          show Nat.beq (gM true (prodV ⟨P, Q, G, H⟩ [z])) 0 = true
          rw [show gM true (prodV ⟨P, Q, G, H⟩ [z]) = prodV ⟨P, Q, G, H⟩ [z] from rfl, o3, hY, Nat.mul_zero, Nat.zero_mod]; rfl
        have hX : prodV ⟨P, Q, G, H⟩ ([z].take k) ≠ 0 := Nat.ne_of_beq_eq_false hX
        have hY : prodV ⟨P, Q, G, H⟩ ([z].drop k) ≠ 0 := Nat.ne_of_beq_eq_false hY
        have mX : mayG ⟨P, Q, G, H⟩ (prodV ⟨P, Q, G, H⟩ ([z].take k)) = true := by
          have h1 : 1 < P := (okP_t hok).1
          have h2 : prodV ⟨P, Q, G, H⟩ ([z].take k) < P := prodV_lt (g := ⟨P, Q, G, H⟩) h1 _
          unfold mayG; simp [h1, h2, hX]
        have mY : mayG ⟨P, Q, G, H⟩ (prodV ⟨P, Q, G, H⟩ ([z].drop k)) = true := by
          have h1 : 1 < P := (okP_t hok).1
          have h2 : prodV ⟨P, Q, G, H⟩ ([z].drop k) < P := prodV_lt (g := ⟨P, Q, G, H⟩) h1 _
          unfold mayG; simp [h1, h2, hY]
        refine ⟨trivial, ?_⟩
        conv => whnf
        refine brkT (by show ieqB (eM (and (mayG ⟨P, Q, G, H⟩ (prodV ⟨P, Q, G, H⟩ ([z].take k))) (mayG ⟨P, Q, G, H⟩ (prodV ⟨P, Q, G, H⟩ ([z].drop k))))) 0 = true; rw [mX, mY]; rfl) ?_
        refine ⟨?_, trivial⟩
        show Nat.beq (gM (and (mayG ⟨P, Q, G, H⟩ (prodV ⟨P, Q, G, H⟩ ([z].take k))) (mayG ⟨P, Q, G, H⟩ (prodV ⟨P, Q, G, H⟩ ([z].drop k)))) (prodV ⟨P, Q, G, H⟩ ([z].take k) * prodV ⟨P, Q, G, H⟩ ([z].drop k) % P)) (gM true (prodV ⟨P, Q, G, H⟩ [z])) = true
        rw [mX, mY, o3]
        exact Nat.beq_refl _
      · conv => whnf
        refine ⟨by kernel_rfl, trivial, ?_⟩
        conv => whnf
        refine brk (fun hX => ?_) (fun hX => ?_) <;> replace hX : Nat.beq (prodV ⟨P, Q, G, H⟩ (zs.take k)) (Int.toNat 0) = _ := hX
        · refine ⟨by kernel_rfl, trivial, ?_, trivial⟩
          have hX : prodV ⟨P, Q, G, H⟩ (zs.take k) = 0 := Nat.eq_of_beq_eq_true hX
          show Nat.beq (gM true (prodV ⟨P, Q, G, H⟩ zs)) 0 = true
          rw [show gM true (prodV ⟨P, Q, G, H⟩ zs) = prodV ⟨P, Q, G, H⟩ zs from rfl, o3, hX, Nat.zero_mul, Nat.zero_mod]; rfl
        refine ⟨trivial, ?_⟩
        conv => whnf
        refine brk (fun hY => ?_) (fun hY => ?_) <;> replace hY : Nat.beq (prodV ⟨P, Q, G, H⟩ (zs.drop k)) (Int.toNat 0) = _ := hY
        · refine ⟨by kernel_rfl, trivial, ?_, trivial⟩
          have hY : prodV ⟨P, Q, G, H⟩ (zs.drop k) = 0 := Nat.eq_of_beq_eq_true hY
          show Nat.beq (gM true (prodV ⟨P, Q, G, H⟩ zs)) 0 = true
          rw [show gM true (prodV ⟨P, Q, G, H⟩ zs) = prodV ⟨P, Q, G, H⟩ zs from rfl, o3, hY, Nat.mul_zero, Nat.zero_mod]; rfl
        have hX : prodV ⟨P, Q, G, H⟩ (zs.take k) ≠ 0 := Nat.ne_of_beq_eq_false hX
        have hY : prodV ⟨P, Q, G, H⟩ (zs.drop k) ≠ 0 := Nat.ne_of_beq_eq_false hY
        have mX : mayG ⟨P, Q, G, H⟩ (prodV ⟨P, Q, G, H⟩ (zs.take k)) = true := by
          have h1 : 1 < P := (okP_t hok).1
          have h2 : prodV ⟨P, Q, G, H⟩ (zs.take k) < P := prodV_lt (g := ⟨P, Q, G, H⟩) h1 _
          unfold mayG; simp [h1, h2, hX]
        have mY : mayG ⟨P, Q, G, H⟩ (prodV ⟨P, Q, G, H⟩ (zs.drop k)) = true := by
          have h1 : 1 < P := (okP_t hok).1
          have h2 : prodV ⟨P, Q, G, H⟩ (zs.drop k) < P := prodV_lt (g := ⟨P, Q, G, H⟩) h1 _
          unfold mayG; simp [h1, h2, hY]
        refine ⟨trivial, ?_⟩
        conv => whnf
        refine brkT (by show ieqB (eM (and (mayG ⟨P, Q, G, H⟩ (prodV ⟨P, Q, G, H⟩ (zs.take k))) (mayG ⟨P, Q, G, H⟩ (prodV ⟨P, Q, G, H⟩ (zs.drop k))))) 0 = true; rw [mX, mY]; rfl) ?_
        refine ⟨?_, trivial⟩
        show Nat.beq (gM (and (mayG ⟨P, Q, G, H⟩ (prodV ⟨P, Q, G, H⟩ (zs.take k))) (mayG ⟨P, Q, G, H⟩ (prodV ⟨P, Q, G, H⟩ (zs.drop k)))) (prodV ⟨P, Q, G, H⟩ (zs.take k) * prodV ⟨P, Q, G, H⟩ (zs.drop k) % P)) (gM true (prodV ⟨P, Q, G, H⟩ zs)) = true
        rw [mX, mY, o3]
        exact Nat.beq_refl _
end Go.Proofs.Ytacjiajijigebaa
namespace Go.Proofs.Ytacjiajijigebaa
open Go Go.Ev Go.ChangeShapes Go.WideShapes Go.ChangeAt Go.RowKit

theorem und5 : Try.prog.underlying 5 = some (.int .u8) := by kernel_rfl
theorem und105 : Try.prog.underlying 105 = some (.slice 102) := by kernel_rfl
set_option maxRecDepth 20000 in
theorem open_pairs {H : Type} {enc : TypeId × Value → H} {w : World} {base : Nat} {sp : Nat → Bool} {held : Bool} {r : Reach} {b0 : Nat} {v : Value} {d : DataW H} {ps : List MemPlace} (h : Value.okWide Try.prog w r b0 105 v) (hd : DataW.Trod enc Try.prog w base sp held 105 v d ps) : ∃ l : List NP, SlAt w (fun _ => True) 8 v l.length (prCells l) := by
  obtain ⟨L, m, h1, h2⟩ := open_sl und105 (by rw [c102]; decide) h hd
  rw [c102] at h1
  have key : ∀ L : List (List Value), (∀ c ∈ L, ∃ y, DataW.trod enc Try.prog w base sp held m 102 c = some y) → ∃ l : List NP, l.length = L.length ∧ prCells l = L.flatten := by
    intro L
    induction L with
    | nil => intro _; exact ⟨[], rfl, rfl⟩
    | cons c L ih =>
      intro hL
      obtain ⟨l, q1, q2⟩ := ih fun x hx => hL x (List.mem_cons_of_mem _ hx)
      obtain ⟨⟨d', p'⟩, hy⟩ := hL c (List.mem_cons_self ..)
      obtain ⟨a, b, ⟨us, ws, rfl, ⟨ha, rfl⟩, us2, ws2, rfl, ⟨hb, rfl⟩, rfl⟩, _⟩ := trod_pair hy
      exact ⟨⟨(a, b), ha, hb⟩ :: l, by simp [q1], by rw [List.flatten_cons, ← q2]; simp [prCells]⟩
  obtain ⟨l, q1, q2⟩ := key L fun c hc => (h2 c hc).2
  exact ⟨l, by rw [q1, q2]; exact h1⟩
set_option maxRecDepth 100000 in
theorem groupsProduct_lifted (os : Os) (started : os.Started) (H : Type) (enc : TypeId × Value → H) :
    ReturnsInHanded {} Try.checked os 20 .any (Rows.groupsProductSpec.pre6 enc Try.prog Try.f20 Rows.groupsProductRow.domain false) (Rows.groupsProductSpec.post enc Try.prog Try.f20 false true false false) := by
  refine returnsInHanded_of_change (C := Try.checked) Try.own started (by kernel_rfl) Try.func20
    (ChangeSpec.witness6 (enc := enc) (C := Try.checked) false ⟨#[], #[zs 16, .slice none 0 0, .int .u8 0], []⟩ 8 (by kernel_rfl) (by kernel_rfl) (by kernel_rfl) (by kernel_rfl)) ?_
  intro W base args ds gs before hval0 hW hcnd _
  have hval : ∀ (j : Nat) t v, Try.f20.params[j]? = some t → args[j]? = some v → Value.okWide Try.prog W .any base t v := hval0
  have hW' := hW
  obtain ⟨p, q, hA0, hV, hbq, hfz, hnd⟩ := hW
  have hA : DataW.TrodAll enc Try.prog W 0 (fun _ => true) true Try.f20.params.toList args.toList ds p := hA0
  have hA1 := hA
  rw [Try.params20] at hA hval
  obtain ⟨v0, v1, v2, d0, d1, d2, p0, p1, p2, rfl, rfl, hp, h0, h1, h2⟩ := trodAll_three hA
  obtain ⟨rfl, rfl⟩ := trodVars_none hV
  obtain ⟨g, r0, rfl⟩ := open_grp (hval 0 45 v0 rfl rfl) h0
  obtain ⟨l, r1⟩ := open_pairs (hval 1 105 v1 rfl rfl) h1
  obtain ⟨k, rfl, rfl, rfl, wk⟩ := open_int und5 (hval 2 5 v2 rfl rfl) h2
  refine (calls_GroupsProduct g l k r0 W r1 ⟨rfl, has_wf wk⟩).mono fun e W' ⟨he, hw⟩ => ?_
  subst he
  exact ⟨_, rfl, post_true (q := []) Try.laidOut hW' hA1 hbq (by decide +kernel) rfl rfl rfl und4 rfl rfl rfl hw⟩

set_option maxRecDepth 100000 in
theorem groupsProduct_facts : joinedFacts Try.prog 20 Try.f20 Rows.groupsProductSpec Rows.groupsProductRow = true := by
  unfold joinedFacts
  repeat' (with_reducible refine and_t ?_ ?_)
  all_goals first
    | with_reducible exact may_enter
    | with_reducible exact Try.laidOut
    | with_reducible exact io_maps
    | with_reducible exact io_heard
    | with_reducible exact io_stops
    | ((with_reducible refine io_lift ?_); rfl)
    | ((with_reducible refine io_make ?_); rfl)
    | kernel_rfl

theorem groupsProduct_holds : Rows.GroupsProductSaid :=
  OpenClaim.holds_of_wide 20 Try.f20 rfl rfl rfl rfl rfl rfl rfl ⟨rfl, rfl, rfl, rfl, rfl⟩ rfl rfl rfl rfl rfl (by kernel_rfl) Try.func20 groupsProduct_facts
    (of_decide_eq_true (by kernel_rfl)) (by unfold Func.isWrapper; rw [if_neg (by decide +kernel)]; exact ⟨rfl, rfl⟩)
    (fun os started H enc _ => groupsProduct_lifted os started H enc)
end Go.Proofs.Ytacjiajijigebaa
