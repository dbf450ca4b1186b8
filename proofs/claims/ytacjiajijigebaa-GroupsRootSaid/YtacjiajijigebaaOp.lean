/- From what a given argument reads as, to what the evaluator says of it: numbers, groups, rows of bytes. No condition. -/
import Derived.Test.YtacjiajijigebaaTy
import Derived.Test.YtacjiajijigebaaOr
import Derived.Test.YtacjiajijigebaaRw
namespace Go.Proofs.Ytacjiajijigebaa
open Go Go.Ev Go.ChangeShapes
variable {H : Type} {enc : TypeId × Value → H} {w : World} {base : Nat} {sp : Nat → Bool} {held : Bool}

theorem u22 : Try.prog.underlying 22 = some (.int .u64) := by kernel_rfl
theorem u5 : Try.prog.underlying 5 = some (.int .u8) := by kernel_rfl
theorem u26 : Try.prog.underlying 26 = some (.array 4 22) := by kernel_rfl
theorem u33 : Try.prog.underlying 33 = some (.array 32 5) := by kernel_rfl
theorem c22 : Try.prog.cellsOf 22 = 1 := by kernel_rfl
theorem c5 : Try.prog.cellsOf 5 = 1 := by kernel_rfl
theorem c26 : Try.prog.cellsOf 26 = 4 := by kernel_rfl
theorem c33 : Try.prog.cellsOf 33 = 32 := by kernel_rfl
theorem c45 : Try.prog.cellsOf 45 = 16 := by kernel_rfl

theorem bounds_u64 {n : Int} (h : (Lit.int .u64 n).wf = true) : ∃ a : Nat, n = (a : Int) ∧ a < B64 := by
  have := has_wf h
  have h2 := hasU.1 this
  exact ⟨n.toNat, by omega, by simp only [B64]; omega⟩

theorem trod_num {fuel : Nat} {cs : List Value} {d : DataW H} {ps : List MemPlace} (h : DataW.trod enc Try.prog w base sp held fuel 26 cs = some (d, ps)) :
    ∃ n, n < BW ∧ cs = limbs n ∧ ps = [] := by
  cases fuel with
  | zero => simp [DataW.trod] at h
  | succ m =>
    rw [DataW.trod_step] at h
    unfold DataW.trodStep at h
    simp only [u26, c26, c22] at h
    split at h
    · rename_i hl
      obtain ⟨a, b, c, e, rfl⟩ : ∃ a b c e, cs = [a, b, c, e] := by
        match cs, hl with
        | [a, b, c, e], _ => exact ⟨a, b, c, e, rfl⟩
      have hr : List.range 4 = [0, 1, 2, 3] := rfl
      simp only [hr, List.mapM_cons, List.mapM_nil, Option.map_eq_some_iff, bind, Option.bind_eq_some_iff, pure, Option.some.injEq] at h
      obtain ⟨ys, ⟨y0, h0, z0, ⟨y1, h1, z1, ⟨y2, h2, z2, ⟨y3, h3, z3, hz3, e3⟩, e2⟩, e1⟩, e0⟩, e⟩ := h
      obtain ⟨n0, q0, rfl, w0⟩ := DataW.trod_int u22 h0
      obtain ⟨n1, q1, rfl, w1⟩ := DataW.trod_int u22 h1
      obtain ⟨n2, q2, rfl, w2⟩ := DataW.trod_int u22 h2
      obtain ⟨n3, q3, rfl, w3⟩ := DataW.trod_int u22 h3
      obtain ⟨a0, rfl, g0⟩ := bounds_u64 w0
      obtain ⟨a1, rfl, g1⟩ := bounds_u64 w1
      obtain ⟨a2, rfl, g2⟩ := bounds_u64 w2
      obtain ⟨a3, rfl, g3⟩ := bounds_u64 w3
      simp at q0 q1 q2 q3
      subst hz3; subst e3; subst e2; subst e1; subst e0
      simp only [Prod.mk.injEq] at e
      have hl4 := limb_num4 g0 g1 g2 g3
      refine ⟨num4 a0 a1 a2 a3, hl4.2.2.2.2, ?_, ?_⟩
      · rw [q0, q1, q2, q3]; unfold limbs; rw [hl4.1, hl4.2.1, hl4.2.2.1, hl4.2.2.2.1]
      · rw [← e.2]; rfl
    · cases h

theorem trod_struct {t : TypeId} {fs : Array Field} {L : List (Nat × TypeId)} {fuel : Nat} {cs : List Value} {d : DataW H} {ps : List MemPlace} (ht : Try.prog.underlying t = some (.struct fs)) (hF : fs.toList.map (fun f => (f.offset, f.type)) = L)
    (h : DataW.trod enc Try.prog w base sp held fuel t cs = some (d, ps)) : cs.length = Try.prog.cellsOf t ∧ ∃ fuel' xs, L.mapM (fun p => DataW.trod enc Try.prog w base sp held fuel' p.2 ((cs.drop p.1).take (Try.prog.cellsOf p.2))) = some xs ∧ ps = xs.flatMap (·.2) := by
  cases fuel with
  | zero => simp [DataW.trod] at h
  | succ m =>
    rw [DataW.trod_step] at h
    unfold DataW.trodStep at h
    simp only [ht] at h
    split at h
    · rename_i hl
      obtain ⟨xs, h1, h2⟩ := Option.map_eq_some_iff.1 h
      refine ⟨hl, m, xs, ?_, ?_⟩
      · rw [← hF, List.mapM_map]; exact h1
      · simp only [Prod.mk.injEq] at h2; exact h2.2.symm
    · cases h
noncomputable def fs45 : Array Field := match Try.prog.underlying 45 with
  | some (.struct fs) => fs
  | _ => #[]
theorem u45 : Try.prog.underlying 45 = some (.struct fs45) := by kernel_rfl
theorem f45 : fs45.toList.map (fun f => (f.offset, f.type)) = [(0, 26), (4, 26), (8, 26), (12, 26)] := by kernel_rfl

theorem trod_grp {fuel : Nat} {cs : List Value} {d : DataW H} {ps : List MemPlace} (h : DataW.trod enc Try.prog w base sp held fuel 45 cs = some (d, ps)) :
    ∃ g : Grp, chsRel noG [.num g.P, .num g.Q, .num g.G, .num g.H] cs ∧ ps = [] := by
  obtain ⟨hl, m, xs, h1, h2⟩ := trod_struct u45 f45 h
  simp only [List.mapM_cons, List.mapM_nil, bind, Option.bind_eq_some_iff, pure, Option.some.injEq, c26] at h1
  obtain ⟨⟨d0, p0⟩, h0, z0, ⟨⟨d1, p1⟩, h1, z1, ⟨⟨d2, p2⟩, h2', z2, ⟨⟨d3, p3⟩, h3, z3, hz3, e3⟩, e2⟩, e1⟩, e0⟩ := h1
  obtain ⟨n0, b0, q0, rfl⟩ := trod_num h0
  obtain ⟨n1, b1, q1, rfl⟩ := trod_num h1
  obtain ⟨n2, b2, q2, rfl⟩ := trod_num h2'
  obtain ⟨n3, b3, q3, rfl⟩ := trod_num h3
  rw [c45] at hl
  refine ⟨⟨n0, n1, n2, n3⟩, ?_, ?_⟩
  · refine ⟨limbs n0, cs.drop 4, ?_, ⟨b0, rfl⟩, limbs n1, cs.drop 8, ?_, ⟨b1, rfl⟩, limbs n2, cs.drop 12, ?_, ⟨b2, rfl⟩, limbs n3, [], ?_, ⟨b3, rfl⟩, rfl⟩
    · rw [← q0]; simp
    · rw [← q1]; rw [show cs.drop 8 = (cs.drop 4).drop 4 by rw [List.drop_drop], List.take_append_drop]
    · rw [← q2]; rw [show cs.drop 12 = (cs.drop 8).drop 4 by rw [List.drop_drop], List.take_append_drop]
    · rw [← q3, List.append_nil]; exact (List.take_of_length_le (by simp; omega)).symm
  · rw [h2, ← e0, ← e1, ← e2, ← e3, ← hz3]; rfl

set_option maxRecDepth 20000 in
theorem open_agg {t : TypeId} {r : Reach} {b0 : Nat} {v : Value} (hs : (∃ fs, Try.prog.underlying t = some (.struct fs)) ∨ ∃ n e, Try.prog.underlying t = some (.array n e)) (h : Value.okWide Try.prog w r b0 t v) : ∃ cs, v = .agg cs := by
  unfold Value.okWide at h
  rcases hs with ⟨fs, hs⟩ | ⟨n, e, hs⟩ <;> rw [hs] at h <;> obtain ⟨cs, h1, _⟩ := h <;> exact ⟨cs, h1⟩
set_option maxRecDepth 20000 in
theorem open_num {r : Reach} {b0 : Nat} {v : Value} {d : DataW H} {ps : List MemPlace} (h : Value.okWide Try.prog w r b0 26 v) (hd : DataW.Trod enc Try.prog w base sp held 26 v d ps) : ∃ n, AB.rel noG (aN n) v ∧ ps = [] := by
  obtain ⟨cs, rfl⟩ := open_agg (.inr ⟨_, _, u26⟩) h
  obtain ⟨fuel, hf⟩ := hd
  obtain ⟨n, h1, h2, h3⟩ := trod_num hf
  refine ⟨n, ⟨cs, rfl, limbs n, [], ?_, ⟨h1, rfl⟩, rfl⟩, h3⟩
  rw [List.append_nil]; exact h2
set_option maxRecDepth 20000 in
theorem open_grp {r : Reach} {b0 : Nat} {v : Value} {d : DataW H} {ps : List MemPlace} (h : Value.okWide Try.prog w r b0 45 v) (hd : DataW.Trod enc Try.prog w base sp held 45 v d ps) : ∃ g : Grp, AB.rel noG (aG g) v ∧ ps = [] := by
  obtain ⟨cs, rfl⟩ := open_agg (.inl ⟨_, u45⟩) h
  obtain ⟨fuel, hf⟩ := hd
  obtain ⟨g, h1, h2⟩ := trod_grp hf
  exact ⟨g, ⟨cs, rfl, h1⟩, h2⟩
end Go.Proofs.Ytacjiajijigebaa
