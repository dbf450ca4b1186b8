/- Products, inverses and powers of numbers of a group are of it: the row. No condition. -/
import Derived.Test.YtacjiajijigebaaRows
import Derived.Test.YtacjiajijigebaaIo
import Derived.Test.YtacjiajijigebaaGc
namespace Go.Proofs.Ytacjiajijigebaa
open Go Go.Ev Go.ChangeShapes Go.WideShapes Go.ChangeAt Go.RowKit

theorem und4 : Try.prog.underlying 4 = some .bool := by kernel_rfl
theorem u102 : Try.prog.underlying 102 = some (.array 2 26) := by kernel_rfl
theorem c102 : Try.prog.cellsOf 102 = 8 := by kernel_rfl
theorem trod_pair {H : Type} {enc : TypeId × Value → H} {w : World} {base : Nat} {sp : Nat → Bool} {held : Bool} {fuel : Nat} {cs : List Value} {d : DataW H} {ps : List MemPlace} (h : DataW.trod enc Try.prog w base sp held fuel 102 cs = some (d, ps)) :
    ∃ a b : Nat, chsRel noG [.num a, .num b] cs ∧ ps = [] := by
  cases fuel with
  | zero => simp [DataW.trod] at h
  | succ m =>
    rw [DataW.trod_step] at h
    unfold DataW.trodStep at h
    simp only [u102, c102, c26] at h
    split at h
    · rename_i hl
      have hr : List.range 2 = [0, 1] := rfl
      simp only [hr, List.mapM_cons, List.mapM_nil, Option.map_eq_some_iff, bind, Option.bind_eq_some_iff, pure, Option.some.injEq] at h
      obtain ⟨ys, ⟨⟨y0, p0⟩, h0, z0, ⟨⟨y1, p1⟩, h1, z1, hz1, e1⟩, e0⟩, e⟩ := h
      obtain ⟨n0, b0, q0, rfl⟩ := trod_num h0
      obtain ⟨n1, b1, q1, rfl⟩ := trod_num h1
      subst hz1; subst e1; subst e0
      simp only [Prod.mk.injEq] at e
      refine ⟨n0, n1, ⟨limbs n0, cs.drop 4, ?_, ⟨b0, rfl⟩, limbs n1, [], ?_, ⟨b1, rfl⟩, rfl⟩, ?_⟩
      · rw [← q0]; simp
      · rw [← q1, List.append_nil]; exact (List.take_of_length_le (by simp; omega)).symm
      · rw [← e.2]; rfl
    · cases h
set_option maxRecDepth 20000 in
theorem open_pair {H : Type} {enc : TypeId × Value → H} {w : World} {base : Nat} {sp : Nat → Bool} {held : Bool} {r : Reach} {b0 : Nat} {v : Value} {d : DataW H} {ps : List MemPlace} (h : Value.okWide Try.prog w r b0 102 v) (hd : DataW.Trod enc Try.prog w base sp held 102 v d ps) : ∃ a b : Nat, AB.rel noG (.agg [.num a, .num b]) v ∧ ps = [] := by
  obtain ⟨cs, rfl⟩ := open_agg (.inr ⟨_, _, u102⟩) h
  obtain ⟨fuel, hf⟩ := hd
  obtain ⟨a, b, h1, h2⟩ := trod_pair hf
  exact ⟨a, b, ⟨cs, rfl, h1⟩, h2⟩
def zs (n : Nat) : Value := .agg (Array.replicate n (.int .u64 0))
set_option maxRecDepth 100000 in
theorem groupsClosed_lifted (os : Os) (started : os.Started) (H : Type) (enc : TypeId × Value → H) :
    ReturnsInHanded {} Try.checked os 18 .any (Rows.groupsClosedSpec.pre6 enc Try.prog Try.f18 Rows.groupsClosedRow.domain false) (Rows.groupsClosedSpec.post enc Try.prog Try.f18 false true false false) := by
  refine returnsInHanded_of_change (C := Try.checked) Try.own started (by kernel_rfl) Try.func18
    (ChangeSpec.witness6 (enc := enc) (C := Try.checked) false ⟨#[], #[zs 16, zs 8, zs 4], []⟩ 8 (by kernel_rfl) (by kernel_rfl) (by kernel_rfl) (by kernel_rfl)) ?_
  intro W base args ds gs before hval0 hW hcnd _
  have hval : ∀ (j : Nat) t v, Try.f18.params[j]? = some t → args[j]? = some v → Value.okWide Try.prog W .any base t v := hval0
  have hW' := hW
  obtain ⟨p, q, hA0, hV, hbq, hfz, hnd⟩ := hW
  have hA : DataW.TrodAll enc Try.prog W 0 (fun _ => true) true Try.f18.params.toList args.toList ds p := hA0
  have hA1 := hA
  rw [Try.params18] at hA hval
  obtain ⟨v0, v1, v2, d0, d1, d2, p0, p1, p2, rfl, rfl, hp, h0, h1, h2⟩ := trodAll_three hA
  obtain ⟨rfl, rfl⟩ := trodVars_none hV
  obtain ⟨g, r0, rfl⟩ := open_grp (hval 0 45 v0 rfl rfl) h0
  obtain ⟨a, b, r1, rfl⟩ := open_pair (hval 1 102 v1 rfl rfl) h1
  obtain ⟨n, r2, rfl⟩ := open_num (hval 2 26 v2 rfl rfl) h2
  refine (calls_GroupsClosed g a b n r0 r1 r2 W).mono fun e W' ⟨he, hw⟩ => ?_
  subst he
  exact ⟨_, rfl, post_true (q := []) Try.laidOut hW' hA1 hbq (by decide +kernel) rfl rfl rfl und4 rfl rfl rfl hw⟩

set_option maxRecDepth 100000 in
theorem groupsClosed_facts : joinedFacts Try.prog 18 Try.f18 Rows.groupsClosedSpec Rows.groupsClosedRow = true := by
  unfold joinedFacts
  repeat' (with_reducible refine and_t ?_ ?_)
  all_goals first
    | with_reducible exact may_enter
    | with_reducible exact Try.laidOut
    | with_reducible exact io_maps
    | with_reducible exact io_heard
    | with_reducible exact io_stops
    | ((with_reducible refine io_lift ?_); rfl)
    | ((with_reducible refine io_make ?_); rfl)
    | kernel_rfl

theorem groupsClosed_holds : Rows.GroupsClosedSaid :=
  OpenClaim.holds_of_wide 18 Try.f18 rfl rfl rfl rfl rfl rfl rfl ⟨rfl, rfl, rfl, rfl, rfl⟩ rfl rfl rfl rfl rfl (by kernel_rfl) Try.func18 groupsClosed_facts
    (of_decide_eq_true (by kernel_rfl)) (by unfold Func.isWrapper; rw [if_neg (by decide +kernel)]; exact ⟨rfl, rfl⟩)
    (fun os started H enc _ => groupsClosed_lifted os started H enc)
end Go.Proofs.Ytacjiajijigebaa
