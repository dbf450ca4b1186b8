/- A power by an exponent that has an inverse is undone: the row. No condition. -/
import Derived.Test.YtacjiajijigebaaGd
import Derived.Test.YtacjiajijigebaaGr
namespace Go.Proofs.Ytacjiajijigebaa
open Go Go.Ev Go.ChangeShapes Go.WideShapes Go.ChangeAt Go.RowKit

set_option maxRecDepth 100000 in
theorem groupsRoot_lifted (os : Os) (started : os.Started) (H : Type) (enc : TypeId × Value → H) :
    ReturnsInHanded {} Try.checked os 21 .any (Rows.groupsRootSpec.pre6 enc Try.prog Try.f21 Rows.groupsRootRow.domain false) (Rows.groupsRootSpec.post enc Try.prog Try.f21 false true false false) := by
  refine returnsInHanded_of_change (C := Try.checked) Try.own started (by kernel_rfl) Try.func21
    (ChangeSpec.witness6 (enc := enc) (C := Try.checked) false ⟨#[], #[zs 16, zs 8, zs 4], []⟩ 8 (by kernel_rfl) (by kernel_rfl) (by kernel_rfl) (by kernel_rfl)) ?_
  intro W base args ds gs before hval0 hW hcnd _
  have hval : ∀ (j : Nat) t v, Try.f21.params[j]? = some t → args[j]? = some v → Value.okWide Try.prog W .any base t v := hval0
  have hW' := hW
  obtain ⟨p, q, hA0, hV, hbq, hfz, hnd⟩ := hW
  have hA : DataW.TrodAll enc Try.prog W 0 (fun _ => true) true Try.f21.params.toList args.toList ds p := hA0
  have hA1 := hA
  rw [Try.params21] at hA hval
  obtain ⟨v0, v1, v2, d0, d1, d2, p0, p1, p2, rfl, rfl, hp, h0, h1, h2⟩ := trodAll_three hA
  obtain ⟨rfl, rfl⟩ := trodVars_none hV
  obtain ⟨g, r0, rfl⟩ := open_grp (hval 0 45 v0 rfl rfl) h0
  obtain ⟨a, b, r1, rfl⟩ := open_pair (hval 1 102 v1 rfl rfl) h1
  obtain ⟨n, r2, rfl⟩ := open_num (hval 2 26 v2 rfl rfl) h2
  refine (calls_GroupsRoot g a b n r0 r1 r2 W).mono fun e W' ⟨he, hw⟩ => ?_
  subst he
  exact ⟨_, rfl, post_true (q := []) Try.laidOut hW' hA1 hbq (by decide +kernel) rfl rfl rfl und4 rfl rfl rfl hw⟩

set_option maxRecDepth 100000 in
theorem groupsRoot_facts : joinedFacts Try.prog 21 Try.f21 Rows.groupsRootSpec Rows.groupsRootRow = true := by
  unfold joinedFacts
  repeat' (with_reducible refine and_t ?_ ?_)
  all_goals first
    | with_reducible exact may_enter
    | with_reducible exact Try.laidOut
    | with_reducible exact io_maps
    | with_reducible exact io_heard
    | with_reducible exact io_stops
    | ((with_reducible refine io_lift ?_); rfl)
    | ((with_reducible refine io_make ?_); rfl)
    | kernel_rfl

theorem groupsRoot_holds : Rows.GroupsRootSaid :=
  OpenClaim.holds_of_wide 21 Try.f21 rfl rfl rfl rfl rfl rfl rfl ⟨rfl, rfl, rfl, rfl, rfl⟩ rfl rfl rfl rfl rfl (by kernel_rfl) Try.func21 groupsRoot_facts
    (of_decide_eq_true (by kernel_rfl)) (by unfold Func.isWrapper; rw [if_neg (by decide +kernel)]; exact ⟨rfl, rfl⟩)
    (fun os started H enc _ => groupsRoot_lifted os started H enc)
end Go.Proofs.Ytacjiajijigebaa
