/- Whatever the number, Wilson's sentence is as told: the row. No condition. -/
import Derived.Test.YtacjiajijigebaaRows
import Derived.Test.YtacjiajijigebaaIo
import Derived.Test.YtacjiajijigebaaWk
namespace Go.Proofs.Ytacjiajijigebaa
open Go Go.Ev Go.ChangeShapes Go.WideShapes Go.ChangeAt Go.RowKit

theorem und4 : Try.prog.underlying 4 = some .bool := by kernel_rfl
theorem und86 : Try.prog.underlying 86 = some (.int .u16) := by kernel_rfl

set_option maxRecDepth 100000 in
theorem primesWilson_lifted (os : Os) (started : os.Started) (H : Type) (enc : TypeId × Value → H) :
    ReturnsInHanded {} Try.checked os 14 .any (Rows.primesWilsonSpec.pre6 enc Try.prog Try.f14 Rows.primesWilsonRow.domain false) (Rows.primesWilsonSpec.post enc Try.prog Try.f14 false true false false) := by
  refine returnsInHanded_of_change (C := Try.checked) Try.own started (by kernel_rfl) Try.func14
    (ChangeSpec.witness6 (enc := enc) (C := Try.checked) false ⟨#[], #[.int .u16 0], []⟩ 8 (by kernel_rfl) (by kernel_rfl) (by kernel_rfl) (by kernel_rfl)) ?_
  intro W base args ds gs before hval0 hW hcnd _
  have hval : ∀ (j : Nat) t v, Try.f14.params[j]? = some t → args[j]? = some v → Value.okWide Try.prog W .any base t v := hval0
  have hW' := hW
  obtain ⟨p, q, hA0, hV, hbq, hfz, hnd⟩ := hW
  have hA : DataW.TrodAll enc Try.prog W 0 (fun _ => true) true Try.f14.params.toList args.toList ds p := hA0
  have hA1 := hA
  rw [Try.params14] at hA hval
  obtain ⟨v0, d0, rfl, rfl, h0⟩ := trodAll_one hA
  obtain ⟨rfl, rfl⟩ := trodVars_none hV
  obtain ⟨a, rfl, rfl, rfl, wa⟩ := open_int und86 (hval 0 86 v0 rfl rfl) h0
  refine (calls_PrimesWilson a (has_wf wa) W).mono fun e W' ⟨he, hw⟩ => ?_
  subst he
  exact ⟨_, rfl, post_true (q := []) Try.laidOut hW' hA1 hbq (by decide +kernel) rfl rfl rfl und4 rfl rfl rfl hw⟩

set_option maxRecDepth 100000 in
theorem primesWilson_facts : joinedFacts Try.prog 14 Try.f14 Rows.primesWilsonSpec Rows.primesWilsonRow = true := by
  unfold joinedFacts
  repeat' (with_reducible refine and_t ?_ ?_)
  all_goals first
    | with_reducible exact may_enter
    | with_reducible exact Try.laidOut
    | with_reducible exact io_maps
    | with_reducible exact io_heard
    | with_reducible exact io_stops
    | ((with_reducible refine io_lift ?_); rfl)
    | ((with_reducible refine io_make ?_); rfl)
    | kernel_rfl

theorem primesWilson_holds : Rows.PrimesWilsonSaid :=
  OpenClaim.holds_of_wide 14 Try.f14 rfl rfl rfl rfl rfl rfl rfl ⟨rfl, rfl, rfl, rfl, rfl⟩ rfl rfl rfl rfl rfl (by kernel_rfl) Try.func14 primesWilson_facts
    (of_decide_eq_true (by kernel_rfl)) (by unfold Func.isWrapper; rw [if_neg (by decide +kernel)]; exact ⟨rfl, rfl⟩)
    (fun os started H enc _ => primesWilson_lifted os started H enc)
end Go.Proofs.Ytacjiajijigebaa
