/- Whether any number below 2^32 is prime is told as documented, whatever the number. No condition. -/
import Derived.Test.YtacjiajijigebaaRows
import Derived.Test.YtacjiajijigebaaIo
import Derived.Test.YtacjiajijigebaaPs
import Derived.Test.YtacjiajijigebaaRw
namespace Go.Proofs.Ytacjiajijigebaa
open Go Go.Ev Go.ChangeShapes Go.WideShapes Go.ChangeAt Go.RowKit

theorem und4 : Try.prog.underlying 4 = some .bool := by kernel_rfl

theorem calls_PrimesSmall (x : Int) (hx : IntKind.has .u64 x) (w : World) : Calls Try.prog 3 #[.int .u64 x] w fun e w' => e = .returned (.bool true) ∧ Fr (fun _ => False) w w' := by
  refine calls_true (cxK [smallK, smallRK]) (xs := [aU x]) (vs := [.int .u64 x]) Try.func3 rfl (Nat.le_of_ble_eq_true rfl) ⟨_, _, rfl, ⟨rfl, hx⟩, rfl⟩ ?_
  refine ⟨trivial, trivial, ?_, trivial⟩
  simp

set_option maxRecDepth 100000 in
theorem primesSmall_lifted (os : Os) (started : os.Started) (H : Type) (enc : TypeId × Value → H) :
    ReturnsInHanded {} Try.checked os 3 .any (Rows.primesSmallSpec.pre6 enc Try.prog Try.f3 Rows.primesSmallRow.domain false) (Rows.primesSmallSpec.post enc Try.prog Try.f3 false true false false) := by
  refine returnsInHanded_of_change (C := Try.checked) Try.own started (by kernel_rfl) Try.func3
    (ChangeSpec.witness6 (enc := enc) (C := Try.checked) false ⟨#[], #[.int .u64 0], []⟩ 8 (by kernel_rfl) (by kernel_rfl) (by kernel_rfl) (by kernel_rfl)) ?_
  intro W base args ds gs before hval0 hW hcnd _
  have hval : ∀ (j : Nat) t v, Try.f3.params[j]? = some t → args[j]? = some v → Value.okWide Try.prog W .any base t v := hval0
  have hW' := hW
  obtain ⟨p, q, hA0, hV, hbq, hfz, hnd⟩ := hW
  have hA : DataW.TrodAll enc Try.prog W 0 (fun _ => true) true Try.f3.params.toList args.toList ds p := hA0
  have hA1 := hA
  rw [Try.params3] at hA hval
  obtain ⟨v0, d0, rfl, rfl, h0⟩ := trodAll_one hA
  obtain ⟨rfl, rfl⟩ := trodVars_none hV
  obtain ⟨a, rfl, rfl, rfl, wa⟩ := open_int und22 (hval 0 22 v0 rfl rfl) h0
  refine (calls_PrimesSmall a (has_wf wa) W).mono fun e W' ⟨he, hw⟩ => ?_
  subst he
  exact ⟨_, rfl, post_true (q := []) Try.laidOut hW' hA1 hbq (by decide +kernel) rfl rfl rfl und4 rfl rfl rfl hw⟩

set_option maxRecDepth 100000 in
theorem primesSmall_facts : joinedFacts Try.prog 3 Try.f3 Rows.primesSmallSpec Rows.primesSmallRow = true := by
  unfold joinedFacts
  repeat' (with_reducible refine and_t ?_ ?_)
  all_goals first
    | with_reducible exact may_enter
    | with_reducible exact Try.laidOut
    | with_reducible exact io_maps
    | with_reducible exact io_heard
    | with_reducible exact io_stops
    | ((with_reducible refine io_lift ?_); rfl)
    | ((with_reducible refine io_make ?_); rfl)
    | kernel_rfl

theorem primesSmall_holds : Rows.PrimesSmallSaid :=
  OpenClaim.holds_of_wide 3 Try.f3 rfl rfl rfl rfl rfl rfl rfl ⟨rfl, rfl, rfl, rfl, rfl⟩ rfl rfl rfl rfl rfl (by kernel_rfl) Try.func3 primesSmall_facts
    (of_decide_eq_true (by kernel_rfl)) (by unfold Func.isWrapper; rw [if_neg (by decide +kernel)]; exact ⟨rfl, rfl⟩)
    (fun os started H enc _ => primesSmall_lifted os started H enc)
end Go.Proofs.Ytacjiajijigebaa
