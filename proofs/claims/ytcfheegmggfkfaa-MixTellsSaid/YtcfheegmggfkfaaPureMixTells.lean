/- MixTells: for every two numbers of 64 bits the mixed number is as the page says. No condition. -/
import Derived.Test.YtcfheegmggfkfaaPMixTellsx1
import Derived.Test.YtcfheegmggfkfaaMixLaws
namespace Go.Proofs.Ytcfheegmggfkfaa.Pure
open Go.RowKit Go.Proofs.Ytcfheegmggfkfaa.PMixTells Go.Proofs.YtcfheegmggfkfaaW.PrintWords Go.Proofs.YtcfheegmggfkfaaW.PrintLast

theorem tells_alive : warrenerlaw03_alive.f 1 = some true := by decide +kernel

theorem quot_wrap (x d : Int) (hx0 : 0 ≤ x) (hx : x < 18446744073709551616) (hd : 0 < d) : IntKind.u64.wrap (Int.tdiv x d) = x / d := by
  rw [MixLaws.wrap64u, Int.tdiv_eq_ediv_of_nonneg hx0]
  have h1 : 0 ≤ x / d := Int.ediv_nonneg hx0 (by omega)
  have h2 : x / d ≤ x := Int.ediv_le_self _ hx0
  exact Int.emod_eq_of_lt h1 (by omega)

theorem step_same (a b : Int) : warrenerlaw03_step.f a b = mix_Mix.f a b := by
  unfold warrenerlaw03_step.f mix_Mix.f
  have hr : ∀ n : Int, 0 ≤ IntKind.u64.wrap n ∧ IntKind.u64.wrap n < 18446744073709551616 := by
    intro n; rw [MixLaws.wrap64u]; omega
  rw [Int.mul_comm a]
  rw [quot_wrap _ 4294967296 (hr _).1 (hr _).2 (by omega)]
  rw [quot_wrap _ 536870912 (hr _).1 (hr _).2 (by omega)]

theorem MixTells : warrenerlaw03_MixTells.Pure := by
  intro a b _ _
  refine ⟨1, ?_⟩
  unfold warrenerlaw03_MixTells.f
  rw [tells_alive]
  simp only [Option.bind_some, if_true]
  rw [step_same]
  have hx : mix_Mix.f a b = some ((mix_Mix.f a b).getD 0) := by unfold mix_Mix.f; rfl
  rw [hx]
  simp

end Go.Proofs.Ytcfheegmggfkfaa.Pure
