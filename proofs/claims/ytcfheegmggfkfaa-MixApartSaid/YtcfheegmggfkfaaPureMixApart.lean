/- MixApart: for every three numbers of 64 bits, two that differ are mixed with one number to two that differ, and equal ones to equal ones. No condition. -/
import Derived.Test.YtcfheegmggfkfaaPMixApartx1
import Derived.Test.YtcfheegmggfkfaaMixLaws
namespace Go.Proofs.Ytcfheegmggfkfaa.Pure
open Go.RowKit Go.Proofs.Ytcfheegmggfkfaa.PMixApart Go.Proofs.YtcfheegmggfkfaaW.PrintWords Go.Proofs.YtcfheegmggfkfaaW.PrintLast

theorem apart_alive : warrenerlaw03_alive.f 1 = some true := by decide +kernel

theorem range_of {a : Int} (h : (Lit.int .u64 a).wf = true) : 0 ≤ a ∧ a < 18446744073709551616 := by
  have h2 : (decide (IntKind.u64.min ≤ a) && decide (a ≤ IntKind.u64.max)) = true := h
  have e1 : IntKind.u64.min = 0 := by decide +kernel
  have e2 : IntKind.u64.max = 18446744073709551615 := by decide +kernel
  rw [e1, e2, Bool.and_eq_true, decide_eq_true_eq, decide_eq_true_eq] at h2
  omega

theorem mix_as (a b : Int) : mix_Mix.f a b = some (MixLaws.half (MixLaws.fore ((IntKind.u64.wrap (11400714819323198485 * a) + b) % 18446744073709551616) * 13787848793156543929 % 18446744073709551616)) := by
  unfold mix_Mix.f MixLaws.half MixLaws.fore
  rw [← MixLaws.wrap64u, ← MixLaws.wrap64u]

theorem mix_inj (a b c : Int) (hb : 0 ≤ b ∧ b < 18446744073709551616) (hc : 0 ≤ c ∧ c < 18446744073709551616)
    (h : mix_Mix.f a b = mix_Mix.f a c) : b = c := by
  rw [mix_as, mix_as] at h
  exact MixLaws.all_inj _ b c hb hc (Option.some.inj h)

theorem MixApart : warrenerlaw03_MixApart.Pure := by
  intro a b c _ hb hc
  have hb := range_of hb
  have hc := range_of hc
  refine ⟨1, ?_⟩
  unfold warrenerlaw03_MixApart.f
  rw [apart_alive]
  simp only [Option.bind_some, if_true]
  have hx : mix_Mix.f a b = some ((mix_Mix.f a b).getD 0) := by unfold mix_Mix.f; rfl
  have hy : mix_Mix.f a c = some ((mix_Mix.f a c).getD 0) := by unfold mix_Mix.f; rfl
  rw [hx, hy]
  simp only [Option.bind_some, Option.some.injEq, beq_iff_eq]
  by_cases h : b = c
  · subst h; simp
  · have hne : (mix_Mix.f a b).getD 0 ≠ (mix_Mix.f a c).getD 0 := by
      intro e
      exact h (mix_inj a b c hb hc (by rw [hx, hy, e]))
    have e1 : ((mix_Mix.f a b).getD 0 == (mix_Mix.f a c).getD 0) = false := beq_eq_false_iff_ne.mpr hne
    have e2 : (b == c) = false := beq_eq_false_iff_ne.mpr h
    rw [e1, e2]

end Go.Proofs.Ytcfheegmggfkfaa.Pure
