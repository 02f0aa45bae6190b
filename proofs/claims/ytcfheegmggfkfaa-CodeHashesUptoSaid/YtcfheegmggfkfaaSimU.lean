/- Steps through drawn regions, by name. Of no program. -/
import Derived.Test.YtcfheegmggfkfaaSimT
namespace Go.Sim
open Go.RowKit Go.Proofs.Ytcfheegmggfkfaa.B
variable {P : Program} {K : St → Prop} {s : St}
theorem T_step {it : AIt} {t : ATree} (h : itW P it s (treeW P K t)) : treeW P K (.step it t) s := h
theorem T_both {t u : ATree} (h : treeW P K t s) (k : treeW P K u s) : treeW P K (.both t u) s := ⟨h, k⟩
theorem T_done (h : K s) : treeW P K .done s := h
theorem codeW_mono {n0 : Nat} {x : ACode} {Q Q2 : Exit → St → Prop} (h : codeW P n0 x Q s) (hq : ∀ e s, Q e s → Q2 e s) : codeW P n0 x Q2 s :=
  fun c N htr w0 env0 bad0 fps base a w Q' e r hQ => h c N htr w0 env0 bad0 fps base a w Q' e r fun e s' a' w' q r' => hQ e s' a' w' (hq e s' q) r'
theorem codeW_any_mid {n0 : Nat} {Q : Exit → St → Prop} {t : ATree} (s1 : St) (h : treeW P (fun s' => Weak n0 s' s1) t s) (k : ∀ s', Weak n0 s' s1 → Q .normal s') : codeW P n0 (.any t) Q s :=
  codeW_mono (Q := fun e s' => e = .normal ∧ Weak n0 s' s1) (codeW_any (by simpa using h)) fun e s' q => by
    obtain ⟨rfl, hw⟩ := q
    exact k s' hw
theorem frz_full {id sz : Nat} {ls : List (List PV)} {n : Nat} {c : Cap} (h : n = ls.length) : frzAC id sz ls (.own id 0 sz n c) (.p (.sl sz ls)) := by
  subst h
  exact .inr ⟨0, ls.length, c, rfl, by omega, by simp⟩
theorem frz_turn {k id sz : Nat} {ls : List (List PV)} {r r' : Reg} (h : Nat.beq k id = false) (hr : frzReg id sz ls r r') : if k = id then r' = .dead else frzReg id sz ls r r' := by
  rw [if_neg (Nat.ne_of_beq_eq_false h)]
  exact hr
end Go.Sim
