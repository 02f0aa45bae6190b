/- A program's functions, run over the picture, out of a table of their codes. Of no program. -/
import Derived.Test.YtahoelmjfgoedaaGreatSimY
namespace Go.Sim
open Go.RowKit Go.Proofs.YtahoelmjfgoedaaGreat.B
set_option linter.unusedVariables false

/-- A function's code in the picture, how many slots it has, and where its results lie. -/
structure FnT where
  nt : Nat
  code : ACode
  res : List RV
def trF (P : Program) (f : Nat) : Option FnT :=
  (P.funcs[f]?).bind fun fn => if (fn.name == "runtime.NumGoroutine") = false then fn.body.bind fun c => (trCode P fn.ntmps f 0 c).bind fun ac => (allOf (trR P) fn.results.toList).map fun rs => ⟨fn.ntmps, ac, rs⟩ else none
/-- What a table tells is right, from the function k on. -/
def TabOk (P : Program) : Nat → List (Option (FnT × KT)) → Prop
  | _, [] => True
  | k, some (t, _) :: r => trF P k = some t ∧ TabOk P (k + 1) r
  | k, none :: r => TabOk P (k + 1) r
theorem TabOk.get {P : Program} : ∀ {k : Nat} {l : List (Option (FnT × KT))}, TabOk P k l → ∀ {i : Nat} {t : FnT × KT}, l[i]? = some (some t) → trF P (k + i) = some t.1
  | k, some t :: r, h, 0, u, hi => by cases hi; exact h.1
  | k, none :: r, h, 0, u, hi => by cases hi
  | k, some t :: r, h, i + 1, u, hi => by
    have := TabOk.get (i := i) h.2 (by simpa using hi)
    rwa [show k + 1 + i = k + (i + 1) by omega] at this
  | k, none :: r, h, i + 1, u, hi => by
    have := TabOk.get (k := k + 1) (l := r) (i := i) h (by simpa using hi)
    rwa [show k + 1 + i = k + (i + 1) by omega] at this
  | _, [], _, _, _, hi => by simp at hi
theorem TabOk.append {P : Program} : ∀ {k : Nat} {l m : List (Option (FnT × KT))}, TabOk P k l → TabOk P (k + l.length) m → TabOk P k (l ++ m)
  | k, [], m, _, h => by simpa using h
  | k, some t :: r, m, h, h' => ⟨h.1, TabOk.append h.2 (by rw [show k + 1 + r.length = k + (some t :: r).length by simp; omega]; exact h')⟩
  | k, none :: r, m, h, h' => TabOk.append (k := k + 1) (l := r) h (by rw [show k + 1 + r.length = k + (none :: r : List (Option (FnT × KT))).length by simp; omega]; exact h')

theorem TabOk.cons {P : Program} {k : Nat} {t : FnT} {kt : KT} {r : List (Option (FnT × KT))} (h : trF P k = some t) (h2 : TabOk P (k + 1) r) : TabOk P k (some (t, kt) :: r) := ⟨h, h2⟩
theorem TabOk.skip {P : Program} {k : Nat} {r : List (Option (FnT × KT))} (h2 : TabOk P (k + 1) r) : TabOk P k (none :: r) := h2
theorem TabOk.done {P : Program} {k : Nat} : TabOk P k [] := trivial

/-- A loop over a function: how many slots; its parameters, its assignments, its body. -/
structure LpT where
  N : Nat
  ps : List Nat
  as : ACode
  bd : ACode
  ka : KT
  kb : KT
def trLp (P : Program) (f j : Nat) : Option (Nat × List Nat × ACode × ACode) :=
  (lpOf P f j).bind fun q => (trCode P q.2 f 0 q.1.asg).bind fun x => (trCode P q.2 f 0 q.1.body).bind fun y =>
    if ((codeLoops q.1.asg).isEmpty && ((codeLoops q.1.body).isEmpty && q.1.ps.toList.all fun t => decide (t < q.2))) = true then some (q.2, q.1.ps.toList, x, y) else none
end Go.Sim
