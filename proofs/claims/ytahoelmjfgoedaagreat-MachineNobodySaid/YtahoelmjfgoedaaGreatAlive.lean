/- The program is alive: its first look, reckoned. -/
import Derived.Test.YtahoelmjfgoedaaGreatTab
import Derived.Test.YtahoelmjfgoedaaGreatSimRt
import Derived.KernelRfl
namespace Go.Sim
open Go.RowKit Go.Proofs.YtahoelmjfgoedaaGreat.T Go.Proofs.YtahoelmjfgoedaaGreat.B
set_option linter.unusedVariables false
noncomputable def bk0 : Book := ⟨Go.Proofs.Tryz.prog, tab, lps, fun _ _ _ => none, fun _ => false⟩
theorem bk0_ok : bk0.Ok := ⟨tab_ok, lps_ok, ⟨(fun _ _ _ _ _ h => by cases h), (fun _ _ _ _ _ h => by cases h)⟩⟩
theorem alive29 : bk0.evalK 40 30 (.fn 15) [] [] = some (.c (.p (.v (.bool true))), []) := by kernel_rfl
/-- What is told over no rows is told over any. -/
theorem FS.over {P : Program} {f : Nat} {b : Bool} (h : FS P f [] [] fun r rg => r = .c (.p (.v (.bool b))) ∧ rg = []) (rg : List Reg) : FS P f [] rg fun r rg' => r = .c (.p (.v (.bool b))) ∧ rg' = rg := by
  refine (FS.frame h rg [] List.nodup_nil trivial).mono fun r rg' ⟨r0, m, ⟨e1, e2⟩, e3, e4⟩ => ?_
  subst e1 e2
  exact ⟨e3, by rw [e4]; simp [setAll]⟩
theorem alive_FS (rg : List Reg) : FS Go.Proofs.Tryz.prog 15 [] rg fun r rg' => r = .c (.p (.v (.bool true))) ∧ rg' = rg :=
  FS.over ((Book.evalK_ok bk0_ok 40 30).fn 15 [] [] _ _ alive29) rg
noncomputable def O0 : CallF := fun k args rg => match k, args with
  | .fn 15, [] => some (Bo true, rg)
  | _, _ => none
theorem O0_ok : CallOk Go.Proofs.Tryz.prog O0 := by
  refine ⟨fun f args regs r rg h => ?_, fun id args regs r rg h => ?_⟩
  · unfold O0 at h
    split at h
    · rename_i e
      cases e
      cases h
      exact alive_FS _
    · cases h
  · unfold O0 at h
    split at h
    · rename_i e; cases e
    · cases h
/-- The book of the program. -/
noncomputable def bk : Book := ⟨Go.Proofs.Tryz.prog, tab, lps, O0, fun _ => false⟩
theorem bk_ok : bk.Ok := ⟨tab_ok, lps_ok, O0_ok⟩
theorem bkT : bk.T = tab := _root_.id rfl
theorem bkP : bk.P = Go.Proofs.Tryz.prog := _root_.id rfl
@[simp] theorem bkZ (f : Nat) : bk.Z f = false := _root_.id rfl
theorem alive_run (rg : List Reg) : bk.run (.fn 15) [] rg = some (Bo true, rg) := Book.run_or _root_.rfl

/-! ### From a run to a call in a world -/
def nobad : Nat → Prop := fun _ => False
def noEnv : Env := ⟨0, fun _ => none⟩
theorem rs_init {P : Program} (W : World) : RS P W W [] nobad noEnv [] where
  keep := Keep.of_below (Below.refl _ _)
  base_lt := fun b h => h.elim
  len := rfl
  reg := fun id r h => by simp at h
  own := fun id r g c h => by simp at h
  inj := fun i j r r' g c c' h => by simp at h
theorem prel_init {W : World} {x : PV} {v : Value} (h : PRel W nobad x v) : PRel W (badOf nobad noEnv []) x v :=
  PRel.step (Same.mk (Nat.le_refl _) fun _ _ _ => rfl) (fun b _ hb => by
    rcases hb with hb | ⟨id, r, c, h1, _⟩
    · exact hb
    · simp at h1) h
theorem vrel_one {W : World} {x : PV} {v : Value} (h : PRel W nobad x v) : VRel W noEnv (badOf nobad noEnv []) (.c (.p x)) v := .c (prel_init h)
/-- A law that tells true. -/
theorem law_calls {P : Program} {f : Nat} {args : List AV} {vs : List Value} (W : World) (h : FS P f args [] fun res rg => res = .c (.p (.v (.bool true))) ∧ rg = []) (ha : All2 (VRel W noEnv (badOf nobad noEnv [])) args vs) :
    Calls P f vs.toArray W fun e W' => e = .returned (.bool true) ∧ Below W.heap.size W W' := by
  refine (h.2 W [] nobad noEnv vs (rs_init W) ha).mono fun e W' hh => ?_
  obtain ⟨v, res, rg, env', rfl, ⟨rfl, rfl⟩, hrs, hv, _⟩ := hh
  have := (val_of hv (x := .bool true) rfl).1
  exact ⟨by rw [this], hrs.keep.below⟩
end Go.Sim
