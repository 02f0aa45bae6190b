/- A machine that nobody made, or nil, does nothing. -/
import Derived.Test.YtahoelmjfgoedaaGreatAlive
import Derived.IntWalk
namespace Go.Sim
open Go.RowKit Go.Proofs.YtahoelmjfgoedaaGreat.T
set_option linter.unusedVariables false
set_option linter.unusedSimpArgs false
def inB (n lo hi : Int) : Bool := decide (lo ≤ n) && decide (n ≤ hi)
@[simp] theorem in_run (n lo hi : Int) (rg : List Reg) : bk.run (.fn 71) [I .i64 n, I .i64 lo, I .i64 hi] rg = some (Bo (inB n lo hi), rg) := by
  rw [Book.run_fn (B := bk) T71 rfl (Nat.le_of_ble_eq_true rfl)]
  by_cases h : lo ≤ n <;> simp [t71, k71, h, inB]
abbrev nilp : AV := .c (.p (.v (.pointer none)))
@[simp] theorem xE_nilq (k : Nat) (neg : Bool) (v : AV) (rg : List Reg) : xE (.nilq k neg) [v] rg = (nilOf k v).map fun b => (Bo (if neg then !b else b), rg) := by
  show (match nilOf k v with | some b => some (Bo (if neg then !b else b), rg) | none => none) = _
  cases nilOf k v <;> rfl
@[simp] theorem nilOf_p0 : nilOf 0 nilp = some true := _root_.id rfl
@[simp] theorem nilOf_p1 (id off : Nat) : nilOf 0 (.c (.ptr id off)) = some false := _root_.id rfl
@[simp] theorem nilOf_s0 : nilOf 1 (.c (.p (.v (.slice none 0 0)))) = some true := _root_.id rfl
@[simp] theorem none_nil (rg : List Reg) : bk.run (.fn 68) [nilp] rg = some (Bo true, rg) := by
  rw [Book.run_fn (B := bk) T68 rfl (Nat.le_of_ble_eq_true rfl)]
  simp [t68, k68]
abbrev i0 : AC := .p (.v (.int .i64 0))
abbrev u0 : AC := .p (.v (.int .u64 0))
abbrev b0 : AC := .p (.v (.bool false))
abbrev p0 : AC := .p (.v (.pointer none))
abbrev s0 : AC := .p (.v (.slice none 0 0))
def odd : List AC := [p0, p0, u0, u0, u0, u0, u0, u0, u0, u0, u0, b0, b0, b0, b0, b0, i0, i0, i0, s0, i0, i0, i0, i0, i0, s0, s0, s0]
def isOdd (rg : List Reg) (m : Nat) : Prop := rg[m]? = some (.ac odd)
@[simp] theorem ldodd {rg : List Reg} {m : Nat} (h : rg[m]? = some (.ac odd)) (off n : Nat) (agg : Bool) : vloadA off n agg rg[m]? = if off + n ≤ 28 then pack agg ((odd.drop off).take n) else none := by
  rw [h]; rfl
theorem getApp {rg : List Reg} {m : Nat} {x : Reg} (h : rg[m]? = some x) (l : List Reg) : (rg ++ l)[m]? = some x := by
  rw [List.getElem?_append_left (List.getElem?_eq_some_iff.1 h).1]; exact h
theorem lt_of_get {rg : List Reg} {m : Nat} {x : Reg} (h : rg[m]? = some x) : m < rg.length := (List.getElem?_eq_some_iff.1 h).1
theorem none_odd {rg : List Reg} {m : Nat} (h : rg[m]? = some (.ac odd)) : bk.run (.fn 68) [.c (.ptr m 0)] rg = some (Bo true, rg) := by
  rw [Book.run_fn (B := bk) T68 rfl (Nat.le_of_ble_eq_true rfl)]
  simp [t68, k68, h, odd]
@[simp] theorem ag_nil (rg : List Reg) : bk.run (.fn 53) [nilp] rg = some (I .i64 0, rg) := by
  rw [Book.run_fn (B := bk) T53 rfl (Nat.le_of_ble_eq_true rfl)]
  simp [t53, k53]
theorem ag_odd {rg : List Reg} {m : Nat} (h : rg[m]? = some (.ac odd)) : bk.run (.fn 53) [.c (.ptr m 0)] rg = some (I .i64 0, rg) := by
  rw [Book.run_fn (B := bk) T53 rfl (Nat.le_of_ble_eq_true rfl)]
  simp [t53, k53, none_odd h]
@[simp] theorem inF (a : Int) : inB a 0 (-1) = false := by
  unfold inB
  by_cases h : (0 : Int) ≤ a
  · have : ¬ a ≤ -1 := by omega
    simp [this]
  · simp [h]
@[simp] theorem wrap64 {n : Int} (h1 : -9223372036854775808 ≤ n) (h2 : n < 9223372036854775808) : IntKind.i64.wrap n = n := by
  exact Go.IntWalk.i64_in n ⟨h1, by omega⟩
@[simp] theorem can_nil (rg : List Reg) (a : Int) : bk.run (.fn 24) [nilp, I .i64 a] rg = some (Bo false, rg) := by
  rw [Book.run_fn (B := bk) T24 rfl (Nat.le_of_ble_eq_true rfl)]
  simp [t24, k24]
theorem can_odd {rg : List Reg} {m : Nat} (h : rg[m]? = some (.ac odd)) (a : Int) : bk.run (.fn 24) [.c (.ptr m 0), I .i64 a] rg = some (Bo false, rg) := by
  rw [Book.run_fn (B := bk) T24 rfl (Nat.le_of_ble_eq_true rfl)]
  simp [t24, k24, ag_odd h]
@[simp] theorem foot_nil (rg : List Reg) (hw : wf rg) (a : Int) : bk.run (.fn 44) [nilp, I .i64 a] rg = some (.tup [.agg [s0, s0], Bo false], rg) := by
  rw [Book.run_fn (B := bk) T44 rfl (Nat.le_of_ble_eq_true rfl)]
  simp [t44, k44, hw]
theorem foot_odd (rg : List Reg) (hw : wf rg) (m : Nat) (h : rg[m]? = some (.ac odd)) (a : Int) : bk.run (.fn 44) [.c (.ptr m 0), I .i64 a] rg = some (.tup [.agg [s0, s0], Bo false], rg) := by
  rw [Book.run_fn (B := bk) T44 rfl (Nat.le_of_ble_eq_true rfl)]
  simp [t44, k44, hw, can_odd, ag_odd, none_odd, h, getApp h]
@[simp] theorem step_nil (rg : List Reg) (hw : wf rg) (a : Int) : bk.run (.fn 25) [nilp, I .i64 a] rg = some (.tup [.c s0, Bo false], rg) := by
  rw [Book.run_fn (B := bk) T25 rfl (Nat.le_of_ble_eq_true rfl)]
  simp [t25, k25, hw]
theorem step_odd (rg : List Reg) (hw : wf rg) (m : Nat) (h : rg[m]? = some (.ac odd)) (a : Int) : bk.run (.fn 25) [.c (.ptr m 0), I .i64 a] rg = some (.tup [.c s0, Bo false], rg) := by
  rw [Book.run_fn (B := bk) T25 rfl (Nat.le_of_ble_eq_true rfl)]
  simp [t25, k25, hw, can_odd, ag_odd, none_odd, h, getApp h]
@[simp] theorem undo_nil (rg : List Reg) (hw : wf rg) : bk.run (.fn 47) [nilp] rg = some (Bo false, rg) := by
  rw [Book.run_fn (B := bk) T47 rfl (Nat.le_of_ble_eq_true rfl)]
  simp [t47, k47, hw]
theorem undo_odd (rg : List Reg) (hw : wf rg) (m : Nat) (h : rg[m]? = some (.ac odd)) : bk.run (.fn 47) [.c (.ptr m 0)] rg = some (Bo false, rg) := by
  rw [Book.run_fn (B := bk) T47 rfl (Nat.le_of_ble_eq_true rfl)]
  simp [t47, k47, hw, can_odd, ag_odd, none_odd, h, getApp h]
@[simp] theorem state_nil (rg : List Reg) (hw : wf rg) : bk.run (.fn 43) [nilp] rg = some (.agg [s0, s0, s0, s0, s0, s0, i0, s0, s0], rg) := by
  rw [Book.run_fn (B := bk) T43 rfl (Nat.le_of_ble_eq_true rfl)]
  simp [t43, k43, hw]
theorem state_odd (rg : List Reg) (hw : wf rg) (m : Nat) (h : rg[m]? = some (.ac odd)) : bk.run (.fn 43) [.c (.ptr m 0)] rg = some (.agg [s0, s0, s0, s0, s0, s0, i0, s0, s0], rg) := by
  rw [Book.run_fn (B := bk) T43 rfl (Nat.le_of_ble_eq_true rfl)]
  simp [t43, k43, hw, can_odd, ag_odd, none_odd, h, getApp h]
@[simp] theorem hash_nil (rg : List Reg) (hw : wf rg) : bk.run (.fn 52) [nilp] rg = some (I .u64 0, rg) := by
  rw [Book.run_fn (B := bk) T52 rfl (Nat.le_of_ble_eq_true rfl)]
  simp [t52, k52, hw]
theorem hash_odd (rg : List Reg) (hw : wf rg) (m : Nat) (h : rg[m]? = some (.ac odd)) : bk.run (.fn 52) [.c (.ptr m 0)] rg = some (I .u64 0, rg) := by
  rw [Book.run_fn (B := bk) T52 rfl (Nat.le_of_ble_eq_true rfl)]
  simp [t52, k52, hw, can_odd, ag_odd, none_odd, h, getApp h]
@[simp] theorem over_nil (rg : List Reg) (hw : wf rg) : bk.run (.fn 22) [nilp] rg = some (Bo false, rg) := by
  rw [Book.run_fn (B := bk) T22 rfl (Nat.le_of_ble_eq_true rfl)]
  simp [t22, k22, hw]
theorem over_odd (rg : List Reg) (hw : wf rg) (m : Nat) (h : rg[m]? = some (.ac odd)) : bk.run (.fn 22) [.c (.ptr m 0)] rg = some (Bo false, rg) := by
  rw [Book.run_fn (B := bk) T22 rfl (Nat.le_of_ble_eq_true rfl)]
  simp [t22, k22, hw, can_odd, ag_odd, none_odd, h, getApp h]
@[simp] theorem steps_nil (rg : List Reg) (hw : wf rg) : bk.run (.fn 26) [nilp] rg = some (I .i64 0, rg) := by
  rw [Book.run_fn (B := bk) T26 rfl (Nat.le_of_ble_eq_true rfl)]
  simp [t26, k26, hw]
theorem steps_odd (rg : List Reg) (hw : wf rg) (m : Nat) (h : rg[m]? = some (.ac odd)) : bk.run (.fn 26) [.c (.ptr m 0)] rg = some (I .i64 0, rg) := by
  rw [Book.run_fn (B := bk) T26 rfl (Nat.le_of_ble_eq_true rfl)]
  simp [t26, k26, hw, can_odd, ag_odd, none_odd, h, getApp h]
@[simp] theorem clone_nil (rg : List Reg) (hw : wf rg) : bk.run (.fn 48) [nilp] rg = some (nilp, rg) := by
  rw [Book.run_fn (B := bk) T48 rfl (Nat.le_of_ble_eq_true rfl)]
  simp [t48, k48, hw]
theorem clone_odd (rg : List Reg) (hw : wf rg) (m : Nat) (h : rg[m]? = some (.ac odd)) : bk.run (.fn 48) [.c (.ptr m 0)] rg = some (nilp, rg) := by
  rw [Book.run_fn (B := bk) T48 rfl (Nat.le_of_ble_eq_true rfl)]
  simp [t48, k48, hw, can_odd, ag_odd, none_odd, h, getApp h]
@[simp] theorem gc_nil (v : AV) (m : List Reg) (hv : avLt 0 v = true) : gcF 0 (v, m) = (v, []) := gc_app v [] m wf_nil hv
theorem fold_odd : Reg.ac [p0, p0, u0, u0, u0, u0, u0, u0, u0, u0, u0, b0, b0, b0, b0, b0, i0, i0, i0, s0, i0, i0, i0, i0, i0, s0, s0, s0] = Reg.ac odd := _root_.rfl
theorem wo1 : wf [Reg.ac odd] := _root_.rfl
theorem wo2 : wf [Reg.ac odd, .ac [s0, s0]] := _root_.rfl
theorem wo3 : wf [Reg.ac odd, .ac [s0, s0], .ac [s0, s0]] := _root_.rfl
theorem nobody_run (a : Int) : bk.run (.fn 13) [I .i64 a] [] = some (Bo true, []) := by
  rw [Book.run_fn (B := bk) T13 rfl (Nat.le_of_ble_eq_true rfl)]
  simp [t13, k13, alive_run, foot_odd, step_odd, undo_odd, state_odd, hash_odd, over_odd, steps_odd, clone_odd, can_odd, ag_odd, wo1, wo2, wo3, fold_odd]
end Go.Sim
