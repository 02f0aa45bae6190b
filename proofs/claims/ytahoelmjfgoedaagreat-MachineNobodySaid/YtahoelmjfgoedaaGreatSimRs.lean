/- The run of a text by rewriting: a rule for each operation. Of no program. -/
import Derived.Test.YtahoelmjfgoedaaGreatSimRn
namespace Go.Sim
open Go.RowKit Go.Proofs.YtahoelmjfgoedaaGreat.B
set_option linter.unusedVariables false
set_option linter.unusedSectionVars false
set_option linter.unusedSimpArgs false

/-- A whole number, a truth, a text in a slot; a slice of rows that nobody writes. -/
abbrev I (k : IntKind) (n : Int) : AV := .c (.p (.v (.int k n)))
abbrev Bo (b : Bool) : AV := .c (.p (.v (.bool b)))
abbrev Sl (sz : Nat) (l : List (List PV)) : AV := .c (.p (.sl sz l))

@[simp] theorem ev_t (sl : List (Nat × AV)) (rg : List Reg) (n : Nat) : St.ev ⟨sl, rg⟩ (.t n) = lk sl n := _root_.id rfl
@[simp] theorem ev_k (s : St) (x : Value) : s.ev (.k x) = .c (.p (.v x)) := _root_.id rfl
@[simp] theorem ev_f (s : St) (i : Nat) : s.ev (.f i) = .c (.fn (.func i) [] []) := _root_.id rfl
@[simp] theorem lk_nil (n : Nat) : lk [] n = .c .any := _root_.id rfl
theorem lk_cons (k n : Nat) (v : AV) (r : List (Nat × AV)) : lk ((k, v) :: r) n = if k = n then v else lk r n := _root_.id rfl
@[simp] theorem lk_hit (n : Nat) (v : AV) (r : List (Nat × AV)) : lk ((n, v) :: r) n = v := by simp [lk]
@[simp] theorem lk_miss {k n : Nat} (h : k ≠ n) (v : AV) (r : List (Nat × AV)) : lk ((k, v) :: r) n = lk r n := by simp [lk, h]

/-- What follows an operation. -/
def cont (P : Program) (c : CallF) (r : List AIt) (d : Nat) (sl : List (Nat × AV)) (rg : List Reg) (o : Option AV) : Option St := o.bind fun v => evalOps P c r ⟨(d, v) :: sl, rg⟩
theorem cont_some (P : Program) (c : CallF) (r : List AIt) (d : Nat) (sl : List (Nat × AV)) (rg : List Reg) (v : AV) : cont P c r d sl rg (some v) = evalOps P c r ⟨(d, v) :: sl, rg⟩ := _root_.id rfl
def cont2 (P : Program) (c : CallF) (r : List AIt) (d : Nat) (sl : List (Nat × AV)) (o : Option (AV × List Reg)) : Option St := o.bind fun p => evalOps P c r ⟨(d, p.1) :: sl, p.2⟩
theorem cont2_some (P : Program) (c : CallF) (r : List AIt) (d : Nat) (sl : List (Nat × AV)) (v : AV) (rg : List Reg) : cont2 P c r d sl (some (v, rg)) = evalOps P c r ⟨(d, v) :: sl, rg⟩ := _root_.id rfl
def cont0 (P : Program) (c : CallF) (r : List AIt) (sl : List (Nat × AV)) (o : Option (AV × List Reg)) : Option St := o.bind fun p => evalOps P c r ⟨sl, p.2⟩
theorem cont0_some (P : Program) (c : CallF) (r : List AIt) (sl : List (Nat × AV)) (v : AV) (rg : List Reg) : cont0 P c r sl (some (v, rg)) = evalOps P c r ⟨sl, rg⟩ := _root_.id rfl
def contS (P : Program) (c : CallF) (r : List AIt) (sl : List (Nat × AV)) (o : Option (List Reg)) : Option St := o.bind fun rg => evalOps P c r ⟨sl, rg⟩
theorem contS_some (P : Program) (c : CallF) (r : List AIt) (sl : List (Nat × AV)) (rg : List Reg) : contS P c r sl (some rg) = evalOps P c r ⟨sl, rg⟩ := _root_.id rfl
def contX (P : Program) (c : CallF) (r : List AIt) (o : Option St) : Option St := o.bind (evalOps P c r)
theorem contX_some (P : Program) (c : CallF) (r : List AIt) (s : St) : contX P c r (some s) = evalOps P c r s := _root_.id rfl
def contV (c : CallF) (args : List AV) (rg : List Reg) (o : Option (Nat × List FA × List FA)) : Option (AV × List Reg) := o.bind fun q => c (.fn q.1) (q.2.1.map avFA ++ args ++ q.2.2.map avFA) rg
theorem contV_some (c : CallF) (args : List AV) (rg : List Reg) (f : Nat) (a b : List FA) : contV c args rg (some (f, a, b)) = c (.fn f) (a.map avFA ++ args ++ b.map avFA) rg := _root_.id rfl
def contY (c : CallF) (args : List AV) (rg : List Reg) (o : Option (CK × List FA × List FA)) : Option (AV × List Reg) := o.bind fun q => c q.1 (q.2.1.map avFA ++ args ++ q.2.2.map avFA) rg
theorem contY_some (c : CallF) (args : List AV) (rg : List Reg) (f : CK) (a b : List FA) : contY c args rg (some (f, a, b)) = c f (a.map avFA ++ args ++ b.map avFA) rg := _root_.id rfl
def mkfn (f : Fn) (a b : Option (List FA)) : Option AV := a.bind fun a => b.map fun b => .c (.fn f a b)
theorem mkfn_some (f : Fn) (a b : List FA) : mkfn f (some a) (some b) = some (.c (.fn f a b)) := _root_.id rfl
def gdk (P : Program) (c : CallF) (r : List AIt) (w : Bool) (d : Option Nat) (op : AOp) (sl : List (Nat × AV)) (rg : List Reg) (v : AV) : Option St :=
  match v with
  | .c (.p (.v (.bool b))) => if b = w then evalOps P c (⟨none, d, op⟩ :: r) ⟨sl, rg⟩ else evalOps P c r (St.put ⟨sl, rg⟩ d (.tup []))
  | .tup [] => evalOps P c r (St.put ⟨sl, rg⟩ d (.tup []))
  | _ => none
theorem gdk_tt (P : Program) (c : CallF) (r : List AIt) (d : Option Nat) (op : AOp) (sl : List (Nat × AV)) (rg : List Reg) : gdk P c r true d op sl rg (Bo true) = evalOps P c (⟨none, d, op⟩ :: r) ⟨sl, rg⟩ := _root_.id rfl
theorem gdk_ff (P : Program) (c : CallF) (r : List AIt) (d : Option Nat) (op : AOp) (sl : List (Nat × AV)) (rg : List Reg) : gdk P c r false d op sl rg (Bo false) = evalOps P c (⟨none, d, op⟩ :: r) ⟨sl, rg⟩ := _root_.id rfl
theorem gdk_tf (P : Program) (c : CallF) (r : List AIt) (d : Nat) (op : AOp) (sl : List (Nat × AV)) (rg : List Reg) : gdk P c r false (some d) op sl rg (Bo true) = evalOps P c r ⟨(d, .tup []) :: sl, rg⟩ := _root_.id rfl
theorem gdk_ft (P : Program) (c : CallF) (r : List AIt) (d : Nat) (op : AOp) (sl : List (Nat × AV)) (rg : List Reg) : gdk P c r true (some d) op sl rg (Bo false) = evalOps P c r ⟨(d, .tup []) :: sl, rg⟩ := _root_.id rfl
theorem gdk_t (P : Program) (c : CallF) (r : List AIt) (w : Bool) (d : Nat) (op : AOp) (sl : List (Nat × AV)) (rg : List Reg) : gdk P c r w (some d) op sl rg (.tup []) = evalOps P c r ⟨(d, .tup []) :: sl, rg⟩ := _root_.id rfl
theorem gdk_tf0 (P : Program) (c : CallF) (r : List AIt) (op : AOp) (sl : List (Nat × AV)) (rg : List Reg) : gdk P c r false none op sl rg (Bo true) = evalOps P c r ⟨sl, rg⟩ := _root_.id rfl
theorem gdk_ft0 (P : Program) (c : CallF) (r : List AIt) (op : AOp) (sl : List (Nat × AV)) (rg : List Reg) : gdk P c r true none op sl rg (Bo false) = evalOps P c r ⟨sl, rg⟩ := _root_.id rfl
theorem gdk_t0 (P : Program) (c : CallF) (r : List AIt) (w : Bool) (op : AOp) (sl : List (Nat × AV)) (rg : List Reg) : gdk P c r w none op sl rg (.tup []) = evalOps P c r ⟨sl, rg⟩ := _root_.id rfl

/-! ### What an operation tells of values -/
def vbin (op : BinOp) (x y : AV) : Option AV := (valOf x).bind fun a => (valOf y).bind fun b => (binE op a b).map fun v => .c (.p (.v v))
def veqs (P : Program) (neg : Bool) (t : Nat) (ks : List IntKind) : AV → AV → Option AV
  | .agg l, .agg l' => (intsOf ks l).bind fun us => (intsOf ks l').bind fun vs => if eqokB P t ks = true then some (Bo (if neg then !decide (us = vs) else decide (us = vs))) else none
  | _, _ => none
def vbeq (neg : Bool) (x y : AV) : Option AV := (boolOf x).bind fun a => (boolOf y).map fun b => Bo (if neg then !(a == b) else (a == b))
def vpick (v a b : AV) : Option AV :=
  (boolOf v).map fun t => if t = true then a else b
def vun1 : UnOp → Option Value → Option AV
  | .not, some (.bool b) => some (Bo (!b))
  | .neg, some (.int k n) => some (I k (k.wrap (0 - n)))
  | _, _ => none
def vun (op : UnOp) (x : AV) : Option AV := vun1 op (valOf x)
def vcvi (k : IntKind) (x : AV) : Option AV := (intOf' x).map fun q => I k (k.wrap q.2)
def vnilc : AV → Option AV
  | .c (.ptr id off) => some (.c (.ptr id off))
  | .c (.ept id sz i j) => some (.c (.ept id sz i j))
  | .c (.rp l) => some (.c (.rp l))
  | _ => none
def vfad (off : Nat) : AV → Option AV
  | .c (.ptr id o) => some (.c (.ptr id (o + off)))
  | .c (.ept id sz i j) => some (.c (.ept id sz i (j + off)))
  | .c (.rp l) => some (.c (.rp (l.drop off)))
  | _ => none
def vfld (off n : Nat) (agg : Bool) : AV → Option AV
  | .agg l => if off + n ≤ l.length then pack agg ((l.drop off).take n) else none
  | _ => none
def vloadA (off n : Nat) (agg : Bool) : Option Reg → Option AV
  | some (.ac l) => if off + n ≤ l.length then pack agg ((l.drop off).take n) else none
  | _ => none
def vloadE (sz i j n : Nat) (agg : Bool) : Option Reg → Option AV
  | some (.pc sz' ls) => if sz = sz' ∧ j + n ≤ sz then (ls[i]?).bind fun c => pack agg (((c.drop j).take n).map .p) else none
  | some (.es sz' ls) => if sz = sz' ∧ j + n ≤ sz then (ls[i]?).bind fun c => pack agg ((c.drop j).take n) else none
  | _ => none
def vload (rg : List Reg) (n : Nat) (agg : Bool) : AV → Option AV
  | .c (.ptr id off) => vloadA off n agg rg[id]?
  | .c (.ept id sz i j) => vloadE sz i j n agg rg[id]?
  | .c (.rp l) => if n ≤ l.length then pack agg ((l.take n).map .p) else none
  | _ => none
def vstoreA (off n : Nat) (xs : List AC) : Option Reg → Option Reg
  | some (.ac l) => if xs.length = n ∧ off + n ≤ l.length then some (.ac (l.take off ++ xs ++ l.drop (off + n))) else none
  | _ => none
def vstoreE (sz i j n : Nat) (xs : List AC) : Option Reg → Option Reg
  | some (.pc sz' ls) => if sz = sz' then (match puresOf xs with
      | some ps => if ps.length = n ∧ j + n ≤ sz then (ls[i]?).map fun c => .pc sz (ls.set i (c.take j ++ ps ++ c.drop (j + n))) else none
      | none => (stE n sz i j xs (upL ls)).map fun l => .es sz l) else none
  | some (.es sz' ls) => if sz = sz' then (stE n sz i j xs ls).map fun l => .es sz l else none
  | _ => none
def vstore (rg : List Reg) (n : Nat) : AV → AV → Option (List Reg)
  | .c (.ptr id off), v => (cellsOf v).bind fun xs => (vstoreA off n xs rg[id]?).map fun r => rg.set id r
  | .c (.ept id sz i j), v => (cellsOf v).bind fun xs => (vstoreE sz i j n xs rg[id]?).map fun r => rg.set id r
  | _, _ => none
def vixs1 (sz : Nat) (i : Int) : AV → Option AV
  | .c (.p (.sl sz' l)) => if sz = sz' ∧ 0 ≤ i then (l[i.toNat]?).map fun c => .c (.rp c) else none
  | .c (.own id off sz' len _) => if sz = sz' ∧ 0 ≤ i ∧ i < len then some (.c (.ept id sz (off + i.toNat) 0)) else none
  | _ => none
def vixs (sz : Nat) (i x : AV) : Option AV := (intOf' i).bind fun q => vixs1 sz q.2 x
def vixa1 (len sz : Nat) (i : Int) : AV → Option AV
  | .c (.ept id sz' a 0) => if sz = sz' ∧ 0 ≤ i ∧ i < len then some (.c (.ept id sz (a + i.toNat) 0)) else none
  | .c (.ptr id off) => if 0 ≤ i ∧ i < len then some (.c (.ptr id (off + i.toNat * sz))) else none
  | .c (.rp l) => if 0 ≤ i ∧ i < len then some (.c (.rp (l.drop (i.toNat * sz)))) else none
  | _ => none
def vixa (len sz : Nat) (i x : AV) : Option AV := (intOf' i).bind fun q => vixa1 len sz q.2 x
def vlen (x : AV) : Option AV := (lenOf' x).map fun n => I .i64 n
def vlens1 : Option Value → Option AV
  | some (.string b) => some (I .i64 b.size)
  | _ => none
def vlens (x : AV) : Option AV := vlens1 (valOf x)
def vext (i : Nat) : AV → Option AV
  | .tup l => l[i]?
  | _ => none
def vmm (mx : Bool) (x y : AV) : Option AV := (intOf' x).bind fun q => (intOf' y).map fun r => I q.1 (if mx then (if q.2 < r.2 then r.2 else q.2) else (if r.2 < q.2 then r.2 else q.2))
def vixv1 (len sz : Nat) (agg : Bool) (i : Int) : AV → Option AV
  | .agg l => if 0 ≤ i ∧ i < len ∧ i.toNat * sz + sz ≤ l.length then pack agg ((l.drop (i.toNat * sz)).take sz) else none
  | _ => none
def vixv (len sz : Nat) (agg : Bool) (i x : AV) : Option AV := (intOf' i).bind fun q => vixv1 len sz agg q.2 x
def vapp (rg : List Reg) (sz bytes : Nat) (x y : AV) : Option (AV × List Reg) :=
  match appVP rg x y sz bytes with
  | some p => some p
  | none => appVE rg x y sz bytes

theorem ifmap {α β γ : Type} {p : Prop} [Decidable p] {f : α → β} {g : β → Option γ} (o : Option α) : ((if p then o.map f else none).bind g) = (if p then o else none).bind fun v => g (f v) := by split <;> cases o <;> rfl
theorem ifmap2 {α β γ δ : Type} {p : Prop} [Decidable p] {f : α → β} {g : β → Option γ} (u : Option δ) (o : δ → Option α) : ((if p then u.bind fun c => (o c).map f else none).bind g) = (if p then u.bind o else none).bind fun v => g (f v) := by
  split
  · cases u with
    | none => rfl
    | some c => simp only [Option.bind_some]; cases o c <;> rfl
  · rfl
theorem ifsome {α β γ : Type} {p : Prop} [Decidable p] {f : α → β} {g : β → Option γ} (x : α) : ((if p then some (f x) else none).bind g) = (if p then some x else none).bind fun v => g (f v) := by split <;> rfl
section
variable {P : Program} {c : CallF} {r : List AIt} {dd : Option Nat} {d : Nat} {sl : List (Nat × AV)} {rg : List Reg} {x y z : AX}
theorem ops_nil (s : St) : evalOps P c [] s = some s := _root_.id rfl
theorem ops_none (op : AOp) (s : St) : evalOps P c (⟨none, dd, op⟩ :: r) s = (evalOp P c op s).bind (evalOps P c r) := _root_.id rfl
theorem ops_mv  : evalOps P c (⟨none, dd, .mv (some d) x⟩ :: r) ⟨sl, rg⟩ = cont P c r d sl rg (some (St.ev ⟨sl, rg⟩ x)) := by
  rw [ops_none, cont]
  simp only [evalOp, ev_mv, evF_eq]
  rfl
theorem ops_bin (op : BinOp) : evalOps P c (⟨none, dd, .bin (some d) op x y⟩ :: r) ⟨sl, rg⟩ = cont P c r d sl rg (vbin op (St.ev ⟨sl, rg⟩ x) (St.ev ⟨sl, rg⟩ y)) := by
  rw [ops_none, cont]
  simp only [evalOp, ev_bin, evF_eq]
  generalize St.ev ⟨sl, rg⟩ x = vx
  generalize St.ev ⟨sl, rg⟩ y = vy
  unfold vbin
  generalize valOf vx = o1
  generalize valOf vy = o2
  cases o1 <;> cases o2 <;> ((repeat' split) <;> first | rfl | simp_all [St.put, St.putr, Option.bind_map, Function.comp_def, Option.bind_assoc, Option.map_map] <;> omega)
theorem ops_eqs (neg : Bool) (t : Nat) (ks : List IntKind) : evalOps P c (⟨none, dd, .eqs (some d) neg t ks x y⟩ :: r) ⟨sl, rg⟩ = cont P c r d sl rg (veqs P neg t ks (St.ev ⟨sl, rg⟩ x) (St.ev ⟨sl, rg⟩ y)) := by
  rw [ops_none, cont]
  simp only [evalOp, ev_eqs, evF_eq]
  generalize St.ev ⟨sl, rg⟩ x = vx
  generalize St.ev ⟨sl, rg⟩ y = vy
  cases vx <;> cases vy <;> simp only [veqs, Option.bind_none]
  rename_i l l'
  cases intsOf ks l <;> cases intsOf ks l' <;> simp only [Option.bind_none, Option.bind_some]
  split <;> rfl
theorem ops_beq (neg : Bool) : evalOps P c (⟨none, dd, .beq (some d) neg x y⟩ :: r) ⟨sl, rg⟩ = cont P c r d sl rg (vbeq neg (St.ev ⟨sl, rg⟩ x) (St.ev ⟨sl, rg⟩ y)) := by
  rw [ops_none, cont]
  simp only [evalOp, ev_beq, evF_eq]
  generalize St.ev ⟨sl, rg⟩ x = vx
  generalize St.ev ⟨sl, rg⟩ y = vy
  unfold vbeq
  generalize boolOf vx = o1
  generalize boolOf vy = o2
  cases o1 <;> cases o2 <;> ((repeat' split) <;> first | rfl | simp_all [St.put, St.putr, Option.bind_map, Function.comp_def, Option.bind_assoc, Option.map_map] <;> omega)
theorem ops_pick  : evalOps P c (⟨none, dd, .pick (some d) x y z⟩ :: r) ⟨sl, rg⟩ = cont P c r d sl rg (vpick (St.ev ⟨sl, rg⟩ x) (St.ev ⟨sl, rg⟩ y) (St.ev ⟨sl, rg⟩ z)) := by
  rw [ops_none, cont]
  simp only [evalOp, ev_pick, evF_eq]
  generalize St.ev ⟨sl, rg⟩ x = vx
  generalize St.ev ⟨sl, rg⟩ y = vy
  generalize St.ev ⟨sl, rg⟩ z = vz
  unfold vpick
  generalize boolOf vx = o1
  cases o1 <;> ((repeat' split) <;> first | rfl | simp_all [St.put, St.putr, Option.bind_map, Function.comp_def, Option.bind_assoc, Option.map_map] <;> omega)
theorem ops_un (op : UnOp) : evalOps P c (⟨none, dd, .un (some d) op x⟩ :: r) ⟨sl, rg⟩ = cont P c r d sl rg (vun op (St.ev ⟨sl, rg⟩ x)) := by
  rw [ops_none, cont]
  simp only [evalOp, ev_un, evF_eq]
  generalize St.ev ⟨sl, rg⟩ x = vx
  unfold vun vun1
  generalize valOf vx = o1
  cases o1 <;> ((repeat' split) <;> first | rfl | simp_all [St.put, St.putr, Option.bind_map, Function.comp_def, Option.bind_assoc, Option.map_map] <;> omega)
theorem ops_cvi (k : IntKind) : evalOps P c (⟨none, dd, .cvi (some d) k x⟩ :: r) ⟨sl, rg⟩ = cont P c r d sl rg (vcvi k (St.ev ⟨sl, rg⟩ x)) := by
  rw [ops_none, cont]
  simp only [evalOp, ev_cvi, evF_eq]
  generalize St.ev ⟨sl, rg⟩ x = vx
  unfold vcvi
  generalize intOf' vx = o1
  cases o1 <;> ((repeat' split) <;> first | rfl | simp_all [St.put, St.putr, Option.bind_map, Function.comp_def, Option.bind_assoc, Option.map_map] <;> omega)
theorem ops_nilc  : evalOps P c (⟨none, dd, .nilc (some d) x⟩ :: r) ⟨sl, rg⟩ = cont P c r d sl rg (vnilc (St.ev ⟨sl, rg⟩ x)) := by
  rw [ops_none, cont]
  simp only [evalOp, ev_nilc, evF_eq]
  generalize St.ev ⟨sl, rg⟩ x = vx
  cases vx with
  | c x => cases x <;> rfl
  | agg l => rfl
  | tup l => rfl
theorem ops_fad (off : Nat) : evalOps P c (⟨none, dd, .fad (some d) off x⟩ :: r) ⟨sl, rg⟩ = cont P c r d sl rg (vfad off (St.ev ⟨sl, rg⟩ x)) := by
  rw [ops_none, cont]
  simp only [evalOp, ev_fad, evF_eq]
  generalize St.ev ⟨sl, rg⟩ x = vx
  cases vx with
  | c x => cases x <;> rfl
  | agg l => rfl
  | tup l => rfl
theorem ops_fld (off n : Nat) (agg : Bool) : evalOps P c (⟨none, dd, .fld (some d) off n agg x⟩ :: r) ⟨sl, rg⟩ = cont P c r d sl rg (vfld off n agg (St.ev ⟨sl, rg⟩ x)) := by
  rw [ops_none, cont]
  simp only [evalOp, ev_fld, evF_eq]
  generalize St.ev ⟨sl, rg⟩ x = vx
  cases vx with
  | c y => rfl
  | tup l => rfl
  | agg l => exact ifmap _
theorem ops_load (n : Nat) (agg : Bool) : evalOps P c (⟨none, dd, .load (some d) n agg x⟩ :: r) ⟨sl, rg⟩ = cont P c r d sl rg (vload rg n agg (St.ev ⟨sl, rg⟩ x)) := by
  rw [ops_none, cont]
  simp only [evalOp, ev_load, evF_eq]
  generalize St.ev ⟨sl, rg⟩ x = vx
  cases vx with
  | agg l => rfl
  | tup l => rfl
  | c y => cases y with
    | ptr id off =>
      simp only [vload]
      cases rg[id]? with
      | none => rfl
      | some w => cases w <;> first | exact ifmap _ | rfl
    | ept id sz i j =>
      simp only [vload]
      cases rg[id]? with
      | none => rfl
      | some w => cases w <;> first | exact ifmap2 _ _ | rfl
    | rp l => exact ifmap _
    | _ => rfl
theorem ops_ixs (sz : Nat) : evalOps P c (⟨none, dd, .ixs (some d) sz x y⟩ :: r) ⟨sl, rg⟩ = cont P c r d sl rg (vixs sz (St.ev ⟨sl, rg⟩ y) (St.ev ⟨sl, rg⟩ x)) := by
  rw [ops_none, cont]
  simp only [evalOp, ev_ixs, evF_eq]
  generalize St.ev ⟨sl, rg⟩ x = vx
  generalize St.ev ⟨sl, rg⟩ y = vy
  unfold vixs
  cases intOf' vy with
  | none => rfl
  | some q =>
    obtain ⟨k, i⟩ := q
    cases vx with
    | agg l => rfl
    | tup l => rfl
    | c y => cases y with
      | p z => cases z with
        | v z => rfl
        | sl sz' l => simp only [vixs1, Option.bind_some]; cases l[i.toNat]? <;> split <;> rfl
      | own id off sz' len cap => simp only [vixs1, Option.bind_some]; split <;> rfl
      | _ => rfl
theorem ops_ixa (len sz : Nat) : evalOps P c (⟨none, dd, .ixa (some d) len sz x y⟩ :: r) ⟨sl, rg⟩ = cont P c r d sl rg (vixa len sz (St.ev ⟨sl, rg⟩ y) (St.ev ⟨sl, rg⟩ x)) := by
  rw [ops_none, cont]
  simp only [evalOp, ev_ixa, evF_eq]
  generalize St.ev ⟨sl, rg⟩ x = vx
  generalize St.ev ⟨sl, rg⟩ y = vy
  unfold vixa
  cases intOf' vy with
  | none => rfl
  | some q =>
    obtain ⟨k, i⟩ := q
    cases vx with
    | agg l => rfl
    | tup l => rfl
    | c y => cases y with
      | ept id sz' u j => cases j with
        | zero => exact ifsome _
        | succ j => rfl
      | ptr id off => exact ifsome _
      | rp l => exact ifsome _
      | _ => rfl
theorem ops_len  : evalOps P c (⟨none, dd, .len (some d) x⟩ :: r) ⟨sl, rg⟩ = cont P c r d sl rg (vlen (St.ev ⟨sl, rg⟩ x)) := by
  rw [ops_none, cont]
  simp only [evalOp, ev_len, evF_eq]
  generalize St.ev ⟨sl, rg⟩ x = vx
  unfold vlen
  generalize lenOf' vx = o1
  cases o1 <;> ((repeat' split) <;> first | rfl | simp_all [St.put, St.putr, Option.bind_map, Function.comp_def, Option.bind_assoc, Option.map_map] <;> omega)
theorem ops_lens  : evalOps P c (⟨none, dd, .lens (some d) x⟩ :: r) ⟨sl, rg⟩ = cont P c r d sl rg (vlens (St.ev ⟨sl, rg⟩ x)) := by
  rw [ops_none, cont]
  simp only [evalOp, ev_lens, evF_eq]
  generalize St.ev ⟨sl, rg⟩ x = vx
  unfold vlens vlens1
  generalize valOf vx = o1
  cases o1 <;> ((repeat' split) <;> first | rfl | simp_all [St.put, St.putr, Option.bind_map, Function.comp_def, Option.bind_assoc, Option.map_map] <;> omega)
theorem ops_ext (i : Nat) : evalOps P c (⟨none, dd, .ext (some d) x i⟩ :: r) ⟨sl, rg⟩ = cont P c r d sl rg (vext i (St.ev ⟨sl, rg⟩ x)) := by
  rw [ops_none, cont]
  simp only [evalOp, ev_ext, evF_eq]
  generalize St.ev ⟨sl, rg⟩ x = vx
  unfold vext
  (repeat' split) <;> first | rfl | simp_all [St.put, St.putr, Option.bind_map, Function.comp_def, Option.bind_assoc, Option.map_map] <;> omega
theorem ops_mm (mx : Bool) : evalOps P c (⟨none, dd, .mm (some d) mx x y⟩ :: r) ⟨sl, rg⟩ = cont P c r d sl rg (vmm mx (St.ev ⟨sl, rg⟩ x) (St.ev ⟨sl, rg⟩ y)) := by
  rw [ops_none, cont]
  simp only [evalOp, ev_mm, evF_eq]
  unfold vmm
  cases intOf' (St.ev ⟨sl, rg⟩ x) with
  | none => rfl
  | some q => cases intOf' (St.ev ⟨sl, rg⟩ y) <;> rfl
theorem ops_ixv (len sz : Nat) (agg : Bool) : evalOps P c (⟨none, dd, .ixv (some d) len sz agg x y⟩ :: r) ⟨sl, rg⟩ = cont P c r d sl rg (vixv len sz agg (St.ev ⟨sl, rg⟩ y) (St.ev ⟨sl, rg⟩ x)) := by
  rw [ops_none, cont]
  simp only [evalOp, ev_ixv, evF_eq]
  generalize St.ev ⟨sl, rg⟩ x = vx
  generalize St.ev ⟨sl, rg⟩ y = vy
  unfold vixv
  cases intOf' vy with
  | none => rfl
  | some q =>
    obtain ⟨k, i⟩ := q
    cases vx with
    | agg l => exact ifmap _
    | tup l => rfl
    | c y => cases y with
      | any => rfl
      | _ => rfl
theorem ops_alloc (zs : List Value) : evalOps P c (⟨none, dd, .alloc (some d) zs⟩ :: r) ⟨sl, rg⟩ = evalOps P c r ⟨(d, .c (.ptr rg.length 0)) :: sl, rg ++ [.ac (zs.map fun z => .p (.v z))]⟩ := _root_.id rfl
theorem ops_allocA (sz n : Nat) (zs : List Value) : evalOps P c (⟨none, dd, .allocA (some d) sz n zs⟩ :: r) ⟨sl, rg⟩ = evalOps P c r ⟨(d, .c (.ept rg.length sz 0 0)) :: sl, rg ++ [.pc sz (List.replicate n (zs.map .v))]⟩ := _root_.id rfl
theorem ops_box : evalOps P c (⟨none, dd, .box (some d) x⟩ :: r) ⟨sl, rg⟩ = cont2 P c r d sl ((cellsOf (St.ev ⟨sl, rg⟩ x)).map fun l => (.c (.ptr rg.length 0), rg ++ [.ac l])) := by
  rw [ops_none]
  simp only [evalOp, ev_box, evF_eq]
  cases cellsOf (St.ev ⟨sl, rg⟩ x) <;> rfl
theorem ops_store (n : Nat) : evalOps P c (⟨none, dd, .store n x y⟩ :: r) ⟨sl, rg⟩ = contS P c r sl (vstore rg n (St.ev ⟨sl, rg⟩ x) (St.ev ⟨sl, rg⟩ y)) := by
  rw [ops_none]
  simp only [evalOp, ev_store, evF_eq]
  generalize St.ev ⟨sl, rg⟩ x = vx
  generalize St.ev ⟨sl, rg⟩ y = vy
  cases vx with
  | agg l => simp only [vstore]; cases cellsOf vy <;> rfl
  | tup l => simp only [vstore]; cases cellsOf vy <;> rfl
  | c z =>
    cases hc : cellsOf vy with
    | none => cases z <;> simp only [vstore, hc, Option.bind_none] <;> rfl
    | some xs =>
      cases z with
      | ptr id off =>
        simp only [vstore, hc, Option.bind_some]
        cases rg[id]? with
        | none => rfl
        | some w => cases w <;> simp only [vstoreA] <;> first | rfl | (split <;> rfl)
      | ept id sz i j =>
        simp only [vstore, hc, Option.bind_some]
        cases rg[id]? with
        | none => rfl
        | some w => cases w with
          | pc sz' ls =>
            simp only [vstoreE]
            by_cases hz : sz = sz'
            · simp only [if_pos hz]
              cases puresOf xs with
              | none => simp only []; cases stE n sz i j xs (upL ls) <;> rfl
              | some ps =>
                simp only []
                split
                · cases ls[i]? <;> rfl
                · rfl
            · simp only [if_neg hz]
              rfl
          | es sz' ls =>
            simp only [vstoreE]
            by_cases hz : sz = sz'
            · simp only [if_pos hz]
              cases stE n sz i j xs ls <;> rfl
            · simp only [if_neg hz]
              rfl
          | _ => rfl
      | _ => rfl
theorem ops_build (zs : List Value) (parts : List (Nat × Nat × AX)) : evalOps P c (⟨none, dd, .build (some d) zs parts⟩ :: r) ⟨sl, rg⟩ = cont P c r d sl rg ((fillA (zs.map fun z => .p (.v z)) (parts.map fun q => (q.1, q.2.1, St.ev ⟨sl, rg⟩ q.2.2))).map .agg) := by
  rw [ops_none]
  simp only [evalOp, ev_build, evF_eq]
  cases fillA (zs.map fun z => .p (.v z)) (parts.map fun q => (q.1, q.2.1, St.ev ⟨sl, rg⟩ q.2.2)) <;> rfl
def vbsl (rg : List Reg) (sz len : Nat) (zs : List Value) (parts : List (Nat × AV)) : Option Reg :=
  match fillE sz (List.replicate len (zs.map .v)) parts with
  | some ls => some (.pc sz ls)
  | none => (fillX sz (upL (List.replicate len (zs.map .v))) parts).map (.es sz)
theorem ops_bsl (sz len : Nat) (zs : List Value) (parts : List (Nat × AX)) : evalOps P c (⟨none, dd, .bsl (some d) sz len zs parts⟩ :: r) ⟨sl, rg⟩ = cont2 P c r d sl ((vbsl rg sz len zs (parts.map fun q => (q.1, St.ev ⟨sl, rg⟩ q.2))).map fun w => (.c (.own rg.length 0 sz len .free), rg ++ [w])) := by
  rw [ops_none]
  simp only [evalOp, ev_bsl, evF_eq, vbsl]
  cases fillE sz (List.replicate len (zs.map .v)) (parts.map fun q => (q.1, St.ev ⟨sl, rg⟩ q.2)) with
  | some ls => rfl
  | none =>
    simp only
    cases fillX sz (upL (List.replicate len (zs.map .v))) (parts.map fun q => (q.1, St.ev ⟨sl, rg⟩ q.2)) <;> rfl
theorem ops_app (sz bytes : Nat) : evalOps P c (⟨none, dd, .app (some d) sz bytes x y⟩ :: r) ⟨sl, rg⟩ = cont2 P c r d sl (vapp rg sz bytes (St.ev ⟨sl, rg⟩ x) (St.ev ⟨sl, rg⟩ y)) := by
  rw [ops_none]
  simp only [evalOp, ev_app, evF_eq, vapp]
  cases appVP rg (St.ev ⟨sl, rg⟩ x) (St.ev ⟨sl, rg⟩ y) sz bytes with
  | some p => rfl
  | none =>
    simp only
    cases appVE rg (St.ev ⟨sl, rg⟩ x) (St.ev ⟨sl, rg⟩ y) sz bytes <;> rfl
theorem ops_call (f : Nat) (args : List AX) : evalOps P c (⟨none, dd, .call (some d) f args⟩ :: r) ⟨sl, rg⟩ = cont2 P c r d sl (c (.fn f) (args.map (St.ev ⟨sl, rg⟩)) rg) := by
  rw [ops_none]
  simp only [evalOp, ev_call, evF_eq]
  cases c (.fn f) (args.map (St.ev ⟨sl, rg⟩)) rg <;> rfl
theorem ops_call0 (f : Nat) (args : List AX) : evalOps P c (⟨none, dd, .call none f args⟩ :: r) ⟨sl, rg⟩ = cont0 P c r sl (c (.fn f) (args.map (St.ev ⟨sl, rg⟩)) rg) := by
  rw [ops_none]
  simp only [evalOp, ev_call, evF_eq]
  cases c (.fn f) (args.map (St.ev ⟨sl, rg⟩)) rg <;> rfl
def vcallee : AV → Option (Nat × List FA × List FA)
  | .c (.fn (.func f) a b) => some (f, a, b)
  | _ => none
theorem ops_callv (args : List AX) : evalOps P c (⟨none, dd, .callv (some d) x args⟩ :: r) ⟨sl, rg⟩ = cont2 P c r d sl (contV c (args.map (St.ev ⟨sl, rg⟩)) rg (vcallee (St.ev ⟨sl, rg⟩ x))) := by
  rw [ops_none, cont2, contV]
  simp only [evalOp, ev_callv, evF_eq]
  generalize hx : St.ev ⟨sl, rg⟩ x = vx
  cases vx with
  | agg l => rfl
  | tup l => rfl
  | c z => cases z with
    | fn g a b => cases g with
      | func f =>
        simp only [vcallee, Option.bind_some]
        cases c (.fn f) (a.map avFA ++ args.map (St.ev ⟨sl, rg⟩) ++ b.map avFA) rg <;> rfl
      | _ => rfl
    | _ => rfl
def vcally : AV → Option (CK × List FA × List FA)
  | .c (.fn (.func f) a b) => some (.fn f, a, b)
  | .c (.hnd .yl id) => some (.yl id, [], [])
  | _ => none
theorem ops_cally (args : List AX) : evalOps P c (⟨none, dd, .cally (some d) x args⟩ :: r) ⟨sl, rg⟩ = cont2 P c r d sl (contY c (args.map (St.ev ⟨sl, rg⟩)) rg (vcally (St.ev ⟨sl, rg⟩ x))) := by
  rw [ops_none, cont2, contY]
  simp only [evalOp, ev_cally, evF_eq]
  generalize hx : St.ev ⟨sl, rg⟩ x = vx
  cases vx with
  | agg l => rfl
  | tup l => rfl
  | c z => cases z with
    | fn g a b => cases g with
      | func f =>
        simp only [vcally, Option.bind_some]
        cases c (.fn f) (a.map avFA ++ args.map (St.ev ⟨sl, rg⟩) ++ b.map avFA) rg <;> rfl
      | _ => rfl
    | hnd k id => cases k with
      | yl =>
        simp only [vcally, Option.bind_some, List.map_nil, List.nil_append, List.append_nil]
        cases c (.yl id) (args.map (St.ev ⟨sl, rg⟩)) rg <;> rfl
      | _ => rfl
    | _ => rfl
theorem ops_cally0 (args : List AX) : evalOps P c (⟨none, dd, .cally none x args⟩ :: r) ⟨sl, rg⟩ = cont0 P c r sl (contY c (args.map (St.ev ⟨sl, rg⟩)) rg (vcally (St.ev ⟨sl, rg⟩ x))) := by
  rw [ops_none, cont0, contY]
  simp only [evalOp, ev_cally, evF_eq]
  generalize hx : St.ev ⟨sl, rg⟩ x = vx
  cases vx with
  | agg l => rfl
  | tup l => rfl
  | c z => cases z with
    | fn g a b => cases g with
      | func f =>
        simp only [vcally, Option.bind_some]
        cases c (.fn f) (a.map avFA ++ args.map (St.ev ⟨sl, rg⟩) ++ b.map avFA) rg <;> rfl
      | _ => rfl
    | hnd k id => cases k with
      | yl =>
        simp only [vcally, Option.bind_some, List.map_nil, List.nil_append, List.append_nil]
        cases c (.yl id) (args.map (St.ev ⟨sl, rg⟩)) rg <;> rfl
      | _ => rfl
    | _ => rfl
theorem ops_mkf (f : Fn) (first captured : List AX) : evalOps P c (⟨none, dd, .mkf (some d) f first captured⟩ :: r) ⟨sl, rg⟩ = cont P c r d sl rg (mkfn f (allOf (fun x => faOf (St.ev ⟨sl, rg⟩ x)) first) (allOf (fun x => faOf (St.ev ⟨sl, rg⟩ x)) captured)) := by
  rw [ops_none]
  simp only [evalOp, ev_mkf, evF_eq]
  cases allOf (fun x => faOf (St.ev ⟨sl, rg⟩ x)) first <;> cases allOf (fun x => faOf (St.ev ⟨sl, rg⟩ x)) captured <;> rfl
theorem ops_x (k : XOp) (args : List AX) : evalOps P c (⟨none, dd, .x (some d) k args⟩ :: r) ⟨sl, rg⟩ = cont2 P c r d sl (xE k (args.map (St.ev ⟨sl, rg⟩)) rg) := by
  rw [ops_none]
  simp only [evalOp, ev_x, evF_eq]
  cases xE k (args.map (St.ev ⟨sl, rg⟩)) rg <;> rfl
theorem ops_x0 (k : XOp) (args : List AX) : evalOps P c (⟨none, dd, .x none k args⟩ :: r) ⟨sl, rg⟩ = cont0 P c r sl (xE k (args.map (St.ev ⟨sl, rg⟩)) rg) := by
  rw [ops_none]
  simp only [evalOp, ev_x, evF_eq]
  cases xE k (args.map (St.ev ⟨sl, rg⟩)) rg <;> rfl
def unput (d : Nat) (o : Option St) : Option (AV × List Reg) := o.map fun s => (lk s.slots d, s.regs)
theorem ops_sls (sz : Nat) (lo hi mx : Option AX) : evalOps P c (⟨none, dd, .sls (some d) sz x lo hi mx⟩ :: r) ⟨sl, rg⟩ = (ev_sls (some d) sz x lo hi mx ⟨sl, rg⟩).bind (evalOps P c r) := _root_.id rfl
theorem ops_sla (n sz : Nat) (lo hi mx : Option AX) : evalOps P c (⟨none, dd, .sla (some d) n sz x lo hi mx⟩ :: r) ⟨sl, rg⟩ = (ev_sla (some d) n sz x lo hi mx ⟨sl, rg⟩).bind (evalOps P c r) := _root_.id rfl
theorem ops_mks (sz bytes : Nat) (zs : List Value) : evalOps P c (⟨none, dd, .mks (some d) sz bytes zs x y⟩ :: r) ⟨sl, rg⟩ = (ev_mks (some d) sz bytes zs x y ⟨sl, rg⟩).bind (evalOps P c r) := _root_.id rfl
theorem ops_b2s : evalOps P c (⟨none, dd, .b2s (some d) x⟩ :: r) ⟨sl, rg⟩ = (ev_b2s (some d) x ⟨sl, rg⟩).bind (evalOps P c r) := _root_.id rfl
theorem ops_ixt : evalOps P c (⟨none, dd, .ixt (some d) x y⟩ :: r) ⟨sl, rg⟩ = (ev_ixt (some d) x y ⟨sl, rg⟩).bind (evalOps P c r) := _root_.id rfl
/-- A guarded operation. -/
theorem ops_guard (t : Nat) (w : Bool) (op : AOp) : evalOps P c (⟨some (t, w), some d, op⟩ :: r) ⟨sl, rg⟩ = gdk P c r w (some d) op sl rg (lk sl t) := by
  simp only [evalOps, evalIt, lkF_eq]
  generalize lk sl t = v
  unfold gdk
  (repeat' split) <;> first | rfl | simp_all [St.put]
theorem ops_guard0 (t : Nat) (w : Bool) (op : AOp) : evalOps P c (⟨some (t, w), none, op⟩ :: r) ⟨sl, rg⟩ = gdk P c r w none op sl rg (lk sl t) := by
  simp only [evalOps, evalIt, lkF_eq]
  generalize lk sl t = v
  unfold gdk
  (repeat' split) <;> first | rfl | simp_all [St.put]
end
end Go.Sim
