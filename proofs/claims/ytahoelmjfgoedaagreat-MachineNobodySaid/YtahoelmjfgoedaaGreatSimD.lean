/- Each operation over the plain picture tells what it tells in the model. Of no program. -/
import Derived.Test.YtahoelmjfgoedaaGreatSimC
import Derived.Laws.Slices
import Derived.WideLaws
import Derived.StillTail
namespace Go.Sim
open Go.RowKit Go.Proofs.YtahoelmjfgoedaaGreat.B

/-- What a text leans on: a world of then, the blocks that a pure cell must not lie in, the marks of loops that are over. -/
structure Bs where
  w : World
  bad : Nat → Prop
  ds : List Deferred
  lo : Nat
/-- A mark of a loop over a function that is over: its block is there, and nobody else's. -/
def Mark (b : Bs) (d : Deferred) : Prop := ∃ D, d = { target := .collected D, args := #[] } ∧ b.lo ≤ D ∧ D < b.w.heap.size ∧ ¬ b.bad D ∧ b.w.heap[D]? = some (.deferred (some []))
def DsOk (b : Bs) (w0 : World) (l : List Deferred) : Prop := l = b.ds ∧ b.ds.Nodup ∧ (∀ d ∈ b.ds, Mark b d) ∧ b.lo ≤ w0.heap.size
/-- The picture shows this frame and this world. -/
structure R (P : Program) (w0 : World) (env0 : Env) (bad0 : Bs) (fps : List Nat) (base : Nat → Prop) (N : Nat) (s : St) (a : Act) (w : World) : Prop where
  ex : ∃ env, RS P w0 w fps base env s.regs ∧ (∀ n, VRel w env (badOf base env s.regs) (lk s.slots n) (a.tmps.getD n undef)) ∧ Ev bad0.w env0 bad0.bad w env (badOf base env s.regs)
  size : a.tmps.size = N
  defers : DsOk bad0 w0 a.defers

def trX : Operand → Option AX
  | .tmp t => some (.t t)
  | .const v => if flatv v then some (.k v) else none
  | .func f => some (.f f)
  | .global _ => none

theorem ev_sound {s : St} {a : Act} {w : World} {env : Env} {bad : Nat → Prop} (h : ∀ n, VRel w env bad (lk s.slots n) (a.tmps.getD n undef)) {x : Operand} {ax : AX} (hx : trX x = some ax) :
    VRel w env bad (s.ev ax) (a.eval x) := by
  cases x with
  | tmp t => cases hx; exact h t
  | const v =>
    have hx' : (if flatv v = true then some (AX.k v) else none) = some ax := hx
    by_cases hf : flatv v = true
    · rw [if_pos hf] at hx'; cases hx'; exact .c (show CRel _ _ _ (.p (.v v)) v from PRel.v hf)
    · rw [if_neg hf] at hx'; cases hx'
  | func f => cases hx; exact .c ⟨[], [], rfl, trivial, trivial⟩
  | global g => cases hx

theorem lk_put {w : World} {env : Env} {bad : Nat → Prop} {slots : List (Nat × AV)} {tmps : Array Value} (h : ∀ n, VRel w env bad (lk slots n) (tmps.getD n undef)) {d : Nat} (hd : d < tmps.size)
    {v : AV} {u : Value} (hv : VRel w env bad v u) (n : Nat) : VRel w env bad (lk ((d, v) :: slots) n) ((tmps.setIfInBounds d u).getD n undef) := by
  unfold lk
  by_cases e : d = n
  · subst e
    rw [if_pos rfl, Array.getD_eq_getD_getElem?, Array.getElem?_setIfInBounds_self_of_lt hd]
    exact hv
  · rw [if_neg e, Array.getD_eq_getD_getElem?, Array.getElem?_setIfInBounds_ne e, ← Array.getD_eq_getD_getElem?]
    exact h n

section
variable {P : Program} {w0 w w' : World} {env0 env env' : Env} {bad0 : Bs} {fps : List Nat} {base : Nat → Prop} {N : Nat} {s : St} {a : Act} {regs' : List Reg}

/-- Behind an operation: its result lies in its slot. -/
theorem R.put' (hs : a.tmps.size = N) (hdf : DsOk bad0 w0 a.defers) (hslots : ∀ n, VRel w env (badOf base env s.regs) (lk s.slots n) (a.tmps.getD n undef)) (hev : Ev bad0.w env0 bad0.bad w env (badOf base env s.regs))
    (hrs : RS P w0 w' fps base env' regs') (he : Ev w env (badOf base env s.regs) w' env' (badOf base env' regs')) {d : Option Nat} (hd : ∀ n, d = some n → n < N) {v : AV} {u : Value}
    (hv : VRel w' env' (badOf base env' regs') v u) : R P w0 env0 bad0 fps base N (s.putr d v regs') (a.put d u) w' := by
  have h' : ∀ n, VRel w' env' (badOf base env' regs') (lk s.slots n) (a.tmps.getD n undef) := fun n => (hslots n).ev he
  cases d with
  | none => exact ⟨⟨env', hrs, h', hev.trans he⟩, hs, hdf⟩
  | some d => exact ⟨⟨env', hrs, fun n => lk_put h' (by rw [hs]; exact hd d rfl) hv n, hev.trans he⟩, by simpa [Act.put] using hs, hdf⟩

/-- An operation that tells a value and leaves the world alone. -/
def _root_.Go.Oper.pureWp (P : Program) (o : Oper) (a : Act) (w : World) (nx : Act → Prop) : Prop := ∃ v, (execOp a.eval o).run P w = .ok (.value v) w ∧ nx (a.put o.dst v)

/-- An operation that tells a value in whatever world. -/
def _root_.Go.Oper.timeWp (P : Program) (o : Oper) (a : Act) (nx : Act → Prop) : Prop := ∃ v, (∀ w, (execOp a.eval o).run P w = .ok (.value v) w) ∧ nx (a.put o.dst v)
theorem time_pure {o : Oper} {nx : Act → Prop} (h : o.timeWp P a nx) : o.pureWp P a w nx := by
  obtain ⟨v, hr, hn⟩ := h
  exact ⟨v, hr w, hn⟩

theorem upon_val {o : Oper} {next : Act → World → Prop} {Q : Exit → Act → World → Prop} {v : Value} (hr : (execOp a.eval o).run P w = .ok (.value v) w') (hn : next (a.put o.dst v) w') : o.wp P a w next Q := by
  unfold Oper.wp
  rw [hr]
  exact hn
theorem pure_wp {o : Oper} {next : Act → World → Prop} {Q : Exit → Act → World → Prop} (h : o.pureWp P a w fun a' => next a' w) : o.wp P a w next Q := by
  obtain ⟨v, hr, hn⟩ := h
  exact upon_val hr hn
theorem pure_still {o : Oper} {nx : Act → Prop} (h : o.pureWp P a w nx) : o.still P a w nx := by
  obtain ⟨v, hr, hn⟩ := h
  unfold Oper.still
  rw [hr]
  exact ⟨rfl, hn⟩
theorem upon_skp {o : Oper} {next : Act → World → Prop} {Q : Exit → Act → World → Prop} (hr : (execOp a.eval o).run P w = .ok .skip w') (hn : next (a.put o.dst undef) w') : o.wp P a w next Q := by
  unfold Oper.wp
  rw [hr]
  exact hn

end

section
variable {w : World} {env : Env} {bad : Nat → Prop}
theorem val_of {v : AV} {u x : Value} (h : VRel w env bad v u) (hv : valOf v = some x) : u = x ∧ flatv x = true := by
  cases h with
  | @c y _ h =>
    cases y with
    | p y =>
      cases y with
      | v y =>
        cases hv
        cases h with
        | v h => exact ⟨rfl, h⟩
      | sl => cases hv
    | _ => cases hv
  | agg => cases hv
  | tup => cases hv
theorem bool_of {v : AV} {u : Value} {b : Bool} (h : VRel w env bad v u) (hv : boolOf v = some b) : u = .bool b := by
  cases h with
  | @c y _ h =>
    cases y with
    | p y =>
      cases y with
      | v y =>
        cases y with
        | bool y =>
          cases hv
          cases h
          rfl
        | _ => cases hv
      | sl => cases hv
    | _ => cases hv
  | agg => cases hv
  | tup => cases hv
theorem int_of {v : AV} {u : Value} {k : IntKind} {n : Int} (h : VRel w env bad v u) (hv : intOf' v = some (k, n)) : u = .int k n := by
  cases h with
  | @c y _ h =>
    cases y with
    | p y =>
      cases y with
      | v y =>
        cases y with
        | int k y =>
          cases hv
          cases h
          rfl
        | _ => cases hv
      | sl => cases hv
    | _ => cases hv
  | agg => cases hv
  | tup => cases hv
theorem vrel_v {x : Value} (h : flatv x = true) : VRel w env bad (.c (.p (.v x))) x := .c (show CRel _ _ _ (.p (.v x)) x from PRel.v h)
theorem len_of {v : AV} {u : Value} {n : Nat} (h : VRel w env bad v u) (hv : lenOf' v = some n) : ∃ A c, u = .slice A n c := by
  cases h with
  | @c y _ h =>
    cases y with
    | p y =>
      cases y with
      | v y =>
        cases h with
        | v h =>
          unfold lenOf' at hv
          split at hv <;> simp_all
      | sl sz l =>
        cases hv
        cases h with
        | sl U hz hn => exact ⟨_, _, by rw [hn]⟩
    | tight sz l =>
      cases hv
      obtain ⟨_, A, rfl⟩ := h
      exact ⟨_, _, rfl⟩
    | own id off sz len cap =>
      cases hv
      rcases h.2 with ⟨_, _, rfl, rfl⟩ | ⟨g, c, k, _, rfl, _⟩ <;> exact ⟨_, _, rfl⟩
    | _ => cases hv
  | agg => cases hv
  | tup => cases hv
theorem tup_of {l : List AV} {u : Value} (h : VRel w env bad (.tup l) u) : ∃ vs : List Value, u = .tuple vs.toArray ∧ l.length = vs.length ∧ ∀ i (h1 : i < l.length) (h2 : i < vs.length), VRel w env bad l[i] vs[i] := by
  cases h with
  | tup hn h => exact ⟨_, rfl, hn, h⟩
theorem agg_of {l : List AC} {u : Value} (h : VRel w env bad (.agg l) u) : ∃ vs : List Value, u = .agg vs.toArray ∧ All2 (CRel w env bad) l vs ∧ l.all AC.known = true := by
  cases h with
  | agg h hk => exact ⟨_, rfl, h, hk⟩
theorem c_of {x : AC} {u : Value} (h : VRel w env bad (.c x) u) : CRel w env bad x u := by
  cases h with
  | c h => exact h
end

/-- A cell that is known, in a world. -/
abbrev KRel (w : World) (env : Env) (bad : Nat → Prop) (x : AC) (v : Value) : Prop := CRel w env bad x v ∧ x.known = true
theorem KRel.ev {w w' : World} {env env' : Env} {bad bad' : Nat → Prop} (h : Ev w env bad w' env' bad') {x : AC} {v : Value} (r : KRel w env bad x v) : KRel w' env' bad' x v := ⟨r.1.ev h, r.2⟩
theorem KRel.one {w : World} {env : Env} {bad : Nat → Prop} {x : AC} {v : Value} (r : KRel w env bad x v) : v.oneCell' = true := CRel.one r.2 r.1
theorem upL_len {ls : List (List PV)} : (upL ls).length = ls.length := List.length_map ..
theorem upL_get {ls : List (List PV)} {i : Nat} (h : i < (upL ls).length) : (upL ls)[i] = (ls[i]'(by rw [upL_len] at h; exact h)).map AC.p := List.getElem_map ..
theorem upL_rel {w : World} {env : Env} {bad : Nat → Prop} {ls : List (List PV)} {f : Nat → Nat → Option Value} (h : ∀ i (h : i < ls.length), ∀ j (h' : j < ls[i].length), ∃ u, f i j = some u ∧ PRel w bad ls[i][j] u) :
    ∀ i (h : i < (upL ls).length), ∀ j (h' : j < (upL ls)[i].length), ∃ u, f i j = some u ∧ KRel w env bad (upL ls)[i][j] u := by
  intro i hi j hj
  have hi' : i < ls.length := by rw [upL_len] at hi; exact hi
  simp only [upL_get hi] at hj ⊢
  obtain ⟨u, h1, h2⟩ := h i hi' j (by simpa using hj)
  refine ⟨u, h1, ?_⟩
  rw [List.getElem_map]
  exact ⟨h2, rfl⟩
theorem upL_sz {sz : Nat} {ls : List (List PV)} (h : ∀ i (h : i < ls.length), ls[i].length = sz) : ∀ i (h : i < (upL ls).length), (upL ls)[i].length = sz := by
  intro i hi
  rw [upL_get hi, List.length_map]
  exact h i _
theorem esOf_live {r : Reg} {sz : Nat} {ls : List (List AC)} (h : esOf r = some (sz, ls)) : r.live = true := by
  cases r <;> first | rfl | cases h
theorem RRel.toEs {P : Program} {w : World} {env : Env} {bad : Nat → Prop} {id : Nat} {r : Reg} {sz : Nat} {ls : List (List AC)} (h : RRel P w env bad id r) (he : esOf r = some (sz, ls)) : RRel P w env bad id (.es sz ls) := by
  cases r with
  | pc sz' ls' =>
    cases he
    obtain ⟨hz, hs, h⟩ := h
    refine ⟨hz, upL_sz hs, ?_⟩
    rcases h with ⟨h1, h2⟩ | ⟨g, c, cur, t, e, hg, h1, h2, h3, h4⟩
    · exact .inl ⟨h1, by rw [h2]; rfl⟩
    · exact .inr ⟨g, c, cur, t, e, hg, h1, h2, by rw [upL_len]; exact h3, upL_rel h4⟩
  | es sz' ls' => cases he; exact h
  | ac l => cases he
  | ob o => cases he
  | lp f j sl st pe => cases he
  | dead => cases he

theorem run_equal_bool {P : Program} {t : TypeId} (ht : P.underlying t = some .bool) (w : World) (a b : Bool) : (Op.equal t (.bool a) (.bool b)).run P w = .ok (a == b) w := by
  have h : ∀ d, (Op.equalIn (d + 1) t (.bool a) (.bool b)).run P w = .ok (a == b) w := by
    intro d
    simp [Op.equalIn, run_underlying ht]
  exact h 9999

/-- The operator over plain values. -/
theorem bin_sound {P : Program} {op : BinOp} {t : TypeId} {x y : Operand} {u v : Value} {K : Value → Prop} (h : binW op u v K) :
    ∃ r, (∀ w, (do eqGuard op t x y u v; binOp op t u v : Sem Value).run P w = .ok r w) ∧ flatv r = true ∧ K r := by
  unfold binW at h
  split at h
  all_goals (try exact h.elim)
  all_goals (try obtain ⟨rfl, h⟩ := h)
  · exact ⟨_, fun w => by simp [eqGuard, binOp, Op.intArith], rfl, h⟩
  · exact ⟨_, fun w => by simp [eqGuard, binOp, Op.intArith], rfl, h⟩
  · exact ⟨_, fun w => by simp [eqGuard, binOp, Op.intArith], rfl, h⟩
  · exact ⟨_, fun w => by simp [eqGuard, binOp, Op.intDiv, h.1], rfl, h.2⟩
  · exact ⟨_, fun w => by simp [eqGuard, binOp, Op.intDiv, h.1], rfl, h.2⟩
  · exact ⟨_, fun w => by simp [eqGuard, binOp, intBits_and], rfl, h⟩
  · exact ⟨_, fun w => by simp [eqGuard, binOp, intBits_or], rfl, h⟩
  · exact ⟨_, fun w => by simp [eqGuard, binOp, intBits_xor], rfl, h⟩
  · exact ⟨_, fun w => by simp [eqGuard, binOp, intBits_andNot], rfl, h⟩
  · rename_i k a b
    exact ⟨.bool (a == b), fun w => by simp [eqGuard, binOp, Op.intCmp], rfl, by rw [show (a == b) = decide (a = b) from rfl]; exact h⟩
  · rename_i k a b
    exact ⟨.bool (a != b), fun w => by simp [eqGuard, binOp, Op.intCmp], rfl, by rw [show (a != b) = !decide (a = b) from rfl]; exact h⟩
  · exact ⟨_, fun w => by simp [eqGuard, binOp, Op.intCmp], rfl, h⟩
  · exact ⟨_, fun w => by simp [eqGuard, binOp, Op.intCmp], rfl, h⟩
  · exact ⟨_, fun w => by simp [eqGuard, binOp, Op.intCmp], rfl, h⟩
  · exact ⟨_, fun w => by simp [eqGuard, binOp, Op.intCmp], rfl, h⟩
  · have h0 := Int.not_lt.mpr h.1
    exact ⟨_, fun w => by simp [eqGuard, binOp, Op.shift, h0], rfl, h.2⟩
  · rename_i k a k' b
    have h0 := Int.not_lt.mpr h.1
    have hp : (0 : Int) ≤ 2 ^ (min b.toNat k.bits) := Int.pow_nonneg (by decide)
    refine ⟨.int k (a.fdiv (2 ^ min b.toNat k.bits)), fun w => by simp [eqGuard, binOp, Op.shift, h0], rfl, ?_⟩
    rw [Int.fdiv_eq_ediv_of_nonneg _ hp]
    exact h.2
  · rename_i a b
    refine ⟨.string (a ++ b), fun w => ?_, rfl, h.2⟩
    simp only [eqGuard, binOp, Op.stringOp]
    simp
    have := h.1
    omega
  · exact ⟨_, fun w => by simp [eqGuard, binOp, Op.stringOp], rfl, h⟩
  · exact ⟨_, fun w => by simp [eqGuard, binOp, Op.stringOp], rfl, h⟩

end Go.Sim
