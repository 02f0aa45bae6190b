/- Calls over the plain picture. Of no program. -/
import Derived.Test.YtcfheegmggfkfaaSimL
namespace Go.Sim
open Go.RowKit Go.Proofs.Ytcfheegmggfkfaa.B

section
variable {P : Program} {w0 w w' : World} {env0 env : Env} {bad0 : Nat → Prop} {fps : List Nat} {base : Nat → Prop} {N : Nat} {regs : List Reg} {s : St} {a : Act} {o : Oper}
  {next : Act → World → Prop} {Q : Exit → Act → World → Prop} {K : St → Prop}

theorem enters {f : FuncId} (h : FnOk P f) (args : Array Value) (w : World) : (callFunc f args).run P w = .ok (.enter f args) w := by
  obtain ⟨fn, hf, hname, hb⟩ := h
  have hb' : fn.body ≠ none := by intro e; rw [e] at hb; cases hb
  simp [callFunc, hf, hb', show fn.name ≠ "runtime.NumGoroutine" from by simpa using hname]

theorem call_run {f : FuncId} {x : Operand} {as : Array Operand} {ts : Array TypeId} {fs cs : List Value} (ho : o.op = .call { callee := .value x, args := as, argTypes := ts }) (hx : a.eval x = .func (.func f) fs.toArray cs.toArray) (h : FnOk P f) :
    (execOp a.eval o).run P w = .ok (.enter f (fs ++ as.toList.map a.eval ++ cs).toArray) w := by
  have he := enters h (fs ++ as.toList.map a.eval ++ cs).toArray w
  have ha : fs.toArray ++ as.map a.eval ++ cs.toArray = (fs ++ as.toList.map a.eval ++ cs).toArray := by apply Array.ext'; simp
  unfold execOp
  simp only [ho, resolve, Deferred.ofValue, hx, invoke, Sem.run_bind, Sem.run_pure, Result.andThen_ok]
  rw [ha]
  exact he

theorem evs_sound {bad : Nat → Prop} (h : ∀ n, VRel w env bad (lk s.slots n) (a.tmps.getD n undef)) : ∀ {xs : List Operand} {axs : List AX}, allOf trX xs = some axs → All2 (VRel w env bad) (axs.map s.ev) (xs.map a.eval) := by
  intro xs
  induction xs with
  | nil => intro axs h; cases h; trivial
  | cons x xs ih =>
    intro axs hx
    simp only [allOf, Option.bind_eq_some_iff, Option.map_eq_some_iff] at hx
    obtain ⟨ax, h1, l, h2, rfl⟩ := hx
    exact ⟨ev_sound h h1, ih h2⟩

theorem R.called (hR : R w0 env0 bad0 fps base N s a w) (hd : ∀ n, o.dst = some n → n < N) {f : Nat} {args : List AV}
    (hrun : ∀ env, (∀ n, VRel w env (badOf base env s.regs) (lk s.slots n) (a.tmps.getD n undef)) → ∃ vs : List Value, (FnOk P f → (execOp a.eval o).run P w = .ok (.enter f vs.toArray) w) ∧ All2 (VRel w env (badOf base env s.regs)) args vs) (h : FS P f args s.regs fun res regs' => K (s.putr o.dst res regs'))
    (hK : ∀ s' a' w', K s' → R w0 env0 bad0 fps base N s' a' w' → next a' w') : o.wp P a w next Q := by
  obtain ⟨⟨env, hrs, hsl, hev⟩, hsz, hdf⟩ := hR
  obtain ⟨hok, hf⟩ := h
  obtain ⟨vs, hrun, hargs⟩ := hrun env hsl
  let fps' := fps ++ (List.range w.heap.size).filter (fun b => decide (w0.heap.size ≤ b))
  have hfp : ∀ b, b ∈ fps' → b ∈ fps ∨ w0.heap.size ≤ b := by
    intro b hb
    rcases List.mem_append.1 hb with h | h
    · exact .inl h
    · exact .inr (by simpa using (List.mem_filter.1 h).2)
  have hrs1 : RS w w fps' base env s.regs := ⟨Keep.refl _ _, fun b hb => ⟨Nat.lt_of_lt_of_le (hrs.base_lt b hb).1 hrs.keep.size, fun hx => by
    rcases hfp b hx with h | h
    · exact (hrs.base_lt b hb).2 h
    · have := (hrs.base_lt b hb).1; omega⟩, hrs.len, hrs.reg, fun id r g c hr hl he => by
      obtain ⟨h1, h2⟩ := hrs.own id r g c hr hl he
      refine ⟨.inl (List.mem_append.2 ?_), h2⟩
      rcases h1 with h1 | h1
      · exact .inl h1
      · exact .inr (List.mem_filter.2 ⟨List.mem_range.2 h2, by simpa using h1⟩), hrs.inj⟩
  unfold Oper.wp
  rw [hrun hok, Oper.upon_enter]
  refine (hf w fps' base env vs hrs1 hargs).mono fun e w' hh => ?_
  obtain ⟨v, res, regs', env', rfl, hk, hrs2, hv, hev'⟩ := hh
  have hsize : w0.heap.size ≤ w.heap.size := hrs.keep.size
  have hrs3 : RS w0 w' fps base env' regs' := ⟨hrs.keep.trans' hrs2.keep hfp, hrs.base_lt, hrs2.len, hrs2.reg, fun id r g c hr hl he => by
    obtain ⟨h1, h2⟩ := hrs2.own id r g c hr hl he
    refine ⟨?_, h2⟩
    rcases h1 with h1 | h1
    · exact hfp g h1
    · exact .inr (Nat.le_trans hsize h1), hrs2.inj⟩
  exact hK _ _ _ hk (R.put' hsz hdf hsl hev hrs3 hev' hd hv)

theorem sound_call {f : Nat} {as : Array Operand} {ts : Array TypeId} {axs : List AX} (ho : o.op = .call { callee := .value (.func f), args := as, argTypes := ts }) (hx : allOf trX as.toList = some axs)
    (hd : ∀ n, o.dst = some n → n < N) (h : opW P (.call o.dst f axs) s K) (hR : R w0 env0 bad0 fps base N s a w) (hK : ∀ s' a' w', K s' → R w0 env0 bad0 fps base N s' a' w' → next a' w') : o.wp P a w next Q :=
  hR.called hd (fun env hsl => ⟨as.toList.map a.eval, fun hok => by simpa using call_run (fs := []) (cs := []) ho rfl hok, evs_sound hsl hx⟩) h hK

theorem fas_sound {bad : Nat → Prop} : ∀ {l : List FA} {vs : List Value}, All2 (FRel w env bad) l vs → All2 (VRel w env bad) (l.map avFA) vs
  | [], [], _ => trivial
  | .p _ :: _, _ :: _, h => ⟨.c h.1, fas_sound h.2⟩
  | .ptr _ _ :: _, _ :: _, h => ⟨.c h.1, fas_sound h.2⟩
  | [], _ :: _, h => h.elim
  | .p _ :: _, [], h => h.elim
  | .ptr _ _ :: _, [], h => h.elim

theorem fn_of {bad : Nat → Prop} {v : AV} {u : Value} {f : Fn} {fa ca : List FA} (h : VRel w env bad v u) (hv : v = .c (.fn f fa ca)) : ∃ fs cs : List Value, u = .func f fs.toArray cs.toArray ∧ All2 (FRel w env bad) fa fs ∧ All2 (FRel w env bad) ca cs := by
  subst hv
  exact c_of h

theorem sound_callv {x : Operand} {ax : AX} {as : Array Operand} {ts : Array TypeId} {axs : List AX} (ho : o.op = .call { callee := .value x, args := as, argTypes := ts }) (hax : trX x = some ax) (hx : allOf trX as.toList = some axs)
    (hd : ∀ n, o.dst = some n → n < N) (h : opW P (.callv o.dst ax axs) s K) (hR : R w0 env0 bad0 fps base N s a w) (hK : ∀ s' a' w', K s' → R w0 env0 bad0 fps base N s' a' w' → next a' w') : o.wp P a w next Q := by
  simp only [opW] at h
  split at h
  · rename_i f fa ca he
    refine hR.called hd (fun env hsl => ?_) h hK
    obtain ⟨fs, cs, hv, h1, h2⟩ := fn_of (ev_sound hsl hax) he
    exact ⟨fs ++ as.toList.map a.eval ++ cs, fun hok => call_run ho hv hok, ((fas_sound h1).append (evs_sound hsl hx)).append (fas_sound h2)⟩
  · exact h.elim

end
end Go.Sim
