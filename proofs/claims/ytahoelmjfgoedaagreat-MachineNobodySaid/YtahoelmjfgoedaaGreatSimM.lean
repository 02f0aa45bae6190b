/- Calls over the plain picture. Of no program. -/
import Derived.Test.YtahoelmjfgoedaaGreatSimL
namespace Go.Sim
open Go.RowKit Go.Proofs.YtahoelmjfgoedaaGreat.B

/-! ### the widest fence -/
section
variable {P : Program} {ro : Option Nat} {n : Nat}
theorem fenced_Fw (m : Machine) : m.fenced P (Fw ro) := by
  intro g _
  refine ⟨fun h => ?_, Or.inl trivial, fun _ _ => trivial, fun _ h => ?_⟩
  · simp [Fw] at h
  · simp [Fw] at h
theorem room_Fw (k : Nat) : (Fw ro).room k := fun _ h => by simp [Fw] at h
theorem stepsIn_Fw {m m' : Machine} : StepsIn (Machine.fenced P (Fw ro)) P m m' ↔ Steps P m m' :=
  ⟨StepsIn.steps, fun h => (StepsIn.of_steps h).mono fun m _ => fenced_Fw m⟩
theorem comesIn_Fw {m m' : Machine} {e : Ending} : ComesIn (Machine.fenced P (Fw ro)) P m m' e ↔ Comes P m m' e := by
  cases e with
  | returned v => exact stepsIn_Fw
  | panicked chain => exact stepsIn_Fw
  | outgrown => exact Iff.rfl
theorem callsIn_Fw {f : FuncId} {args : Array Value} {w : World} {R : Ending → World → Prop} : CallsIn (Fw ro) n P f args w R ↔ Calls P f args w R :=
  ⟨fun h cs => let ⟨e, w', fr, r, s, x⟩ := h.2 cs (room_Fw _); ⟨e, w', fr, r, comesIn_Fw.1 s, x⟩,
   fun h => ⟨trivial, fun cs _ => let ⟨e, w', fr, r, s, x⟩ := h cs; ⟨e, w', fr, r, comesIn_Fw.2 s, x⟩⟩⟩
theorem depth_Fw : (Fw ro).depth.isSome = true → 1 ≤ n := fun h => by simp [Fw] at h
/-- An operation that is no defer does in a round what it does elsewhere. -/
theorem wp_in {o : Oper} {a : Act} {w : World} {next : Act → World → Prop} {Q : Exit → Act → World → Prop} (hd : ∀ c, o.op ≠ .defer c) (h : o.wp P a w next Q) : o.wpIn (Fw ro) n P a w next Q := by
  unfold Oper.wp at h
  unfold Oper.wpIn
  refine ⟨fun _ _ => trivial, ?_⟩
  rw [Oper.semAt_eq _ _ _ hd]
  unfold Oper.upon at h
  split at h
  · rename_i v w' hr; rw [hr]; exact h
  · rename_i w' hr; rw [hr]; exact h
  · rename_i d w' hr; rw [hr]; exact h
  · rename_i f args w' hr; rw [hr]; exact ⟨depth_Fw, callsIn_Fw.2 h⟩
  · rename_i row args w' hr
    rw [hr]
    refine ⟨depth_Fw, fun c cs _ => ?_⟩
    obtain ⟨v, w'', hv, hs⟩ := h c cs
    exact ⟨v, w'', hv, stepsIn_Fw.2 hs⟩
  · rename_i v w' hr; rw [hr]; exact h
  · exact h.elim
/-- All but what never comes. -/
def noOut (Q : Exit → Act → World → Prop) : Exit → Act → World → Prop
  | .outgrown, _, _ => False
  | e, a, w => Q e a w
theorem noOut_lets {Q : Exit → Act → World → Prop} : ¬ LetsOut (noOut Q) := fun ⟨_, _, h⟩ => h
theorem any_in {ops : Array Oper} {md : Region.Mode} {Q : Exit → Act → World → Prop} (hd : ∀ (i : Nat) (o : Oper), ops[i]? = some o → ∀ c, o.op ≠ .defer c) (hq : ¬ LetsOut Q) : ∀ (fuel : Nat) (listed : Array Bool) (a : Act) (w : World), wpAny P md ops Q fuel listed a w → wpAnyIn (Fw ro) n P md ops Q fuel listed a w := by
  intro fuel
  induction fuel with
  | zero => exact fun listed a w h => h
  | succ fuel ih =>
    intro listed a w h
    refine ⟨h.1, fun i hi => ?_⟩
    have := h.2 i hi
    unfold wpOp at this
    unfold wpOpIn
    cases ho : ops[i]? with
    | none =>
      simp only [ho] at this
      exact ih _ _ _ this
    | some o =>
      simp only [ho] at this
      by_cases hw : Region.wanted o (yielded ops a.tmps) = true
      · simp only [hw, if_true] at this ⊢
        rcases this with this | ⟨_, hx⟩
        · exact wp_in (hd i o ho) (Oper.wp_mono (fun a w => ih _ a w) this)
        · exact absurd hx hq
      · simp only [hw, if_false, Bool.false_eq_true] at this ⊢
        exact ⟨fun _ _ => trivial, ih _ _ _ this⟩
end

section
variable {P : Program} {w0 w w' : World} {env0 env : Env} {bad0 : Bs} {fps : List Nat} {base : Nat → Prop} {N : Nat} {regs : List Reg} {s : St} {a : Act} {o : Oper}
  {next : Act → World → Prop} {Q : Exit → Act → World → Prop} {K : St → Prop}

theorem enters {f : FuncId} (h : FnOk P f) (args : Array Value) (w : World) : (callFunc f args).run P w = .ok (.enter f args) w := by
  obtain ⟨fn, hf, hname, hb⟩ := h
  have hb' : fn.body ≠ none := by intro e; rw [e] at hb; cases hb
  simp [callFunc, hf, hb', show fn.name ≠ "runtime.NumGoroutine" from by simpa using hname]

theorem call_run {f : FuncId} {x : Operand} {as : Array Operand} {ts : Array TypeId} {fs cs : List Value} (ho : o.op = .call { callee := .value x, args := as, argTypes := ts }) (hx : a.eval x = .func (.func f) fs.toArray cs.toArray) (h : FnOk P f) :
    (execOp a.eval o).run P w = .ok (.enter f (fs ++ as.toList.map a.eval ++ cs).toArray) w := by
  have he := enters h (fs ++ as.toList.map a.eval ++ cs).toArray w
  have ha : fs.toArray ++ as.map a.eval ++ cs.toArray = (fs ++ as.toList.map a.eval ++ cs).toArray := by apply Array.ext'; simp
  unfold execOp
  simp only [ho, resolve, Deferred.ofValue, hx, invoke, Sem.run_bind, Sem.run_pure, Result.andThen_ok]
  rw [ha]
  exact he

theorem evs_sound {bad : Nat → Prop} (h : ∀ n, VRel w env bad (lk s.slots n) (a.tmps.getD n undef)) : ∀ {xs : List Operand} {axs : List AX}, allOf trX xs = some axs → All2 (VRel w env bad) (axs.map s.ev) (xs.map a.eval) := by
  intro xs
  induction xs with
  | nil => intro axs h; cases h; trivial
  | cons x xs ih =>
    intro axs hx
    simp only [allOf, Option.bind_eq_some_iff, Option.map_eq_some_iff] at hx
    obtain ⟨ax, h1, l, h2, rfl⟩ := hx
    exact ⟨ev_sound h h1, ih h2⟩

theorem R.called (hR : R P w0 env0 bad0 fps base N s a w) (hd : ∀ n, o.dst = some n → n < N) {f : Nat} {args : List AV}
    (hrun : ∀ env, (∀ n, VRel w env (badOf base env s.regs) (lk s.slots n) (a.tmps.getD n undef)) → ∃ vs : List Value, (FnOk P f → (execOp a.eval o).run P w = .ok (.enter f vs.toArray) w) ∧ All2 (VRel w env (badOf base env s.regs)) args vs) (h : FS P f args s.regs fun res regs' => K (s.putr o.dst res regs'))
    (hK : ∀ s' a' w', K s' → R P w0 env0 bad0 fps base N s' a' w' → next a' w') : o.wp P a w next Q := by
  obtain ⟨⟨env, hrs, hsl, hev⟩, hsz, hdf⟩ := hR
  obtain ⟨hok, hf⟩ := h
  obtain ⟨vs, hrun, hargs⟩ := hrun env hsl
  let fps' := fps ++ (List.range w.heap.size).filter (fun b => decide (w0.heap.size ≤ b))
  have hfp : ∀ b, b ∈ fps' → b ∈ fps ∨ w0.heap.size ≤ b := by
    intro b hb
    rcases List.mem_append.1 hb with h | h
    · exact .inl h
    · exact .inr (by simpa using (List.mem_filter.1 h).2)
  have hrs1 : RS P w w fps' base env s.regs := ⟨Keep.refl _ _, fun b hb => ⟨Nat.lt_of_lt_of_le (hrs.base_lt b hb).1 hrs.keep.size, fun hx => by
    rcases hfp b hx with h | h
    · exact (hrs.base_lt b hb).2 h
    · have := (hrs.base_lt b hb).1; omega⟩, hrs.len, hrs.reg, fun id r g c hr hl he => by
      obtain ⟨h1, h2⟩ := hrs.own id r g c hr hl he
      refine ⟨.inl (List.mem_append.2 ?_), h2⟩
      rcases h1 with h1 | h1
      · exact .inl h1
      · exact .inr (List.mem_filter.2 ⟨List.mem_range.2 h2, by simpa using h1⟩), hrs.inj⟩
  unfold Oper.wp
  rw [hrun hok, Oper.upon_enter]
  refine (hf w fps' base env vs hrs1 hargs).mono fun e w' hh => ?_
  obtain ⟨v, res, regs', env', rfl, hk, hrs2, hv, hev'⟩ := hh
  have hsize : w0.heap.size ≤ w.heap.size := hrs.keep.size
  have hrs3 : RS P w0 w' fps base env' regs' := ⟨hrs.keep.trans' hrs2.keep hfp, hrs.base_lt, hrs2.len, hrs2.reg, fun id r g c hr hl he => by
    obtain ⟨h1, h2⟩ := hrs2.own id r g c hr hl he
    refine ⟨?_, h2⟩
    rcases h1 with h1 | h1
    · exact hfp g h1
    · exact .inr (Nat.le_trans hsize h1), hrs2.inj⟩
  exact hK _ _ _ hk (R.put' hsz hdf hsl hev hrs3 hev' hd hv)

theorem sound_call {f : Nat} {as : Array Operand} {ts : Array TypeId} {axs : List AX} (ho : o.op = .call { callee := .value (.func f), args := as, argTypes := ts }) (hx : allOf trX as.toList = some axs)
    (hd : ∀ n, o.dst = some n → n < N) (h : opW P (.call o.dst f axs) s K) (hR : R P w0 env0 bad0 fps base N s a w) (hK : ∀ s' a' w', K s' → R P w0 env0 bad0 fps base N s' a' w' → next a' w') : o.wp P a w next Q :=
  hR.called hd (fun env hsl => ⟨as.toList.map a.eval, fun hok => by simpa using call_run (fs := []) (cs := []) ho rfl hok, evs_sound hsl hx⟩) h hK

theorem fas_sound {bad : Nat → Prop} : ∀ {l : List FA} {vs : List Value}, All2 (FRel w env bad) l vs → All2 (VRel w env bad) (l.map avFA) vs
  | [], [], _ => trivial
  | .p _ :: _, _ :: _, h => ⟨.c h.1, fas_sound h.2⟩
  | .ptr _ _ :: _, _ :: _, h => ⟨.c h.1, fas_sound h.2⟩
  | [], _ :: _, h => h.elim
  | .p _ :: _, [], h => h.elim
  | .ptr _ _ :: _, [], h => h.elim

theorem fn_of {bad : Nat → Prop} {v : AV} {u : Value} {f : Fn} {fa ca : List FA} (h : VRel w env bad v u) (hv : v = .c (.fn f fa ca)) : ∃ fs cs : List Value, u = .func f fs.toArray cs.toArray ∧ All2 (FRel w env bad) fa fs ∧ All2 (FRel w env bad) ca cs := by
  subst hv
  exact c_of h

theorem sound_callv {x : Operand} {ax : AX} {as : Array Operand} {ts : Array TypeId} {axs : List AX} (ho : o.op = .call { callee := .value x, args := as, argTypes := ts }) (hax : trX x = some ax) (hx : allOf trX as.toList = some axs)
    (hd : ∀ n, o.dst = some n → n < N) (h : opW P (.callv o.dst ax axs) s K) (hR : R P w0 env0 bad0 fps base N s a w) (hK : ∀ s' a' w', K s' → R P w0 env0 bad0 fps base N s' a' w' → next a' w') : o.wp P a w next Q := by
  simp only [opW] at h
  split at h
  · rename_i f fa ca he
    refine hR.called hd (fun env hsl => ?_) h hK
    obtain ⟨fs, cs, hv, h1, h2⟩ := fn_of (ev_sound hsl hax) he
    exact ⟨fs ++ as.toList.map a.eval ++ cs, fun hok => call_run ho hv hok, ((fas_sound h1).append (evs_sound hsl hx)).append (fas_sound h2)⟩
  · exact h.elim

/-- Behind a call, by whatever road it comes. -/
theorem R.back (hR : R P w0 env0 bad0 fps base N s a w) (hd : ∀ n, o.dst = some n → n < N) {e : Env} (he : RS P w0 w fps base e s.regs ∧ (∀ n, VRel w e (badOf base e s.regs) (lk s.slots n) (a.tmps.getD n undef)) ∧ Ev bad0.w env0 bad0.bad w e (badOf base e s.regs)) :
    ∃ fps', RS P w w fps' base e s.regs ∧ ∀ v res regs' env' w', RS P w w' fps' base env' regs' → VRel w' env' (badOf base env' regs') res v → Ev w e (badOf base e s.regs) w' env' (badOf base env' regs') → R P w0 env0 bad0 fps base N (s.putr o.dst res regs') (a.put o.dst v) w' := by
  obtain ⟨_, hsz, hdf⟩ := hR
  obtain ⟨hrs, hsl, hev⟩ := he
  let fps' := fps ++ (List.range w.heap.size).filter (fun b => decide (w0.heap.size ≤ b))
  have hfp : ∀ b, b ∈ fps' → b ∈ fps ∨ w0.heap.size ≤ b := by
    intro b hb
    rcases List.mem_append.1 hb with h | h
    · exact .inl h
    · exact .inr (by simpa using (List.mem_filter.1 h).2)
  refine ⟨fps', ⟨Keep.refl _ _, fun b hb => ⟨Nat.lt_of_lt_of_le (hrs.base_lt b hb).1 hrs.keep.size, fun hx => by
    rcases hfp b hx with h | h
    · exact (hrs.base_lt b hb).2 h
    · have := (hrs.base_lt b hb).1; omega⟩, hrs.len, hrs.reg, fun id r g c hr hl he => by
      obtain ⟨h1, h2⟩ := hrs.own id r g c hr hl he
      refine ⟨.inl (List.mem_append.2 ?_), h2⟩
      rcases h1 with h1 | h1
      · exact .inl h1
      · exact .inr (List.mem_filter.2 ⟨List.mem_range.2 h2, by simpa using h1⟩), hrs.inj⟩, ?_⟩
  intro v res regs' env' w' hrs2 hv hev'
  have hsize : w0.heap.size ≤ w.heap.size := hrs.keep.size
  have hrs3 : RS P w0 w' fps base env' regs' := ⟨hrs.keep.trans' hrs2.keep hfp, hrs.base_lt, hrs2.len, hrs2.reg, fun id r g c hr hl he => by
    obtain ⟨h1, h2⟩ := hrs2.own id r g c hr hl he
    refine ⟨?_, h2⟩
    rcases h1 with h1 | h1
    · exact hfp g h1
    · exact .inr (Nat.le_trans hsize h1), hrs2.inj⟩
  exact R.put' hsz hdf hsl hev hrs3 hev' hd hv
theorem yl_of {bad : Nat → Prop} {v : AV} {u : Value} {id : Nat} (h : VRel w env bad v u) (hv : v = .c (.hnd .yl id)) : ∃ l c, env.f id = some (l, c) ∧ u = .func (.yield l) #[] #[] := by
  subst hv
  obtain ⟨_, g, c, he, hv⟩ := c_of h
  exact ⟨g, c, he, hv⟩
theorem sound_cally {ro : Option Nat} {n : Nat} {x : Operand} {ax : AX} {as : Array Operand} {ts : Array TypeId} {axs : List AX} (ho : o.op = .call { callee := .value x, args := as, argTypes := ts }) (hax : trX x = some ax) (hx : allOf trX as.toList = some axs)
    (hd : ∀ n, o.dst = some n → n < N) (h : opW P (.cally o.dst ax axs) s K) (hR : R P w0 env0 bad0 fps base N s a w) (hK : ∀ s' a' w', K s' → R P w0 env0 bad0 fps base N s' a' w' → next a' w') : o.wpIn (Fw ro) n P a w next Q := by
  simp only [opW] at h
  split at h
  · rename_i f fa ca he
    refine wp_in (by rw [ho]; intro c e; cases e) (hR.called hd (fun env hsl => ?_) h hK)
    obtain ⟨fs, cs, hv, h1, h2⟩ := fn_of (ev_sound hsl hax) he
    exact ⟨fs ++ as.toList.map a.eval ++ cs, fun hok => call_run ho hv hok, ((fas_sound h1).append (evs_sound hsl hx)).append (fas_sound h2)⟩
  · rename_i id he
    obtain ⟨env, hrs, hsl, hev⟩ := hR.ex
    obtain ⟨l, c, hl, hv⟩ := yl_of (ev_sound hsl hax) he
    obtain ⟨fps', hrs1, hback⟩ := hR.back hd ⟨hrs, hsl, hev⟩
    obtain ⟨f, tmps, asg, body, hy, hr⟩ := h w fps' base env (as.toList.map a.eval) hrs1 (evs_sound hsl hx) l c hl
    have hrun : (execOp a.eval o).run P w = .ok (.round l f tmps asg body) w := by
      unfold execOp
      have ha : (as.map a.eval) = (as.toList.map a.eval).toArray := by apply Array.ext'; simp
      simp only [ho, resolve, Deferred.ofValue, hv, invoke, Sem.run_bind, Sem.run_pure, Result.andThen_ok, Array.empty_append, ha]
      exact hy
    unfold Oper.wpIn
    refine ⟨fun _ _ => trivial, ?_⟩
    rw [Oper.semAt_eq _ _ _ (by rw [ho]; intro c e; cases e), hrun]
    refine ⟨depth_Fw, (hr ro (n - 1)).mono fun e w' hh => ?_⟩
    obtain ⟨v, res, regs', env', rfl, hk, hrs2, hv2, hev'⟩ := hh
    exact hK _ _ _ hk (hback v res regs' env' w' hrs2 hv2 hev')
  · exact h.elim

end
end Go.Sim
