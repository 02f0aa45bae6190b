/- Rounds of a loop over a function; the loop. Of no program. -/
import Derived.Test.YtahoelmjfgoedaaGreatSimW
namespace Go.Sim
open Go.RowKit Go.Proofs.YtahoelmjfgoedaaGreat.B
set_option linter.unusedVariables false
set_option linter.unusedSectionVars false

/-- A call's own view of the rows; and back. -/
theorem RS.enter {P : Program} {w0 w : World} {fps : List Nat} {base : Nat → Prop} {env : Env} {regs : List Reg} (hrs : RS P w0 w fps base env regs) :
    ∃ fps', RS P w w fps' base env regs ∧ ∀ w' env' regs', RS P w w' fps' base env' regs' → RS P w0 w' fps base env' regs' := by
  let fps' := fps ++ (List.range w.heap.size).filter (fun b => decide (w0.heap.size ≤ b))
  have hfp : ∀ b, b ∈ fps' → b ∈ fps ∨ w0.heap.size ≤ b := by
    intro b hb
    rcases List.mem_append.1 hb with h | h
    · exact .inl h
    · exact .inr (by simpa using (List.mem_filter.1 h).2)
  refine ⟨fps', ⟨Keep.refl _ _, fun b hb => ⟨Nat.lt_of_lt_of_le (hrs.base_lt b hb).1 hrs.keep.size, fun hx => by
    rcases hfp b hx with h | h
    · exact (hrs.base_lt b hb).2 h
    · have := (hrs.base_lt b hb).1; omega⟩, hrs.len, hrs.reg, fun id r g c hr hl he => by
      obtain ⟨h1, h2⟩ := hrs.own id r g c hr hl he
      refine ⟨.inl (List.mem_append.2 ?_), h2⟩
      rcases h1 with h1 | h1
      · exact .inl h1
      · exact .inr (List.mem_filter.2 ⟨List.mem_range.2 h2, by simpa using h1⟩), hrs.inj⟩, ?_⟩
  intro w' env' regs' hrs2
  have hsize : w0.heap.size ≤ w.heap.size := hrs.keep.size
  exact ⟨hrs.keep.trans' hrs2.keep hfp, hrs.base_lt, hrs2.len, hrs2.reg, fun id r g c hr hl he => by
    obtain ⟨h1, h2⟩ := hrs2.own id r g c hr hl he
    refine ⟨?_, h2⟩
    rcases h1 with h1 | h1
    · exact hfp g h1
    · exact .inr (Nat.le_trans hsize h1), hrs2.inj⟩
/-- A new block that is no row's. -/
theorem RS.grow {P : Program} {w0 w : World} {fps : List Nat} {base : Nat → Prop} {env : Env} {regs : List Reg} (h : RS P w0 w fps base env regs) (o : Obj) :
    RS P w0 (w.alloc o) fps base env regs ∧ Ev w env (badOf base env regs) (w.alloc o) env (badOf base env regs) := by
  have hev : Ev w env (badOf base env regs) (w.alloc o) env (badOf base env regs) := ⟨⟨by simp, fun b hb _ => Below.heap_alloc _ _ _ hb⟩, fun _ _ h => h, Env.le_refl _⟩
  exact ⟨⟨h.keep.alloc _, h.base_lt, h.len, fun id r hr => RRel.ev hev (h.live_lt hr) (fun hl g c he => Below.heap_alloc _ _ _ (h.own id r g c hr hl he).2) (h.reg id r hr), fun id r g c hr hl he => by
    have := h.own id r g c hr hl he
    exact ⟨this.1, by simp; omega⟩, h.inj⟩, hev⟩
/-- A row's block holds no calls that wait. -/
theorem RRel.not_def {P : Program} {w : World} {env : Env} {bad : Nat → Prop} {id : Nat} {r : Reg} (h : RRel P w env bad id r) (hl : r.live = true) {g c : Nat} (he : env.f id = some (g, c)) {x : Option (List Deferred)} : w.heap[g]? ≠ some (.deferred x) := by
  intro hx
  cases r with
  | dead => cases hl
  | pc sz ls =>
    obtain ⟨_, _, ⟨e, _⟩ | ⟨g', c', cur, t, e, hg, _⟩⟩ := h
    · rw [he] at e; cases e
    · rw [he] at e; cases e; rw [hx] at hg; cases hg
  | es sz ls =>
    obtain ⟨_, _, ⟨e, _⟩ | ⟨g', c', cur, t, e, hg, _⟩⟩ := h
    · rw [he] at e; cases e
    · rw [he] at e; cases e; rw [hx] at hg; cases hg
  | ac l =>
    obtain ⟨g', c', cur, t, e, hg, _⟩ := h
    rw [he] at e; cases e; rw [hx] at hg; cases hg
  | ob o =>
    obtain ⟨g', c', e, h⟩ := h
    rw [he] at e; cases e
    cases o with
    | mp l => obtain ⟨es, clock, l', hg, _⟩ := h; rw [hx] at hg; cases hg
    | ch cap q => obtain ⟨buf, s, r, hg, _⟩ := h; rw [hx] at hg; cases hg
  | lp f j sl st pe =>
    obtain ⟨g', c', L, N, fn, tmps, D, e, hL, hg, _⟩ := h
    rw [he] at e; cases e; rw [hx] at hg; cases hg
/-- A loop's record that turns. -/
theorem RS.loopTurn {P : Program} {w0 w : World} {fps : List Nat} {base : Nat → Prop} {env : Env} {regs : List Reg} (h : RS P w0 w fps base env regs) {id g c f j : Nat} {sl : List (Nat × AV)} {st st' : LpSt} {pe pe' : Option LpEx}
    (hr : regs[id]? = some (.lp f j sl st pe)) (he : env.f id = some (g, c)) : ∃ r : Loop, w.heap[g]? = some (.loop r) ∧ r.state = st.of ∧ r.pending = pe.map LpEx.of ∧
      RS P w0 (w.putObj g (.loop { r with state := st'.of, pending := pe'.map LpEx.of })) fps base env (regs.set id (.lp f j sl st' pe')) ∧
      Ev w env (badOf base env regs) (w.putObj g (.loop { r with state := st'.of, pending := pe'.map LpEx.of })) env (badOf base env (regs.set id (.lp f j sl st' pe'))) := by
  obtain ⟨g', c', L, N, fn, tmps, D, e, hL, hg, hts, hsl⟩ := h.reg id _ hr
  rw [he] at e
  cases e
  refine ⟨_, hg, rfl, rfl, h.turn hr rfl he rfl rfl rfl (by simp) (fun b hb => World.putObj_heap_other hb) rfl fun hev => ?_⟩
  exact ⟨g, c, L, N, fn, tmps, D, he, hL, World.putObj_heap_same (Array.getElem?_eq_some_iff.1 hg).1, hts, fun n => (hsl n).ev hev⟩

/-- What yield is handed lies in the loop's parameters. -/
def parSl : List Nat → List AV → List (Nat × AV) → List (Nat × AV)
  | t :: ts, v :: vs, sl => parSl ts vs ((t, v) :: sl)
  | _, _, sl => sl
theorem parSl_rel {w : World} {env : Env} {bad : Nat → Prop} : ∀ {ts : List Nat} {args : List AV} {vs : List Value} {sl : List (Nat × AV)} {tmps : Array Value}, All2 (VRel w env bad) args vs → ts.length = args.length → (∀ t ∈ ts, t < tmps.size) → (∀ n, VRel w env bad (lk sl n) (tmps.getD n undef)) →
    ((ts.zip vs).foldl (fun (tmps : Array Value) (p : Nat × Value) => tmps.setIfInBounds p.1 p.2) tmps).size = tmps.size ∧ ∀ n, VRel w env bad (lk (parSl ts args sl) n) (((ts.zip vs).foldl (fun (tmps : Array Value) (p : Nat × Value) => tmps.setIfInBounds p.1 p.2) tmps).getD n undef)
  | [], [], [], sl, tmps, _, _, _, h => ⟨rfl, h⟩
  | t :: ts, v :: args, u :: vs, sl, tmps, ha, hl, ht, h => by
    have := parSl_rel (ts := ts) (args := args) (vs := vs) (sl := (t, v) :: sl) (tmps := tmps.setIfInBounds t u) ha.2 (by simpa using hl) (fun t' ht' => by simpa using ht t' (List.mem_cons_of_mem _ ht')) (fun n => lk_put h (ht t List.mem_cons_self) ha.1 n)
    simp only [List.zip_cons_cons, List.foldl_cons, parSl]
    exact ⟨by rw [this.1]; simp, this.2⟩
  | [], _ :: _, _, _, _, _, hl, _, _ => by simp at hl
  | _ :: _, [], _, _, _, _, hl, _, _ => by simp at hl
  | _, [], _ :: _, _, _, h, _, _, _ => h.elim
  | _, _ :: _, [], _, _, h, _, _, _ => h.elim

/-- How a round ends. -/
def RoundEnd (id f j : Nat) (K : AV → List Reg → Prop) : Exit → St → Prop
  | .normal, s => ∃ sl, s.regs[id]? = some (.lp f j sl .busy none) ∧ K (.c (.p (.v (.bool true)))) (s.regs.set id (.lp f j sl .ready none))
  | .ret, s => ∃ sl, s.regs[id]? = some (.lp f j sl .busy none) ∧ K (.c (.p (.v (.bool false)))) (s.regs.set id (.lp f j sl .done (some .ret)))
  | .exit i, s => ∃ sl, s.regs[id]? = some (.lp f j sl .busy none) ∧ K (.c (.p (.v (.bool false)))) (s.regs.set id (.lp f j sl .done (some (.exit i))))
  | _, _ => False
/-- How the assignments to a loop's left sides end. -/
def RoundMid (P : Program) (n0 l id f j : Nat) (bd : ACode) (K : AV → List Reg → Prop) : Exit → St → Prop
  | .normal, s => ∃ sl, s.regs[id]? = some (.lp f j sl .ready none) ∧ codeW P n0 (some l) bd (fun e t => ∃ t', Weak P n0 t t' ∧ RoundEnd id f j K e t') ⟨s.slots, s.regs.set id (.lp f j sl .busy none)⟩
  | _, _ => False

theorem noSeg {P : Program} {N f : Nat} {c : Code} (h : (codeLoops c).isEmpty = true) : Seg P N f 0 c := fun i L hi => by
  rw [List.isEmpty_iff.1 h] at hi
  simp at hi

/-- A CALL OF YIELD. -/
theorem YS_of {P : Program} {f j id N : Nat} {L : LoopT} {args : List AV} {regs : List Reg} {K : AV → List Reg → Prop} {sl : List (Nat × AV)} {as bd : ACode} (hr : regs[id]? = some (.lp f j sl .ready none)) (hL : lpOf P f j = some (L, N)) (hn : L.ps.toList.length = args.length) (hlt : ∀ t ∈ L.ps.toList, t < N)
    (hta : trCode P N f 0 L.asg = some as) (hsa : (codeLoops L.asg).isEmpty = true) (htb : trCode P N f 0 L.body = some bd) (hsb : (codeLoops L.body).isEmpty = true)
    (h : ∀ l, codeW P regs.length (some l) as (fun e t => ∃ t', Weak P regs.length t t' ∧ RoundMid P regs.length l id f j bd K e t') ⟨parSl L.ps.toList args sl, regs⟩) : YS P id args regs K := by
  intro w fps base env vs hrs hargs l c hl
  obtain ⟨g', c', L', N', fn, tmps, D, e, hL', hg, hts, hsl⟩ := hrs.reg id _ hr
  rw [hl] at e
  cases e
  rw [hL] at hL'
  cases hL'
  have hvs : vs.length = args.length := hargs.len.symm
  have hsz : L.ps.size = L.ps.toList.length := by simp
  refine ⟨_, _, _, _, run_yield hg (by simp; omega), fun ro n => roundIn_of_wpIn trivial ?_⟩
  have hfold : (L.ps.zip vs.toArray).foldl (fun tmps (t, a) => tmps.setIfInBounds t a) tmps = (L.ps.toList.zip vs).foldl (fun (tmps : Array Value) (p : Nat × Value) => tmps.setIfInBounds p.1 p.2) tmps := by
    rw [← Array.foldl_toList, Array.toList_zip]
  obtain ⟨p1, p2⟩ := parSl_rel (w := w) (env := env) (bad := badOf base env regs) (tmps := tmps) hargs hn (fun t ht => by rw [hts]; exact hlt t ht) hsl
  refine h l L.asg N f 0 hta (noSeg hsa) n w env ⟨w, badOf base env regs, [], w.heap.size⟩ fps base _ w _ hrs.len ⟨⟨env, hrs, fun k => ?_, Ev.refl _ _ _⟩, ?_, rfl, .nil, fun d hd => by simp at hd, Nat.le_refl _⟩ fun ex s1' env1 bad1 a1 w1 hl1 q1' r1' => ?_
  · show VRel w env (badOf base env regs) _ (((L.ps.zip vs.toArray).foldl (fun tmps (t, a) => tmps.setIfInBounds t a) tmps).getD k undef)
    rw [hfold]
    exact p2 k
  · show ((L.ps.zip vs.toArray).foldl (fun tmps (t, a) => tmps.setIfInBounds t a) tmps).size = N
    rw [hfold, p1, hts]
  · obtain ⟨s1, hw1, q1⟩ := q1'
    have r1 := hw1 _ _ _ _ _ _ _ _ (hl1.2.1.trans hrs.len) r1'
    cases ex with
    | normal =>
      obtain ⟨sl1, hr1, hcode⟩ := q1
      obtain ⟨⟨e1, hrs1, hsl1, hev1⟩, hsz1, hds1⟩ := r1
      have hid : id < env.n := hrs.live_lt hr
      have he1 : e1.f id = some (l, c) := by
        have h1 : env1.f id = env.f id := hl1.1.le.2 id hid
        have h2 : e1.f id = env1.f id := hev1.le.2 id (by rw [hl1.2.1]; exact hid)
        rw [h2, h1, hl]
      obtain ⟨rec, hrec, hst, hpe, hrs2, hev2⟩ := hrs1.loopTurn (st' := .busy) (pe' := none) hr1 he1
      have hpe' : rec.pending = none := hpe
      have heq : ({ rec with state := LpSt.of .busy, pending := Option.map LpEx.of none } : Loop) = { rec with state := .busy } := by
        obtain ⟨a, b, c, d, e, f, g, h⟩ := rec
        simp only at hpe'
        subst hpe'
        rfl
      rw [heq] at hrs2 hev2
      refine ⟨_, run_beginRound hrec hst, ?_⟩
      refine hcode L.body N f 0 htb (noSeg hsb) n w env1 bad1 fps base a1 _ _ (hl1.2.1.trans hrs.len) ⟨⟨e1, hrs2, fun k => (hsl1 k).ev hev2, hev1.trans hev2⟩, hsz1, hds1⟩ fun ex s2' env2 bad2 a2 w2 hl2 q2' r2' => ?_
      obtain ⟨s2, hw2, q2⟩ := q2'
      have r2 := hw2 _ _ _ _ _ _ _ _ (hl2.2.1.trans (hl1.2.1.trans hrs.len)) r2'
      have fin : ∀ (jump : Option LpEx) (st : LpSt) (b : Bool) (sl2 : List (Nat × AV)), s2.regs[id]? = some (.lp f j sl2 .busy none) → K (.c (.p (.v (.bool b)))) (s2.regs.set id (.lp f j sl2 st jump)) → b = jump.isNone → st.of = (if (jump.map LpEx.of).isNone then .ready else .done) →
          ∃ v w', (Instr.endRound l (jump.map LpEx.of)).run P w2 = .ok v w' ∧ ∃ v' res regs' env', Ending.returned v = .returned v' ∧ K res regs' ∧ RS P w w' fps base env' regs' ∧ VRel w' env' (badOf base env' regs') res v' ∧ Ev w env (badOf base env regs) w' env' (badOf base env' regs') := by
        intro jump st b sl2 hr2 hk hb hst2
        obtain ⟨⟨e2, hrs3, hsl3, hev3⟩, hsz3, hds3⟩ := r2
        have he2 : e2.f id = some (l, c) := by
          have h1 : env1.f id = env.f id := hl1.1.le.2 id hid
          have h2 : env2.f id = env1.f id := hl2.1.le.2 id (by rw [hl1.2.1]; exact hid)
          have h3 : e2.f id = env2.f id := hev3.le.2 id (by rw [hl2.2.1, hl1.2.1]; exact hid)
          rw [h3, h2, h1, hl]
        obtain ⟨rec2, hrec2, hst3, hpe3, hrs4, hev4⟩ := hrs3.loopTurn (st' := st) (pe' := jump) hr2 he2
        refine ⟨_, _, run_endRound (jump.map LpEx.of) hrec2, _, _, _, e2, rfl, hk, ?_, ?_, ?_⟩
        · rw [← hst2]
          exact hrs4
        · have hj : (jump.map LpEx.of).isNone = b := by rw [hb]; cases jump <;> rfl
          rw [hj]
          exact .c (show CRel _ _ _ (.p (.v (.bool b))) (.bool b) from PRel.v rfl)
        · rw [← hst2]
          exact (((hl1.trans hl2).1).trans hev3).trans hev4
      cases ex with
      | normal =>
        obtain ⟨sl2, hr2, hk⟩ := q2
        exact fin none .ready true sl2 hr2 hk rfl rfl
      | ret =>
        obtain ⟨sl2, hr2, hk⟩ := q2
        exact fin (some .ret) .done false sl2 hr2 hk rfl rfl
      | exit i =>
        obtain ⟨sl2, hr2, hk⟩ := q2
        exact fin (some (.exit i)) .done false sl2 hr2 hk rfl rfl
      | goto _ => exact q2.elim
      | panic _ => exact q2.elim
      | outgrown => exact q2.elim
    | _ => exact q1.elim

/-- THE LOOP OVER A FUNCTION. -/
theorem codeW_rfun {P : Program} {n0 : Nat} {Q : Exit → St → Prop} {s : St} {g : AX} {f j gf : Nat} {fa ca : List FA} (hg : s.ev g = .c (.fn (.func gf) fa ca))
    (h : FS P gf (fa.map avFA ++ [.c (.hnd .yl s.regs.length)] ++ ca.map avFA) (s.regs ++ [.lp f j s.slots .ready none]) fun res regs' => ∃ sl st pe, regs'[s.regs.length]? = some (.lp f j sl st pe) ∧ st ≠ .busy ∧
      match pe with
      | none => Q .normal ⟨s.slots, regs'.set s.regs.length .dead⟩
      | some .ret => Q .ret ⟨s.slots, regs'.set s.regs.length .dead⟩
      | some (.exit i) => Q (.exit i) ⟨s.slots, regs'.set s.regs.length .dead⟩) : codeW P n0 none (.rfun g f j) Q s := by
  intro c N f' j' htr hs n w0 env0 bad0 fps base a w Q' en hR hQ
  obtain ⟨go, ps, ca', cb, rfl, hx, rfl, rfl, hL⟩ := trCode_inv htr hs
  obtain ⟨⟨env, hrs, hsl, hev⟩, hsz, hds, hnd, hmk, hlo⟩ := hR
  obtain ⟨hok, hf⟩ := h
  obtain ⟨fs, cs, hv, h1, h2⟩ := fn_of (ev_sound hsl hx) hg
  refine wpIn_rangeFunc fun fn _ => ?_
  -- the two new blocks
  obtain ⟨rec, hrec⟩ : ∃ rec : Loop, rec = { state := .ready, pending := none, fn := fn, tmps := a.tmps, params := ps, assign := ca', body := cb, defers := w.heap.size } := ⟨_, rfl⟩
  obtain ⟨hrsD, hevD⟩ := hrs.grow (.deferred (some []))
  obtain ⟨W, hW⟩ : ∃ W, W = (w.alloc (.deferred (some []))).alloc (.loop rec) := ⟨_, rfl⟩
  have hsD : (w.alloc (.deferred (some []))).heap.size = w.heap.size + 1 := by simp
  obtain ⟨hrsL, hevL⟩ := hrsD.alloc (r := .lp f j s.slots .ready none) (o := .loop rec) (c := 0) (w' := W) hW fun bad' hev' =>
    ⟨_, _, ⟨ps, ca', cb⟩, N, fn, a.tmps, w.heap.size, Env.push_at _ _, hL, by rw [hW, hrec]; exact World.alloc_heap_new _ _, hsz, fun k => ((hsl k).ev hevD).ev hev'⟩
  rw [hsD] at hrsL hevL
  have henv : (env.push (some (w.heap.size + 1, 0))).f s.regs.length = some (w.heap.size + 1, 0) := by rw [← hrs.len]; exact Env.push_at _ _
  obtain ⟨fps', hrsC, hback⟩ := hrsL.enter
  have hall := hevD.trans hevL
  have hargs : All2 (VRel W (env.push (some (w.heap.size + 1, 0))) (badOf base (env.push (some (w.heap.size + 1, 0))) (s.regs ++ [.lp f j s.slots .ready none]))) (fa.map avFA ++ [.c (.hnd .yl s.regs.length)] ++ ca.map avFA) (fs ++ [.func (.yield (w.heap.size + 1)) #[] #[]] ++ cs) := by
    refine All2.append (All2.append ((fas_sound h1).imp fun _ _ r => r.ev hall) ⟨.c ⟨?_, _, _, henv, rfl⟩, trivial⟩) ((fas_sound h2).imp fun _ _ r => r.ev hall)
    rw [← hrs.len]
    exact Nat.lt_succ_self _
  have hcall := hf W fps' base _ _ hrsC hargs
  refine ⟨w.heap.size + 1, [{ target := .collected w.heap.size, args := #[] }], W, { target := .fn (.func gf) cs.toArray, args := fs.toArray ++ #[Value.func (.yield (w.heap.size + 1)) #[] #[]] }, W, gf,
    (fs ++ [Value.func (.yield (w.heap.size + 1)) #[] #[]] ++ cs).toArray, W, ?_, ?_, fun _ _ => trivial, ?_, depth_Fw, ?_⟩
  · rw [hW, hrec]
    exact run_enterLoop_outer _ _ _ _ _
  · simp only [resolve, Deferred.ofValue, hv, Sem.run_pure, List.map_toArray, List.map_cons, List.map_nil]
    rfl
  · have ha : fs.toArray ++ #[Value.func (.yield (w.heap.size + 1)) #[] #[]] ++ cs.toArray = (fs ++ [Value.func (.yield (w.heap.size + 1)) #[] #[]] ++ cs).toArray := by apply Array.ext'; simp
    simp only [invoke, ha]
    exact enters hok _ W
  · refine callsIn_Fw.2 (hcall.mono fun e w3 hh => ?_)
    obtain ⟨v, res, regs', env3, rfl, ⟨sl, st, pe, hr3, hst, hq⟩, hrs3, hv3, hev3⟩ := hh
    have hid : s.regs.length < (env.push (some (w.heap.size + 1, 0))).n := by rw [← hrs.len]; exact Nat.lt_succ_self _
    have he3 : env3.f s.regs.length = some (w.heap.size + 1, 0) := by rw [hev3.le.2 _ hid, henv]
    obtain ⟨rec3, hrec3, hst3, hpe3, hrs4, hev4⟩ := (hback _ _ _ hrs3).loopTurn (st' := .over) (pe' := pe) hr3 he3
    have heq : ({ rec3 with state := LpSt.of .over, pending := pe.map LpEx.of } : Loop) = { rec3 with state := .exhausted } := by rw [← hpe3]; rfl
    rw [heq] at hrs4 hev4
    obtain ⟨hrs5, hev5⟩ := hrs4.kill s.regs.length
    rw [List.set_set] at hrs5 hev5
    have hbusy : rec3.state ≠ .busy := by
      rw [hst3]
      intro e
      cases st <;> first | exact hst rfl | cases e
    refine ⟨_, _, run_endLoop hrec3 hbusy, ?_⟩
    obtain ⟨W4, hW4⟩ : ∃ W4, W4 = w3.putObj (w.heap.size + 1) (.loop { rec3 with state := .exhausted }) := ⟨_, rfl⟩
    rw [← hW4] at hrs4 hev4 hrs5 hev5 ⊢
    have hevW : Ev W (env.push (some (w.heap.size + 1, 0))) (badOf base (env.push (some (w.heap.size + 1, 0))) (s.regs ++ [.lp f j s.slots .ready none])) W4 env3 (badOf base env3 (regs'.set s.regs.length .dead)) := (hev3.trans hev4).trans hev5
    have hevAll : Ev w env (badOf base env s.regs) W4 env3 (badOf base env3 (regs'.set s.regs.length .dead)) := hall.trans hevW
    have hevB := hev.trans hevAll
    -- the mark's block
    have hDW : W.heap[w.heap.size]? = some (.deferred (some [])) := by
      rw [hW]
      exact (Below.heap_alloc _ _ _ (by simp)).trans (World.alloc_heap_new w _)
    have hDbad : ¬ badOf base (env.push (some (w.heap.size + 1, 0))) (s.regs ++ [.lp f j s.slots .ready none]) w.heap.size := by
      rintro (hb | ⟨i, r, c, hr, hl, he⟩)
      · have := (hrs.base_lt _ hb).1
        have := hrs.keep.size
        omega
      · exact (hrsC.reg i r hr).not_def hl he hDW
    have hDlt : w.heap.size < W.heap.size := by rw [hW]; simp; omega
    have hD4 : W4.heap[w.heap.size]? = some (.deferred (some [])) := (hevW.same.block _ hDlt hDbad).trans hDW
    have hD4lt : w.heap.size < W4.heap.size := Nat.lt_of_lt_of_le hDlt hevW.same.size
    have hw0 : w0.heap.size ≤ w.heap.size := hrs.keep.size
    have hbw : bad0.w.heap.size ≤ w.heap.size := hev.same.size
    obtain ⟨env1, henv1⟩ : ∃ env1 : Env, env1 = ⟨env0.n, env3.f⟩ := ⟨_, rfl⟩
    have hle : env1.le env3 := ⟨by rw [henv1]; exact hevB.le.1, fun i hi => by rw [henv1]⟩
    obtain ⟨bad1, hbad1⟩ : ∃ bad1 : Bs, bad1 = ⟨W4, badOf base env3 (regs'.set s.regs.length .dead), { target := .collected w.heap.size, args := #[] } :: bad0.ds, bad0.lo⟩ := ⟨_, rfl⟩
    have hlater : Later env0 bad0 env1 bad1 := by
      rw [hbad1, henv1]
      exact ⟨⟨hevB.same, hevB.sub, ⟨Nat.le_refl _, fun i hi => hevB.le.2 i hi⟩⟩, rfl, rfl⟩
    have hR1 : R P w0 env1 bad1 fps base N ⟨s.slots, regs'.set s.regs.length .dead⟩ { a with defers := { target := .collected w.heap.size, args := #[] } :: a.defers } W4 := by
      rw [hbad1]
      refine ⟨⟨env3, hrs5, fun k => (hsl k).ev hevAll, ⟨⟨Nat.le_refl _, fun _ _ _ => rfl⟩, fun _ _ h => h, hle⟩⟩, hsz, by rw [← hds], ?_, fun d hd => ?_, hlo⟩
      · refine List.nodup_cons.2 ⟨fun hd => ?_, hnd⟩
        obtain ⟨D', hD', _, hlt, _⟩ := hmk _ hd
        injection hD' with e1 e2
        injection e1 with e1
        omega
      · rcases List.mem_cons.1 hd with rfl | hd
        · exact ⟨_, rfl, Nat.le_trans hlo hw0, hD4lt, fun hb => hDbad (hevW.sub _ hDlt hb), hD4⟩
        · obtain ⟨D', rfl, q1, q2, q3, q4⟩ := hmk _ hd
          exact ⟨D', rfl, q1, Nat.lt_of_lt_of_le q2 hevB.same.size, fun hb => q3 (hevB.sub _ q2 hb), (hevB.same.block _ q2 q3).trans q4⟩
    rw [hpe3]
    cases pe with
    | none => exact hQ _ _ _ _ _ _ hlater hq hR1
    | some x =>
      cases x with
      | ret => exact wpIn_ret (hQ _ _ _ _ _ _ hlater hq hR1)
      | exit i => exact wpIn_exit (hQ _ _ _ _ _ _ hlater hq hR1)
end Go.Sim
