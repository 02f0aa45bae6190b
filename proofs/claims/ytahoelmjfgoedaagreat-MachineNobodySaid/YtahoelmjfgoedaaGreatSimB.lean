/- How the rows that a call owns go on: a new one, one that is written, one that is given up, one that grows. Of no program. -/
import Derived.Test.YtahoelmjfgoedaaGreatSimA
namespace Go.Sim
set_option linter.unusedVariables false
set_option linter.unusedSectionVars false
open Go.RowKit Go.Proofs.YtahoelmjfgoedaaGreat.B

/-- What stays readable from one world to the next. -/
structure Ev (w : World) (env : Env) (bad : Nat → Prop) (w' : World) (env' : Env) (bad' : Nat → Prop) : Prop where
  same : Same bad w w'
  sub : ∀ b, b < w.heap.size → bad' b → bad b
  le : env.le env'

section
variable {w w' w'' : World} {env env' env'' : Env} {bad bad' bad'' : Nat → Prop}
theorem Ev.refl (w : World) (env : Env) (bad : Nat → Prop) : Ev w env bad w env bad := ⟨⟨Nat.le_refl _, fun _ _ _ => rfl⟩, fun _ _ h => h, Env.le_refl _⟩
theorem Ev.trans (h : Ev w env bad w' env' bad') (k : Ev w' env' bad' w'' env'' bad'') : Ev w env bad w'' env'' bad'' :=
  ⟨⟨Nat.le_trans h.same.size k.same.size, fun b hb hn => (k.same.block b (Nat.lt_of_lt_of_le hb h.same.size) fun hx => hn (h.sub b hb hx)).trans (h.same.block b hb hn)⟩,
    fun b hb hx => h.sub b hb (k.sub b (Nat.lt_of_lt_of_le hb h.same.size) hx), Env.le_trans h.le k.le⟩
theorem PRel.ev (h : Ev w env bad w' env' bad') {x : PV} {v : Value} (r : PRel w bad x v) : PRel w' bad' x v := r.step h.same h.sub
theorem CRel.ev (h : Ev w env bad w' env' bad') {x : AC} {v : Value} (r : CRel w env bad x v) : CRel w' env' bad' x v := CRel.step h.same h.sub h.le r
theorem VRel.ev (h : Ev w env bad w' env' bad') {x : AV} {v : Value} (r : VRel w env bad x v) : VRel w' env' bad' x v := r.step h.same h.sub h.le
end

section
variable {P : Program} {w0 w w' : World} {fps : List Nat} {base : Nat → Prop} {env : Env} {regs : List Reg}

/-- Rows carried from one world to the next, where their own blocks are as they were. -/
theorem RRel.ev {env' : Env} {bad bad' : Nat → Prop} (hev : Ev w env bad w' env' bad') {id : Nat} (hid : id < env.n) {r : Reg} (hb : r.live = true → ∀ g c, env.f id = some (g, c) → w'.heap[g]? = w.heap[g]?)
    (h : RRel P w env bad id r) : RRel P w' env' bad' id r := by
  have he := hev.le.2 id hid
  cases r with
  | dead => trivial
  | pc sz ls =>
    obtain ⟨hz, hs, h⟩ := h
    refine ⟨hz, hs, ?_⟩
    rcases h with ⟨e, h1⟩ | ⟨g, c, cur, t, e, hg, h1, h2, h3, h4⟩
    · exact .inl ⟨he.trans e, h1⟩
    · exact .inr ⟨g, c, cur, t, he.trans e, (hb rfl g c e).trans hg, h1, h2, h3, fun i hi j hj => let ⟨u, a, b⟩ := h4 i hi j hj; ⟨u, a, b.ev hev⟩⟩
  | ac l =>
    obtain ⟨g, c, cur, t, e, hg, h1, h4⟩ := h
    exact ⟨g, c, cur, t, he.trans e, (hb rfl g c e).trans hg, h1, fun j hj => let ⟨u, a, b, d⟩ := h4 j hj; ⟨u, a, b.ev hev, d⟩⟩
  | es sz ls =>
    obtain ⟨hz, hs, h⟩ := h
    refine ⟨hz, hs, ?_⟩
    rcases h with ⟨e, h1⟩ | ⟨g, c, cur, t, e, hg, h1, h2, h3, h4⟩
    · exact .inl ⟨he.trans e, h1⟩
    · exact .inr ⟨g, c, cur, t, he.trans e, (hb rfl g c e).trans hg, h1, h2, h3, fun i hi j hj => let ⟨u, a, b, d⟩ := h4 i hi j hj; ⟨u, a, b.ev hev, d⟩⟩
  | ob o =>
    obtain ⟨g, c, e, h⟩ := h
    exact ⟨g, c, he.trans e, h.carry (hb rfl g c e) fun _ _ r => PRel.ev hev r⟩
  | lp f j sl st pe =>
    obtain ⟨g, c, L, N, fn, tmps, D, e, hL, hg, hs, h⟩ := h
    exact ⟨g, c, L, N, fn, tmps, D, he.trans e, hL, (hb rfl g c e).trans hg, hs, fun n => (h n).ev hev⟩

theorem RS.live_lt (h : RS P w0 w fps base env regs) {id : Nat} {r : Reg} (hr : regs[id]? = some r) : id < env.n := by
  rw [h.len]
  exact (List.getElem?_eq_some_iff.1 hr).1

/-- A world that differs by a draw alone. -/
theorem RS.draw (h : RS P w0 w fps base env regs) (hh : w'.heap = w.heap) (ho : w'.os = w.os) (ht : w'.tape = w.tape) (hp : w'.output = w.output) : RS P w0 w' fps base env regs := by
  have hev : Ev w env (badOf base env regs) w' env (badOf base env regs) := ⟨⟨by rw [hh]; exact Nat.le_refl _, fun b _ _ => by rw [hh]⟩, fun _ _ h => h, Env.le_refl _⟩
  refine ⟨⟨ho.trans h.keep.os, ht.trans h.keep.tape, hp.trans h.keep.output, by rw [hh]; exact h.keep.size, fun k hk hn => by rw [hh]; exact h.keep.block k hk hn⟩, h.base_lt, h.len, fun id r hr => ?_, fun id r g c hr hl he => by rw [hh]; exact h.own id r g c hr hl he, h.inj⟩
  exact RRel.ev hev (RS.live_lt h hr) (fun _ _ _ _ => by rw [hh]) (h.reg id r hr)

theorem RS.bad_live {id : Nat} {r : Reg} {g c : Nat} (hr : regs[id]? = some r) (hl : r.live = true) (he : env.f id = some (g, c)) : badOf base env regs g := .inr ⟨id, r, c, hr, hl, he⟩

/-- A new row, in a new block. -/
theorem RS.alloc (h : RS P w0 w fps base env regs) {r : Reg} {o : Obj} {c : Nat} (hk : w' = w.alloc o)
    (hr : ∀ bad', Ev w env (badOf base env regs) w' (env.push (some (w.heap.size, c))) bad' → RRel P w' (env.push (some (w.heap.size, c))) bad' env.n r) :
    RS P w0 w' fps base (env.push (some (w.heap.size, c))) (regs ++ [r]) ∧
    Ev w env (badOf base env regs) w' (env.push (some (w.heap.size, c))) (badOf base (env.push (some (w.heap.size, c))) (regs ++ [r])) := by
  subst hk
  have hsame : Same (badOf base env regs) w (w.alloc o) := ⟨by simp, fun b hb _ => Below.heap_alloc _ _ _ hb⟩
  have hf : ∀ id, id < env.n → (env.push (some (w.heap.size, c))).f id = env.f id := (Env.le_push env _).2
  have hget : ∀ id r', (regs ++ [r])[id]? = some r' → regs[id]? = some r' ∧ id < env.n ∨ id = env.n ∧ r' = r := by
    intro id r' hx
    rw [List.getElem?_append] at hx
    split at hx
    · rename_i hlt; exact .inl ⟨hx, by rw [h.len]; exact hlt⟩
    · rename_i hge
      rw [h.len]
      obtain ⟨h0, e⟩ : id - regs.length = 0 ∧ r = r' := by
        rcases Nat.eq_zero_or_pos (id - regs.length) with h0 | h0
        · rw [h0] at hx; simp at hx; exact ⟨h0, hx⟩
        · obtain ⟨m, hm⟩ : ∃ m, id - regs.length = m + 1 := ⟨id - regs.length - 1, by omega⟩
          rw [hm] at hx; simp at hx
      exact .inr ⟨by omega, e.symm⟩
  have hsub : ∀ b, b < w.heap.size → badOf base (env.push (some (w.heap.size, c))) (regs ++ [r]) b → badOf base env regs b := by
    intro b hb hx
    rcases hx with hx | ⟨id, r', c', hx, hl, he⟩
    · exact .inl hx
    · rcases hget id r' hx with ⟨h1, h2⟩ | ⟨rfl, rfl⟩
      · rw [hf id h2] at he
        exact .inr ⟨id, r', c', h1, hl, he⟩
      · rw [Env.push_at] at he
        simp at he
        omega
  have hev : Ev w env (badOf base env regs) (w.alloc o) (env.push (some (w.heap.size, c))) (badOf base (env.push (some (w.heap.size, c))) (regs ++ [r])) := ⟨hsame, hsub, Env.le_push _ _⟩
  refine ⟨⟨h.keep.alloc _, h.base_lt, by simp [Env.push, h.len], fun id r' hx => ?_, fun id r' g c' hx hl he => ?_, fun i j r1 r2 g c1 c2 h1 h2 l1 l2 e1 e2 => ?_⟩, hev⟩
  · rcases hget id r' hx with ⟨h1, h2⟩ | ⟨rfl, rfl⟩
    · exact RRel.ev hev h2 (fun hl g c' he => Below.heap_alloc _ _ _ (h.own id r' g c' h1 hl he).2) (h.reg id r' h1)
    · exact hr _ hev
  · rcases hget id r' hx with ⟨h1, h2⟩ | ⟨rfl, rfl⟩
    · rw [hf id h2] at he
      have := h.own id r' g c' h1 hl he
      exact ⟨this.1, by simp; omega⟩
    · rw [Env.push_at] at he
      simp at he
      obtain ⟨rfl, rfl⟩ := he
      exact ⟨.inr h.keep.size, by simp⟩
  · rcases hget i r1 h1 with ⟨g1, i1⟩ | ⟨rfl, rfl⟩ <;> rcases hget j r2 h2 with ⟨g2, i2⟩ | ⟨rfl, rfl⟩
    · rw [hf i i1] at e1; rw [hf j i2] at e2
      exact h.inj i j r1 r2 g c1 c2 g1 g2 l1 l2 e1 e2
    · rw [hf i i1] at e1; rw [Env.push_at] at e2
      simp at e2
      have := (h.own i r1 g c1 g1 l1 e1).2
      omega
    · rw [hf j i2] at e2; rw [Env.push_at] at e1
      simp at e1
      have := (h.own j r2 g c2 g2 l2 e2).2
      omega
    · rfl

/-- A row that is given up. -/
theorem RS.kill (h : RS P w0 w fps base env regs) (id : Nat) : RS P w0 w fps base env (regs.set id .dead) ∧ Ev w env (badOf base env regs) w env (badOf base env (regs.set id .dead)) := by
  have hget : ∀ (i : Nat) (r : Reg), (regs.set id .dead)[i]? = some r → r.live = true → regs[i]? = some r := by
    intro i r hx hl
    rw [List.getElem?_set] at hx
    split at hx
    · split at hx
      · cases hx; cases hl
      · cases hx
    · exact hx
  have hget' : ∀ (i : Nat) (r : Reg), (regs.set id .dead)[i]? = some r → r = .dead ∨ regs[i]? = some r := by
    intro i r hx
    rw [List.getElem?_set] at hx
    split at hx
    · split at hx
      · cases hx; exact .inl rfl
      · cases hx
    · exact .inr hx
  have hsub : ∀ b, badOf base env (regs.set id .dead) b → badOf base env regs b := by
    intro b hx
    rcases hx with hx | ⟨i, r, c, hx, hl, he⟩
    · exact .inl hx
    · exact .inr ⟨i, r, c, hget i r hx hl, hl, he⟩
  have hev : Ev w env (badOf base env regs) w env (badOf base env (regs.set id .dead)) := ⟨⟨Nat.le_refl _, fun _ _ _ => rfl⟩, fun b _ => hsub b, Env.le_refl _⟩
  refine ⟨⟨h.keep, h.base_lt, by simp [h.len], fun i r hx => ?_, fun i r g c hx hl he => h.own i r g c (hget i r hx hl) hl he, fun i j r1 r2 g c1 c2 h1 h2 l1 l2 => h.inj i j r1 r2 g c1 c2 (hget i r1 h1 l1) (hget j r2 h2 l2) l1 l2⟩, hev⟩
  rcases hget' i r hx with rfl | h1
  · trivial
  · exact RRel.ev hev (h.live_lt h1) (fun _ _ _ _ => rfl) (h.reg i r h1)

/-- A row that is written: its block holds other cells of the same number. -/
theorem RS.write (h : RS P w0 w fps base env regs) {id g c : Nat} {r r' : Reg} (hr : regs[id]? = some r) (hl : r.live = true) (he : env.f id = some (g, c)) {cs : Array Value}
    (hr' : r'.live = true) (hrel : Ev w env (badOf base env regs) (w.setRow g cs) env (badOf base env (regs.set id r')) → RRel P (w.setRow g cs) env (badOf base env (regs.set id r')) id r') :
    RS P w0 (w.setRow g cs) fps base env (regs.set id r') ∧ Ev w env (badOf base env regs) (w.setRow g cs) env (badOf base env (regs.set id r')) := by
  have hlt : id < regs.length := (List.getElem?_eq_some_iff.1 hr).1
  have hget : ∀ i x, (regs.set id r')[i]? = some x → i = id ∧ x = r' ∨ i ≠ id ∧ regs[i]? = some x := by
    intro i x hx
    rw [List.getElem?_set] at hx
    split at hx
    · rename_i hi
      cases hx
      exact .inl ⟨hi.symm, rfl⟩
    · rename_i hi
      exact .inr ⟨fun e => hi e.symm, hx⟩
  have hsub : ∀ b, badOf base env (regs.set id r') b → badOf base env regs b := by
    intro b hx
    rcases hx with hx | ⟨i, x, c', hx, hl', he'⟩
    · exact .inl hx
    · rcases hget i x hx with ⟨rfl, rfl⟩ | ⟨_, hx⟩
      · exact .inr ⟨i, r, c', hr, hl, he'⟩
      · exact .inr ⟨i, x, c', hx, hl', he'⟩
  have hown := h.own id r g c hr hl he
  have hbg : badOf base env regs g := RS.bad_live hr hl he
  have hsame : Same (badOf base env regs) w (w.setRow g cs) := ⟨by simp [World.setRow], fun b _ hn => setRow_other w g b _ (fun e => hn (e ▸ hbg))⟩
  have hev : Ev w env (badOf base env regs) (w.setRow g cs) env (badOf base env (regs.set id r')) := ⟨hsame, fun b _ => hsub b, Env.le_refl _⟩
  refine ⟨⟨?_, h.base_lt, by simp [h.len], fun i x hx => ?_, fun i x g' c' hx hl' he' => ?_, fun i j r1 r2 g' c1 c2 h1 h2 l1 l2 e1 e2 => ?_⟩, hev⟩
  · exact ⟨h.keep.os, h.keep.tape, h.keep.output, by simpa [World.setRow] using h.keep.size, fun k hk hn => (setRow_other w g k _ (by rintro rfl; rcases hown.1 with h1 | h1; exact hn h1; omega)).trans (h.keep.block k hk hn)⟩
  · rcases hget i x hx with ⟨rfl, rfl⟩ | ⟨hne, hx⟩
    · exact hrel hev
    · refine RRel.ev hev (h.live_lt hx) (fun hl' g' c' he' => setRow_other w g g' _ ?_) (h.reg i x hx)
      rintro rfl
      exact hne (h.inj i id x r _ c' c hx hr hl' hl he' he)
  · rcases hget i x hx with ⟨rfl, rfl⟩ | ⟨_, hx⟩
    · have := h.own i r g' c' hr hl he'
      exact ⟨this.1, by simpa [World.setRow] using this.2⟩
    · have := h.own i x g' c' hx hl' he'
      exact ⟨this.1, by simpa [World.setRow] using this.2⟩
  · rcases hget i r1 h1 with ⟨hi, _⟩ | ⟨_, k1⟩ <;> rcases hget j r2 h2 with ⟨hj, _⟩ | ⟨_, k2⟩
    · exact hi.trans hj.symm
    · subst hi; exact h.inj i j r r2 g' c1 c2 hr k2 hl l2 e1 e2
    · subst hj; exact h.inj i j r1 r g' c1 c2 k1 hr l1 hl e1 e2
    · exact h.inj i j r1 r2 g' c1 c2 k1 k2 l1 l2 e1 e2


/-- A row whose block turns. -/
theorem RS.turn (h : RS P w0 w fps base env regs) {id g c : Nat} {r r' : Reg} (hr : regs[id]? = some r) (hl : r.live = true) (he : env.f id = some (g, c)) (ho1 : w'.os = w.os) (ho2 : w'.tape = w.tape) (ho3 : w'.output = w.output) (hs : w'.heap.size = w.heap.size) (hot : ∀ b, b ≠ g → w'.heap[b]? = w.heap[b]?)
    (hr' : r'.live = true) (hrel : Ev w env (badOf base env regs) w' env (badOf base env (regs.set id r')) → RRel P w' env (badOf base env (regs.set id r')) id r') :
    RS P w0 w' fps base env (regs.set id r') ∧ Ev w env (badOf base env regs) w' env (badOf base env (regs.set id r')) := by
  have hlt : id < regs.length := (List.getElem?_eq_some_iff.1 hr).1
  have hget : ∀ i x, (regs.set id r')[i]? = some x → i = id ∧ x = r' ∨ i ≠ id ∧ regs[i]? = some x := by
    intro i x hx
    rw [List.getElem?_set] at hx
    split at hx
    · rename_i hi
      cases hx
      exact .inl ⟨hi.symm, rfl⟩
    · rename_i hi
      exact .inr ⟨fun e => hi e.symm, hx⟩
  have hsub : ∀ b, badOf base env (regs.set id r') b → badOf base env regs b := by
    intro b hx
    rcases hx with hx | ⟨i, x, c', hx, hl', he'⟩
    · exact .inl hx
    · rcases hget i x hx with ⟨rfl, rfl⟩ | ⟨_, hx⟩
      · exact .inr ⟨i, r, c', hr, hl, he'⟩
      · exact .inr ⟨i, x, c', hx, hl', he'⟩
  have hown := h.own id r g c hr hl he
  have hbg : badOf base env regs g := RS.bad_live hr hl he
  have hsame : Same (badOf base env regs) w w' := ⟨by rw [hs]; exact Nat.le_refl _, fun b _ hn => hot b (fun e => hn (e ▸ hbg))⟩
  have hev : Ev w env (badOf base env regs) w' env (badOf base env (regs.set id r')) := ⟨hsame, fun b _ => hsub b, Env.le_refl _⟩
  refine ⟨⟨?_, h.base_lt, by simp [h.len], fun i x hx => ?_, fun i x g' c' hx hl' he' => ?_, fun i j r1 r2 g' c1 c2 h1 h2 l1 l2 e1 e2 => ?_⟩, hev⟩
  · exact ⟨ho1.trans h.keep.os, ho2.trans h.keep.tape, ho3.trans h.keep.output, by rw [hs]; exact h.keep.size, fun k hk hn => (hot k (by rintro rfl; rcases hown.1 with h1 | h1; exact hn h1; omega)).trans (h.keep.block k hk hn)⟩
  · rcases hget i x hx with ⟨rfl, rfl⟩ | ⟨hne, hx⟩
    · exact hrel hev
    · refine RRel.ev hev (h.live_lt hx) (fun hl' g' c' he' => hot g' ?_) (h.reg i x hx)
      rintro rfl
      exact hne (h.inj i id x r _ c' c hx hr hl' hl he' he)
  · rcases hget i x hx with ⟨rfl, rfl⟩ | ⟨_, hx⟩
    · have := h.own i r g' c' hr hl he'
      exact ⟨this.1, by rw [hs]; exact this.2⟩
    · have := h.own i x g' c' hx hl' he'
      exact ⟨this.1, by rw [hs]; exact this.2⟩
  · rcases hget i r1 h1 with ⟨hi, _⟩ | ⟨_, k1⟩ <;> rcases hget j r2 h2 with ⟨hj, _⟩ | ⟨_, k2⟩
    · exact hi.trans hj.symm
    · subst hi; exact h.inj i j r r2 g' c1 c2 hr k2 hl l2 e1 e2
    · subst hj; exact h.inj i j r1 r g' c1 c2 k1 hr l1 hl e1 e2
    · exact h.inj i j r1 r2 g' c1 c2 k1 k2 l1 l2 e1 e2

end

end Go.Sim
