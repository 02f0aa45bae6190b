/- The model's append over the plain picture. Of no program. -/
import Derived.Test.YtahoelmjfgoedaaGreatSimJ
namespace Go.Sim
open Go.RowKit Go.Proofs.YtahoelmjfgoedaaGreat.B

section
variable {P : Program} {w0 w w' : World} {env0 env : Env} {bad0 : Bs} {fps : List Nat} {base : Nat → Prop} {N : Nat} {regs : List Reg} {s : St} {a : Act} {o : Oper}
  {next : Act → World → Prop} {Q : Exit → Act → World → Prop} {K : St → Prop}

theorem getElem?_snoc {α : Type} {l : List α} {x y : α} {i : Nat} (h : (l ++ [x])[i]? = some y) : l[i]? = some y ∧ i < l.length ∨ i = l.length ∧ y = x := by
  rw [List.getElem?_append] at h
  split at h
  · rename_i hlt; exact .inl ⟨h, hlt⟩
  · rename_i hge
    obtain ⟨h1, h2⟩ := List.getElem?_eq_some_iff.1 h
    have : i - l.length = 0 := by simpa using h1
    refine .inr ⟨by omega, ?_⟩
    rw [← h2]
    simp [this]

/-- A row that is nil's. -/
theorem RS.push_nil (h : RS P w0 w fps base env regs) (sz : Nat) (hz : 0 < sz) : RS P w0 w fps base (env.push none) (regs ++ [.pc sz []]) ∧ Ev w env (badOf base env regs) w (env.push none) (badOf base (env.push none) (regs ++ [.pc sz []])) := by
  have hf : ∀ id, id < env.n → (env.push none).f id = env.f id := (Env.le_push env _).2
  have hget : ∀ (id : Nat) (r : Reg), (regs ++ [Reg.pc sz []])[id]? = some r → regs[id]? = some r ∧ id < env.n ∨ id = env.n ∧ r = .pc sz [] := by
    intro id r hx
    rcases getElem?_snoc hx with ⟨h1, h2⟩ | ⟨h1, h2⟩
    · exact .inl ⟨h1, by rw [h.len]; exact h2⟩
    · exact .inr ⟨by rw [h.len]; exact h1, h2⟩
  have hsub : ∀ b, badOf base (env.push none) (regs ++ [.pc sz []]) b → badOf base env regs b := by
    intro b hx
    rcases hx with hx | ⟨id, r, c, hx, hl, he⟩
    · exact .inl hx
    · rcases hget id r hx with ⟨h1, h2⟩ | ⟨rfl, rfl⟩
      · rw [hf id h2] at he; exact .inr ⟨id, r, c, h1, hl, he⟩
      · rw [Env.push_at] at he; cases he
  have hev : Ev w env (badOf base env regs) w (env.push none) (badOf base (env.push none) (regs ++ [.pc sz []])) := ⟨⟨Nat.le_refl _, fun _ _ _ => rfl⟩, fun b _ => hsub b, Env.le_push _ _⟩
  refine ⟨⟨h.keep, h.base_lt, by simp [Env.push, h.len], fun id r hx => ?_, fun id r g c hx hl he => ?_, fun i j r1 r2 g c1 c2 h1 h2 l1 l2 e1 e2 => ?_⟩, hev⟩
  · rcases hget id r hx with ⟨h1, h2⟩ | ⟨rfl, rfl⟩
    · exact RRel.ev hev h2 (fun _ _ _ _ => rfl) (h.reg id r h1)
    · exact ⟨hz, fun i hi => by simp at hi, .inl ⟨Env.push_at _ _, rfl⟩⟩
  · rcases hget id r hx with ⟨h1, h2⟩ | ⟨rfl, rfl⟩
    · rw [hf id h2] at he; exact h.own id r g c h1 hl he
    · rw [Env.push_at] at he; cases he
  · rcases hget i r1 h1 with ⟨k1, i1⟩ | ⟨rfl, rfl⟩
    · rcases hget j r2 h2 with ⟨k2, i2⟩ | ⟨rfl, rfl⟩
      · rw [hf i i1] at e1; rw [hf j i2] at e2
        exact h.inj i j r1 r2 g c1 c2 k1 k2 l1 l2 e1 e2
      · rw [Env.push_at] at e2; cases e2
    · rw [Env.push_at] at e1; cases e1

/-- A row that goes by another name from now on. -/
theorem RS.move (h : RS P w0 w fps base env regs) {id sz g c : Nat} {ls : List (List PV)} (hr : regs[id]? = some (.pc sz ls)) (he : env.f id = some (g, c)) :
    RS P w0 w fps base (env.push (some (g, c))) (regs.set id .dead ++ [.pc sz ls]) ∧ Ev w env (badOf base env regs) w (env.push (some (g, c))) (badOf base (env.push (some (g, c))) (regs.set id .dead ++ [.pc sz ls])) := by
  have hid : id < regs.length := (List.getElem?_eq_some_iff.1 hr).1
  have hf : ∀ id, id < env.n → (env.push (some (g, c))).f id = env.f id := (Env.le_push env _).2
  have hget : ∀ (i : Nat) (r : Reg), (regs.set id .dead ++ [Reg.pc sz ls])[i]? = some r → r.live = true → i ≠ id ∧ regs[i]? = some r ∧ i < env.n ∨ i = env.n ∧ r = .pc sz ls := by
    intro i r hx hl
    rcases getElem?_snoc hx with ⟨h1, h2⟩ | ⟨h1, h2⟩
    · rw [List.getElem?_set] at h1
      split at h1
      · cases h1; cases hl
      · rename_i hne
        exact .inl ⟨fun e => hne e.symm, h1, by rw [h.len]; simpa using h2⟩
    · exact .inr ⟨by rw [h.len]; simpa using h1, h2⟩
  have hsub : ∀ b, badOf base (env.push (some (g, c))) (regs.set id .dead ++ [.pc sz ls]) b → badOf base env regs b := by
    intro b hx
    rcases hx with hx | ⟨i, r, c', hx, hl, he'⟩
    · exact .inl hx
    · rcases hget i r hx hl with ⟨_, h1, h2⟩ | ⟨rfl, rfl⟩
      · rw [hf i h2] at he'; exact .inr ⟨i, r, c', h1, hl, he'⟩
      · rw [Env.push_at] at he'
        cases he'
        exact .inr ⟨id, _, c, hr, rfl, he⟩
  have hev : Ev w env (badOf base env regs) w (env.push (some (g, c))) (badOf base (env.push (some (g, c))) (regs.set id .dead ++ [.pc sz ls])) := ⟨⟨Nat.le_refl _, fun _ _ _ => rfl⟩, fun b _ => hsub b, Env.le_push _ _⟩
  refine ⟨⟨h.keep, h.base_lt, by simp [Env.push, h.len], fun i r hx => ?_, fun i r g' c' hx hl he' => ?_, fun i j r1 r2 g' c1 c2 h1 h2 l1 l2 e1 e2 => ?_⟩, hev⟩
  · by_cases hl : r.live = true
    · rcases hget i r hx hl with ⟨_, h1, h2⟩ | ⟨rfl, rfl⟩
      · exact RRel.ev hev h2 (fun _ _ _ _ => rfl) (h.reg i r h1)
      · obtain ⟨hz, hs, hrr⟩ := h.reg id _ hr
        refine ⟨hz, hs, .inr ?_⟩
        rcases hrr with ⟨h1, _⟩ | ⟨g', c', cur, t, e, hg, q1, q2, q3, q4⟩
        · rw [he] at h1; cases h1
        · rw [he] at e
          cases e
          exact ⟨g, c, cur, t, Env.push_at _ _, hg, q1, q2, q3, fun i hi j hj => let ⟨u, u1, u2⟩ := q4 i hi j hj; ⟨u, u1, u2.ev hev⟩⟩
    · cases r with
      | dead => trivial
      | _ => exact absurd rfl hl
  · rcases hget i r hx hl with ⟨_, h1, h2⟩ | ⟨rfl, rfl⟩
    · rw [hf i h2] at he'; exact h.own i r g' c' h1 hl he'
    · rw [Env.push_at] at he'
      cases he'
      exact h.own id _ g c hr rfl he
  · rcases hget i r1 h1 l1 with ⟨n1, k1, i1⟩ | ⟨p1, p2⟩
    · rcases hget j r2 h2 l2 with ⟨n2, k2, i2⟩ | ⟨p3, p4⟩
      · rw [hf i i1] at e1; rw [hf j i2] at e2
        exact h.inj i j r1 r2 g' c1 c2 k1 k2 l1 l2 e1 e2
      · rw [hf i i1] at e1
        rw [p3, Env.push_at] at e2
        cases e2
        exact absurd (h.inj i id r1 _ _ c1 c k1 hr l1 rfl e1 he) n1
    · rcases hget j r2 h2 l2 with ⟨n2, k2, i2⟩ | ⟨p3, _⟩
      · rw [hf j i2] at e2
        rw [p1, Env.push_at] at e1
        cases e1
        exact absurd (h.inj j id r2 _ _ c2 c k2 hr l2 rfl e2 he) n2
      · rw [p1, p3]

/-- A row that is nil's. -/
theorem RS.push_nilE (h : RS P w0 w fps base env regs) (sz : Nat) (hz : 0 < sz) : RS P w0 w fps base (env.push none) (regs ++ [.es sz []]) ∧ Ev w env (badOf base env regs) w (env.push none) (badOf base (env.push none) (regs ++ [.es sz []])) := by
  have hf : ∀ id, id < env.n → (env.push none).f id = env.f id := (Env.le_push env _).2
  have hget : ∀ (id : Nat) (r : Reg), (regs ++ [Reg.es sz []])[id]? = some r → regs[id]? = some r ∧ id < env.n ∨ id = env.n ∧ r = .es sz [] := by
    intro id r hx
    rcases getElem?_snoc hx with ⟨h1, h2⟩ | ⟨h1, h2⟩
    · exact .inl ⟨h1, by rw [h.len]; exact h2⟩
    · exact .inr ⟨by rw [h.len]; exact h1, h2⟩
  have hsub : ∀ b, badOf base (env.push none) (regs ++ [.es sz []]) b → badOf base env regs b := by
    intro b hx
    rcases hx with hx | ⟨id, r, c, hx, hl, he⟩
    · exact .inl hx
    · rcases hget id r hx with ⟨h1, h2⟩ | ⟨rfl, rfl⟩
      · rw [hf id h2] at he; exact .inr ⟨id, r, c, h1, hl, he⟩
      · rw [Env.push_at] at he; cases he
  have hev : Ev w env (badOf base env regs) w (env.push none) (badOf base (env.push none) (regs ++ [.es sz []])) := ⟨⟨Nat.le_refl _, fun _ _ _ => rfl⟩, fun b _ => hsub b, Env.le_push _ _⟩
  refine ⟨⟨h.keep, h.base_lt, by simp [Env.push, h.len], fun id r hx => ?_, fun id r g c hx hl he => ?_, fun i j r1 r2 g c1 c2 h1 h2 l1 l2 e1 e2 => ?_⟩, hev⟩
  · rcases hget id r hx with ⟨h1, h2⟩ | ⟨rfl, rfl⟩
    · exact RRel.ev hev h2 (fun _ _ _ _ => rfl) (h.reg id r h1)
    · exact ⟨hz, fun i hi => by simp at hi, .inl ⟨Env.push_at _ _, rfl⟩⟩
  · rcases hget id r hx with ⟨h1, h2⟩ | ⟨rfl, rfl⟩
    · rw [hf id h2] at he; exact h.own id r g c h1 hl he
    · rw [Env.push_at] at he; cases he
  · rcases hget i r1 h1 with ⟨k1, i1⟩ | ⟨rfl, rfl⟩
    · rcases hget j r2 h2 with ⟨k2, i2⟩ | ⟨rfl, rfl⟩
      · rw [hf i i1] at e1; rw [hf j i2] at e2
        exact h.inj i j r1 r2 g c1 c2 k1 k2 l1 l2 e1 e2
      · rw [Env.push_at] at e2; cases e2
    · rw [Env.push_at] at e1; cases e1

/-- A row that goes by another name from now on. -/
theorem RS.moveE (h : RS P w0 w fps base env regs) {id sz g c : Nat} {ls : List (List AC)} (hr : regs[id]? = some (.es sz ls)) (he : env.f id = some (g, c)) :
    RS P w0 w fps base (env.push (some (g, c))) (regs.set id .dead ++ [.es sz ls]) ∧ Ev w env (badOf base env regs) w (env.push (some (g, c))) (badOf base (env.push (some (g, c))) (regs.set id .dead ++ [.es sz ls])) := by
  have hid : id < regs.length := (List.getElem?_eq_some_iff.1 hr).1
  have hf : ∀ id, id < env.n → (env.push (some (g, c))).f id = env.f id := (Env.le_push env _).2
  have hget : ∀ (i : Nat) (r : Reg), (regs.set id .dead ++ [Reg.es sz ls])[i]? = some r → r.live = true → i ≠ id ∧ regs[i]? = some r ∧ i < env.n ∨ i = env.n ∧ r = .es sz ls := by
    intro i r hx hl
    rcases getElem?_snoc hx with ⟨h1, h2⟩ | ⟨h1, h2⟩
    · rw [List.getElem?_set] at h1
      split at h1
      · cases h1; cases hl
      · rename_i hne
        exact .inl ⟨fun e => hne e.symm, h1, by rw [h.len]; simpa using h2⟩
    · exact .inr ⟨by rw [h.len]; simpa using h1, h2⟩
  have hsub : ∀ b, badOf base (env.push (some (g, c))) (regs.set id .dead ++ [.es sz ls]) b → badOf base env regs b := by
    intro b hx
    rcases hx with hx | ⟨i, r, c', hx, hl, he'⟩
    · exact .inl hx
    · rcases hget i r hx hl with ⟨_, h1, h2⟩ | ⟨rfl, rfl⟩
      · rw [hf i h2] at he'; exact .inr ⟨i, r, c', h1, hl, he'⟩
      · rw [Env.push_at] at he'
        cases he'
        exact .inr ⟨id, _, c, hr, rfl, he⟩
  have hev : Ev w env (badOf base env regs) w (env.push (some (g, c))) (badOf base (env.push (some (g, c))) (regs.set id .dead ++ [.es sz ls])) := ⟨⟨Nat.le_refl _, fun _ _ _ => rfl⟩, fun b _ => hsub b, Env.le_push _ _⟩
  refine ⟨⟨h.keep, h.base_lt, by simp [Env.push, h.len], fun i r hx => ?_, fun i r g' c' hx hl he' => ?_, fun i j r1 r2 g' c1 c2 h1 h2 l1 l2 e1 e2 => ?_⟩, hev⟩
  · by_cases hl : r.live = true
    · rcases hget i r hx hl with ⟨_, h1, h2⟩ | ⟨rfl, rfl⟩
      · exact RRel.ev hev h2 (fun _ _ _ _ => rfl) (h.reg i r h1)
      · obtain ⟨hz, hs, hrr⟩ := h.reg id _ hr
        refine ⟨hz, hs, .inr ?_⟩
        rcases hrr with ⟨h1, _⟩ | ⟨g', c', cur, t, e, hg, q1, q2, q3, q4⟩
        · rw [he] at h1; cases h1
        · rw [he] at e
          cases e
          exact ⟨g, c, cur, t, Env.push_at _ _, hg, q1, q2, q3, fun i hi j hj => let ⟨u, u1, u2⟩ := q4 i hi j hj; ⟨u, u1, KRel.ev hev u2⟩⟩
    · cases r with
      | dead => trivial
      | _ => exact absurd rfl hl
  · rcases hget i r hx hl with ⟨_, h1, h2⟩ | ⟨rfl, rfl⟩
    · rw [hf i h2] at he'; exact h.own i r g' c' h1 hl he'
    · rw [Env.push_at] at he'
      cases he'
      exact h.own id _ g c hr rfl he
  · rcases hget i r1 h1 l1 with ⟨n1, k1, i1⟩ | ⟨p1, p2⟩
    · rcases hget j r2 h2 l2 with ⟨n2, k2, i2⟩ | ⟨p3, p4⟩
      · rw [hf i i1] at e1; rw [hf j i2] at e2
        exact h.inj i j r1 r2 g' c1 c2 k1 k2 l1 l2 e1 e2
      · rw [hf i i1] at e1
        rw [p3, Env.push_at] at e2
        cases e2
        exact absurd (h.inj i id r1 _ _ c1 c k1 hr l1 rfl e1 he) n1
    · rcases hget j r2 h2 l2 with ⟨n2, k2, i2⟩ | ⟨p3, _⟩
      · rw [hf j i2] at e2
        rw [p1, Env.push_at] at e1
        cases e1
        exact absurd (h.inj j id r2 _ _ c2 c k2 hr l2 rfl e2 he) n2
      · rw [p1, p3]

/-- The cells that an append takes. -/
theorem fc_run {A : Option Addr} {m c sz : Nat} {news : List Value} (hl : news.length = m * sz) (hc : 0 < m → ∃ ad, A = some ad ∧ ∀ j x, news[j]? = some x → w.cell? (ad.add j) = some x) :
    (Builtin.firstCells sz m (.slice A m c)).run P w = .ok news.toArray w := by
  rcases A with _ | ad
  · have hm : m = 0 := by
      rcases Nat.eq_zero_or_pos m with h | h
      · exact h
      · obtain ⟨ad, h, _⟩ := hc h; cases h
    subst hm
    have : news = [] := List.eq_nil_of_length_eq_zero (by simpa using hl)
    subst this
    simp [Builtin.firstCells]
  · have hcells : ∀ j v, news[j]? = some v → w.cell? (ad.add j) = some v := by
      intro j v hj
      rcases Nat.eq_zero_or_pos m with h | h
      · subst h
        have : news = [] := List.eq_nil_of_length_eq_zero (by simpa using hl)
        subst this; simp at hj
      · obtain ⟨ad', h, hc⟩ := hc h
        cases h
        exact hc j v hj
    have := run_loadCells_list (P := P) (w := w) ad news hcells
    rw [hl] at this
    simpa [Builtin.firstCells] using this

theorem app_room {t ty e : TypeId} {i : TypeInfo} (ht : P.underlying t = some (.slice e)) (hi : P.info? e = some i) {g len cap : Nat} {cur : Array Value} {tb : TypeId} (hg : w.heap[g]? = some (.cells cur tb (0, 0)))
    {A : Option Addr} {m c : Nat} {news : List Value} (hl : news.length = m * i.size) (hc : 0 < m → ∃ ad, A = some ad ∧ ∀ j x, news[j]? = some x → w.cell? (ad.add j) = some x) (h1 : ∀ u ∈ news, u.oneCell' = true)
    (hroom : len + m ≤ cap) (hfit : len * i.size + news.length ≤ cur.size) :
    (Builtin.append_ #[t, t] ty #[.slice (some ⟨g, 0, none⟩) len cap, .slice A m c]).run P w =
      .ok (.slice (some ⟨g, 0, none⟩) (len + m) cap) (w.setRow g (cur.toList.take (len * i.size) ++ news ++ cur.toList.drop (len * i.size + news.length)).toArray) := by
  have hf := fc_run (P := P) (c := c) hl hc
  have hst := run_storeCells_at (P := P) g (len * i.size) tb news 0 cur w hg (by simpa using hfit) h1
  simp only [Nat.add_zero] at hst
  simp [Builtin.append_, run_underlying ht, sizeOf, typeInfo, hi, Builtin.lenOf, hroom, hf, Addr.add_lit, hst]

end
end Go.Sim
