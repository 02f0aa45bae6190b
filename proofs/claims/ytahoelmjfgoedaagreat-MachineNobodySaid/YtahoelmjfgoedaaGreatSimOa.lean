/- Rows of a region that come up early are hidden for a while. Of no program. -/
import Derived.Test.YtahoelmjfgoedaaGreatSimO
namespace Go.Sim
open Go.RowKit Go.Proofs.YtahoelmjfgoedaaGreat.B
set_option linter.unusedVariables false
set_option linter.unusedSectionVars false
variable {P : Program} {w0 w : World} {env0 : Env} {bad0 : Bs} {fps : List Nat} {base : Nat → Prop} {N : Nat} {s : St} {a : Act}

def owned (env : Env) (regs : List Reg) (g : Nat) : Prop := ∃ id r c, regs[id]? = some r ∧ r.live = true ∧ env.f id = some (g, c)
open Classical in
theorem R.rebase (h : R P w0 env0 bad0 fps base N s a w) : ∃ env fps1, RS P w0 w fps base env s.regs ∧ (∀ n, VRel w env (badOf base env s.regs) (lk s.slots n) (a.tmps.getD n undef)) ∧ Ev bad0.w env0 bad0.bad w env (badOf base env s.regs) ∧
    (∀ g, g ∈ fps1 ↔ g < w.heap.size ∧ owned env s.regs g) ∧ R P w env ⟨w, badOf base env s.regs, bad0.ds, bad0.lo⟩ fps1 base N s a w := by
  obtain ⟨⟨env, hrs, hsl, hev⟩, hsz, hds, hnd, hmk, hlo⟩ := h
  have hf : ∀ g, g ∈ ((List.range w.heap.size).filter fun g => decide (owned env s.regs g)) ↔ g < w.heap.size ∧ owned env s.regs g := fun g => by
    rw [List.mem_filter, List.mem_range, decide_eq_true_iff]
  refine ⟨env, _, hrs, hsl, hev, hf, ⟨env, ⟨Keep.refl _ _, fun b hb => ⟨Nat.lt_of_lt_of_le (hrs.base_lt b hb).1 hrs.keep.size, fun hx => ?_⟩, hrs.len, hrs.reg, fun id r g c h1 h2 h3 => ?_, hrs.inj⟩, hsl, Ev.refl _ _ _⟩, hsz, hds, hnd, fun d hd => ?_, Nat.le_trans hlo hrs.keep.size⟩
  · obtain ⟨_, id, r, c, h1, h2, h3⟩ := (hf b).1 hx
    obtain ⟨p1, p2⟩ := hrs.base_lt b hb
    rcases (hrs.own id r b c h1 h2 h3).1 with h | h
    · exact p2 h
    · omega
  · have := hrs.own id r g c h1 h2 h3
    exact ⟨.inl ((hf g).2 ⟨this.2, id, r, c, h1, h2, h3⟩), this.2⟩
  · obtain ⟨D, rfl, q1, q2, q3, q4⟩ := hmk d hd
    exact ⟨D, rfl, q1, Nat.lt_of_lt_of_le q2 hev.same.size, fun hb => q3 (hev.sub _ q2 hb), (hev.same.block _ q2 q3).trans q4⟩
/-- A picture that tells nothing, but keeps all blocks. -/
theorem R.blank (h : R P w0 env0 bad0 fps base N s a w) : ∃ env, RS P w0 w fps base env s.regs ∧ (∀ n, VRel w env (badOf base env s.regs) (lk s.slots n) (a.tmps.getD n undef)) ∧ Ev bad0.w env0 bad0.bad w env (badOf base env s.regs) ∧
    R P w env ⟨w, badOf base env s.regs, bad0.ds, bad0.lo⟩ [] (fun b => b < w.heap.size ∧ badOf base env s.regs b) N ⟨[], List.replicate s.regs.length .dead⟩ a w := by
  obtain ⟨⟨env, hrs, hsl, hev⟩, hsz, hds, hnd, hmk, hlo⟩ := h
  have hdead : ∀ {id : Nat} {r : Reg}, (List.replicate s.regs.length Reg.dead)[id]? = some r → r = .dead := fun h => by
    rw [List.getElem?_replicate] at h
    split at h <;> simp_all
  have hb : ∀ b, badOf (fun b => b < w.heap.size ∧ badOf base env s.regs b) env (List.replicate s.regs.length .dead) b → badOf base env s.regs b := by
    rintro b (h | ⟨id, r, c, h1, h2, _⟩)
    · exact h.2
    · rw [hdead h1] at h2
      cases h2
  refine ⟨env, hrs, hsl, hev, ⟨env, ⟨Keep.refl _ _, fun b hb => ⟨hb.1, by simp⟩, by rw [hrs.len]; simp, fun id r h => ?_, fun id r g c h1 h2 h3 => ?_, fun i j r1 r2 g c1 c2 h1 h2 l1 l2 e1 e2 => ?_⟩, fun n => .c trivial, ⟨⟨Nat.le_refl _, fun _ _ _ => rfl⟩, fun b _ h => hb b h, Env.le_refl _⟩⟩, hsz, hds, hnd, fun d hd => ?_, Nat.le_trans hlo hrs.keep.size⟩
  · rw [hdead h]; trivial
  · rw [hdead h1] at h2; cases h2
  · rw [hdead h1] at l1; cases l1
  · obtain ⟨D, rfl, q1, q2, q3, q4⟩ := hmk d hd
    exact ⟨D, rfl, q1, Nat.lt_of_lt_of_le q2 hev.same.size, fun hb => q3 (hev.sub _ q2 hb), (hev.same.block _ q2 q3).trans q4⟩
theorem trItY_dst {P : Program} {N : Nat} {ops : Array Oper} {o : Oper} {it : AIt} (h : trItY P N ops o = some it) : it.d = o.dst ∧ okDst N o.dst = true := by
  simp only [trItY, Option.bind_eq_some_iff] at h
  obtain ⟨u, hu, ao, hao, h⟩ := h
  refine ⟨?_, guardO_eq.1 hu⟩
  split at h
  · cases h; rfl
  · obtain ⟨t, _, rfl⟩ := Option.map_eq_some_iff.1 h
    rfl
/-- Flat cells in a block. -/
def CellsAt (w : World) (g : Nat) (zs : List Value) : Prop := ∃ cur t, w.heap[g]? = some (.cells cur t (0, 0)) ∧ zs.length = cur.size ∧ ∀ j (h : j < zs.length), cur[j]? = some zs[j] ∧ flatv zs[j] = true
/-- A row that came up early: its slot, its block, its cells. -/
structure HE where
  d : Nat
  g : Nat
  zs : List Value
/-- The picture shows this frame and this world, but for rows that are hidden. -/
def Hid (P : Program) (w0 : World) (env0 : Env) (bad0 : Bs) (fps : List Nat) (base : Nat → Prop) (N : Nat) (E : List HE) (s : St) (a : Act) (w : World) : Prop :=
  ∃ (w1 : World) (env1 : Env) (bad1 : Bs) (fps1 : List Nat) (base1 : Nat → Prop), R P w1 env1 bad1 fps1 base1 N s a w ∧
    (∀ e ∈ E, base1 e.g ∧ w0.heap.size ≤ e.g ∧ CellsAt w1 e.g e.zs ∧ a.tmps.getD e.d undef = .pointer (some ⟨e.g, 0, none⟩)) ∧ (E.map (·.g)).Nodup ∧
    (∀ b, base b → base1 b) ∧ (∀ b, base1 b → base b ∨ ∃ e ∈ E, b = e.g) ∧ Keep fps w0 w1 ∧ (∀ b ∈ fps1, b ∈ fps ∨ w0.heap.size ≤ b) ∧ (∀ b, base b → b < w0.heap.size ∧ b ∉ fps) ∧
    Ev bad0.w env0 bad0.bad bad1.w env1 bad1.bad ∧ bad1.ds = bad0.ds ∧ DsOk bad0 w0 bad0.ds
theorem Hid.of (h : R P w0 env0 bad0 fps base N s a w) : Hid P w0 env0 bad0 fps base N [] s a w := by
  have hd := h.defers
  rw [show a.defers = bad0.ds from hd.1] at hd
  obtain ⟨env, hrs, _, _⟩ := h.ex
  exact ⟨w0, env0, bad0, fps, base, h, fun e he => by simp at he, by simp, fun _ h => h, fun _ h => .inl h, Keep.refl _ _, fun _ h => .inl h, hrs.base_lt, Ev.refl _ _ _, rfl, hd⟩
theorem Hid.perm {E X : List HE} (h : Hid P w0 env0 bad0 fps base N E s a w) (hp : E.Perm X) : Hid P w0 env0 bad0 fps base N X s a w := by
  obtain ⟨w1, env1, bad1, fps1, base1, h1, h2, h3, h4, h5, h6⟩ := h
  exact ⟨w1, env1, bad1, fps1, base1, h1, fun e he => h2 e (hp.mem_iff.2 he), (hp.map _).nodup_iff.1 h3, h4, fun b hb => (h5 b hb).imp (fun h => h) fun ⟨e, he, k⟩ => ⟨e, hp.mem_iff.1 he, k⟩, h6⟩
/-- None is hidden. -/
theorem Hid.bare (h : Hid P w0 env0 bad0 fps base N [] s a w) : R P w0 env0 bad0 fps base N s a w := by
  obtain ⟨w1, env1, bad1, fps1, base1, ⟨⟨env, hrs, hsl, hev⟩, hsz, hds⟩, _, _, hb1, hb2, hk, hf, hbl, hev0, hdd, hd0⟩ := h
  have hb2' : ∀ b, base1 b → base b := fun b hb => (hb2 b hb).resolve_right fun ⟨e, he, _⟩ => by simp at he
  have hsub : ∀ b, badOf base env s.regs b → badOf base1 env s.regs b := fun b hb => hb.imp (hb1 b) fun h => h
  have hevb : Ev w env (badOf base1 env s.regs) w env (badOf base env s.regs) := ⟨⟨Nat.le_refl _, fun _ _ _ => rfl⟩, fun b _ h => hsub b h, Env.le_refl _⟩
  refine ⟨⟨env, ⟨hk.trans' hrs.keep hf, hbl, hrs.len, fun id r h => RRel.ev hevb (hrs.live_lt h) (fun _ _ _ _ => rfl) (hrs.reg id r h), fun id r g c h1 h2 h3 => ?_, hrs.inj⟩, fun n => (hsl n).ev hevb, (hev0.trans hev).trans hevb⟩, hsz, ?_⟩
  · obtain ⟨o1, o2⟩ := hrs.own id r g c h1 h2 h3
    exact ⟨o1.elim (hf g) fun h => .inr (Nat.le_trans hk.size h), o2⟩
  · rw [show a.defers = bad0.ds from hds.1.trans hdd]
    exact hd0
/-- A hidden row comes back. -/
theorem Hid.back {e : HE} {E : List HE} (h : Hid P w0 env0 bad0 fps base N (e :: E) s a w) : Hid P w0 env0 bad0 fps base N E ⟨(e.d, .c (.ptr s.regs.length 0)) :: s.slots, s.regs ++ [.ac (e.zs.map fun z => .p (.v z))]⟩ a w := by
  obtain ⟨w1, env1, bad1, fps1, base1, ⟨⟨env2, hrs2, hsl2, hev2⟩, hsz2, hds2⟩, hE, hnd, hb1, hb2, hk, hf, hbl, hev0, hdd, hd0⟩ := h
  obtain ⟨he1, he2, ⟨cur, t, hg, hlen, hcells⟩, he4⟩ := hE e (by simp)
  simp only [List.map_cons, List.nodup_cons] at hnd
  have hbg := hrs2.base_lt e.g he1
  have hpf : ∀ id, id < s.regs.length → (env2.push (some (e.g, 1))).f id = env2.f id := fun id h => by
    rw [← hrs2.len] at h
    exact (Env.le_push env2 _).2 id h
  have hpn : (env2.push (some (e.g, 1))).f s.regs.length = some (e.g, 1) := by rw [← hrs2.len]; exact Env.push_at _ _
  have hget : ∀ (id : Nat) (r : Reg), (s.regs ++ [Reg.ac (e.zs.map fun z => .p (.v z))])[id]? = some r → (id < s.regs.length ∧ s.regs[id]? = some r) ∨ (id = s.regs.length ∧ r = .ac (e.zs.map fun z => .p (.v z))) := by
    intro id r h
    by_cases hlt : id < s.regs.length
    · rw [List.getElem?_append_left hlt] at h
      exact .inl ⟨hlt, h⟩
    · rw [List.getElem?_append_right (by omega)] at h
      have := (List.getElem?_eq_some_iff.1 h).1
      simp only [List.length_singleton] at this
      have e : id = s.regs.length := by omega
      subst e
      simp at h
      exact .inr ⟨rfl, h.symm⟩
  have hsub3 : ∀ b, badOf (fun b => base1 b ∧ b ≠ e.g) (env2.push (some (e.g, 1))) (s.regs ++ [Reg.ac (e.zs.map fun z => .p (.v z))]) b → badOf base1 env2 s.regs b := by
    rintro b (h | ⟨id, r, c', h1, h2, h3⟩)
    · exact .inl h.1
    · rcases hget id r h1 with ⟨k1, k2⟩ | ⟨rfl, rfl⟩
      · rw [hpf id k1] at h3
        exact .inr ⟨id, r, c', k2, h2, h3⟩
      · rw [hpn] at h3
        cases h3
        exact .inl he1
  have hev3 : Ev w env2 (badOf base1 env2 s.regs) w (env2.push (some (e.g, 1))) (badOf (fun b => base1 b ∧ b ≠ e.g) (env2.push (some (e.g, 1))) (s.regs ++ [Reg.ac (e.zs.map fun z => .p (.v z))])) := ⟨⟨Nat.le_refl _, fun _ _ _ => rfl⟩, fun b _ h => hsub3 b h, Env.le_push _ _⟩
  have hclash : ∀ id r c', s.regs[id]? = some r → r.live = true → env2.f id = some (e.g, c') → False := fun id r c' h1 h2 h3 => by
    rcases (hrs2.own id r e.g c' h1 h2 h3).1 with h | h
    · exact hbg.2 h
    · omega
  refine ⟨w1, env1, bad1, e.g :: fps1, fun b => base1 b ∧ b ≠ e.g, ⟨⟨env2.push (some (e.g, 1)), ⟨hrs2.keep.more fun b hb => List.mem_cons_of_mem _ hb, fun b hb => ⟨(hrs2.base_lt b hb.1).1, fun hx => ?_⟩, by rw [show (env2.push (some (e.g, 1))).n = env2.n + 1 from rfl, hrs2.len]; simp, fun id r h => ?_, fun id r g' c' h1 h2 h3 => ?_, fun i j r1 r2 g' c1 c2 h1 h2 l1 l2 e1 e2 => ?_⟩, fun n => ?_, hev2.trans hev3⟩, hsz2, hds2⟩, fun x hx => ?_, hnd.2, fun b hb => ⟨hb1 b hb, fun e' => ?_⟩, fun b hb => ?_, hk, fun b hb => ?_, hbl, hev0, hdd, hd0⟩
  · rcases List.mem_cons.1 hx with rfl | hx
    · exact hb.2 rfl
    · exact (hrs2.base_lt b hb.1).2 hx
  · rcases hget id r h with ⟨k1, k2⟩ | ⟨rfl, rfl⟩
    · exact RRel.ev hev3 (hrs2.live_lt k2) (fun _ _ _ _ => rfl) (hrs2.reg id r k2)
    · refine ⟨e.g, 1, cur, t, hpn, (hrs2.keep.block e.g hbg.1 hbg.2).trans hg, by simpa using hlen, fun j hj => ?_⟩
      obtain ⟨v1, v2⟩ := hcells j (by simpa using hj)
      refine ⟨_, v1, ?_, by rw [List.getElem_map]; rfl⟩
      rw [List.getElem_map]
      exact PRel.v v2
  · rcases hget id r h1 with ⟨k1, k2⟩ | ⟨rfl, rfl⟩
    · rw [hpf id k1] at h3
      obtain ⟨o1, o2⟩ := hrs2.own id r g' c' k2 h2 h3
      exact ⟨o1.imp (List.mem_cons_of_mem _) fun h => h, o2⟩
    · rw [hpn] at h3
      cases h3
      exact ⟨.inl (by simp), Nat.lt_of_lt_of_le hbg.1 hrs2.keep.size⟩
  · rcases hget i r1 h1 with ⟨k1, k2⟩ | ⟨rfl, rfl⟩ <;> rcases hget j r2 h2 with ⟨m1, m2⟩ | ⟨rfl, rfl⟩
    · rw [hpf i k1] at e1
      rw [hpf j m1] at e2
      exact hrs2.inj i j r1 r2 g' c1 c2 k2 m2 l1 l2 e1 e2
    · rw [hpf i k1] at e1
      rw [hpn] at e2
      cases e2
      exact (hclash i r1 c1 k2 l1 e1).elim
    · rw [hpf j m1] at e2
      rw [hpn] at e1
      cases e1
      exact (hclash j r2 c2 m2 l2 e2).elim
    · rfl
  · by_cases en : e.d = n
    · rw [← en, show lk ((e.d, AV.c (.ptr s.regs.length 0)) :: s.slots) e.d = .c (.ptr s.regs.length 0) by simp [lk], he4]
      exact .c ⟨by rw [← hrs2.len]; exact Nat.lt_succ_self _, e.g, 1, hpn, rfl⟩
    · rw [show lk ((e.d, AV.c (.ptr s.regs.length 0)) :: s.slots) n = lk s.slots n by simp [lk, en]]
      exact (hsl2 n).ev hev3
  · obtain ⟨k1, k2, k3, k4⟩ := hE x (List.mem_cons_of_mem _ hx)
    exact ⟨⟨k1, fun e' => hnd.1 (List.mem_map.2 ⟨x, hx, e'⟩)⟩, k2, k3, k4⟩
  · have := (hbl b hb).1
    omega
  · rcases hb2 b hb.1 with h | ⟨x, hx, k⟩
    · exact .inl h
    · rcases List.mem_cons.1 hx with rfl | hx
      · exact absurd k hb.2
      · exact .inr ⟨x, hx, k⟩
  · rcases List.mem_cons.1 hb with rfl | hb
    · exact .inr he2
    · exact hf b hb

/-! ### Hidden rows while other operations come up -/
section
variable {P : Program} {w0 : World} {env0 : Env} {bad0 : Bs} {fps : List Nat} {base : Nat → Prop} {N : Nat} {s : St} {a : Act} {w : World} {ops : Array Oper} {Q : Exit → Act → World → Prop} {ro : Option Nat} {n : Nat}
theorem put_get {a : Act} {d : Option Nat} {u : Value} {n : Nat} (h : d ≠ some n) : (a.put d u).tmps.getD n undef = a.tmps.getD n undef := by
  cases d with
  | none => rfl
  | some k =>
    have : k ≠ n := fun e => h (by rw [e])
    show (a.tmps.setIfInBounds k u).getD n undef = _
    rw [Array.getD_eq_getD_getElem?, Array.getElem?_setIfInBounds_ne this, ← Array.getD_eq_getD_getElem?]
theorem Hid.op {E : List HE} {o : Oper} {i : Nat} {it : AIt} {K : St → Prop} {next : Act → World → Prop} (hi : ops[i]? = some o) (htr : trItY P N ops o = some it) (h : itW P it s K) (hH : Hid P w0 env0 bad0 fps base N E s a w) (hd : ∀ e ∈ E, it.d ≠ some e.d)
    (hK : ∀ s' a' w', K s' → Hid P w0 env0 bad0 fps base N E s' a' w' → next a' w') : wpOpIn (Fw ro) n P ops Q i next a w := by
  obtain ⟨hdst, _⟩ := trItY_dst htr
  obtain ⟨w1, env1, bad1, fps1, base1, hR, hE, hr⟩ := hH
  refine wpOpIn_mono (K := fun a' w' => (∃ s', K s' ∧ R P w1 env1 bad1 fps1 base1 N s' a' w') ∧ ∃ v, a'.tmps = (a.put o.dst v).tmps) (fun a' w' hx => ?_) (wpOpIn_tmps hi (it_opIn hi htr h hR fun s' a' w' k r => ⟨s', k, r⟩))
  obtain ⟨⟨s', k, r⟩, v, hv⟩ := hx
  refine hK s' a' w' k ⟨w1, env1, bad1, fps1, base1, r, fun e he => ?_, hr⟩
  obtain ⟨e1, e2, e3, e4⟩ := hE e he
  refine ⟨e1, e2, e3, ?_⟩
  rw [hv, put_get (by rw [← hdst]; exact hd e he)]
  exact e4
open Classical in
/-- A new row is hidden. -/
theorem Hid.hide {E : List HE} {o : Oper} {i d : Nat} {zs : List Value} {next : Act → World → Prop} (hi : ops[i]? = some o) (htr : trItY P N ops o = some ⟨none, some d, .alloc (some d) zs⟩) (hany : lk s.slots d = .c .any) (hH : Hid P w0 env0 bad0 fps base N E s a w) (hd : ∀ e ∈ E, e.d ≠ d)
    (hK : ∀ a' w' g, Hid P w0 env0 bad0 fps base N (⟨d, g, zs⟩ :: E) s a' w' → next a' w') : wpOpIn (Fw ro) n P ops Q i next a w := by
  obtain ⟨hdst, hok⟩ := trItY_dst htr
  obtain ⟨w1, env1, bad1, fps1, base1, hR, hE, hnd, hb1, hb2, hk, hf, hbl, hev0, hdd, hd0⟩ := hH
  obtain ⟨env, hrs, hsl, hev, hRb⟩ := hR.blank
  have hit : itW P ⟨none, some d, .alloc (some d) zs⟩ ⟨[], List.replicate s.regs.length .dead⟩ fun s1 => s1 = ⟨[(d, .c (.ptr s.regs.length 0))], List.replicate s.regs.length .dead ++ [.ac (zs.map fun z => .p (.v z))]⟩ := by
    show _ = _
    simp [St.putr, St.put]
  refine wpOpIn_mono (K := fun a' w' => R P w env ⟨w, badOf base1 env s.regs, bad1.ds, bad1.lo⟩ [] (fun b => b < w.heap.size ∧ badOf base1 env s.regs b) N ⟨[(d, .c (.ptr s.regs.length 0))], List.replicate s.regs.length .dead ++ [.ac (zs.map fun z => .p (.v z))]⟩ a' w' ∧ ∃ v, a'.tmps = (a.put o.dst v).tmps)
    (fun a' w' h => ?_) (wpOpIn_tmps hi (it_opIn hi htr hit hRb fun s' a' w' k r => by subst k; exact r))
  obtain ⟨⟨⟨env', hrsB, hslB, hevB⟩, hszB, hdsB⟩, u, hu⟩ := h
  rw [← hdst] at hu
  have hlast : (List.replicate s.regs.length Reg.dead ++ [Reg.ac (zs.map fun z => .p (.v z))])[s.regs.length]? = some (.ac (zs.map fun z => .p (.v z))) := by
    rw [List.getElem?_append_right (by simp)]; simp
  obtain ⟨g, c, cur, t, eg, hg, hlen, hcells⟩ := hrsB.reg _ _ hlast
  obtain ⟨hg1, hg2⟩ := hrsB.own _ _ g c hlast rfl eg
  have hgw : w.heap.size ≤ g := hg1.resolve_left (by simp)
  have hdv : a'.tmps.getD d undef = .pointer (some ⟨g, 0, none⟩) := by
    have := hslB d
    rw [show lk [(d, AV.c (.ptr s.regs.length 0))] d = .c (.ptr s.regs.length 0) by simp [lk]] at this
    cases this with
    | c h =>
      obtain ⟨_, g', c', e, hv⟩ := h
      rw [eg] at e
      cases e
      exact hv
  have hkeep : Keep [] w w' := hrsB.keep
  have hown : ∀ b, owned env s.regs b → (b ∈ fps1 ∨ w1.heap.size ≤ b) ∧ b < w.heap.size := fun b ⟨id, r, c, h1, h2, h3⟩ => hrs.own id r b c h1 h2 h3
  have hfl : ∀ b, b ∈ ((List.range w.heap.size).filter fun b => decide (owned env s.regs b)) ↔ b < w.heap.size ∧ owned env s.regs b := fun b => by
    rw [List.mem_filter, List.mem_range, decide_eq_true_iff]
  have hsub1 : ∀ b, badOf (fun b => base1 b ∨ b = g) env s.regs b → badOf base1 env s.regs b ∨ b = g := by
    rintro b ((h | h) | h)
    · exact .inl (.inl h)
    · exact .inr h
    · exact .inl (.inr h)
  have hev1 : Ev w env (badOf base1 env s.regs) w' env (badOf (fun b => base1 b ∨ b = g) env s.regs) := ⟨⟨hkeep.size, fun b hb _ => hkeep.block b hb (by simp)⟩, fun b hb hx => (hsub1 b hx).resolve_right fun e => by omega, Env.le_refl _⟩
  have hR1 : R P w' env ⟨w', badOf (fun b => base1 b ∨ b = g) env s.regs, bad1.ds, bad1.lo⟩ ((List.range w.heap.size).filter fun b => decide (owned env s.regs b)) (fun b => base1 b ∨ b = g) N s a' w' := by
    refine ⟨⟨env, ⟨Keep.refl _ _, fun b hb => ?_, hrs.len, fun id r h => RRel.ev hev1 (hrs.live_lt h) (fun hl g' c' he => hkeep.block g' (hrs.own id r g' c' h hl he).2 (by simp)) (hrs.reg id r h), fun id r g' c' h1 h2 h3 => ?_, hrs.inj⟩, fun n => ?_, Ev.refl _ _ _⟩, hszB, hdsB.1, hdsB.2.1, fun q hq => ?_, Nat.le_trans hdsB.2.2.2 hkeep.size⟩
    · rcases hb with hb | rfl
      · obtain ⟨p1, p2⟩ := hrs.base_lt b hb
        refine ⟨Nat.lt_of_lt_of_le p1 (Nat.le_trans hrs.keep.size hkeep.size), fun hx => ?_⟩
        rcases (hown b ((hfl b).1 hx).2).1 with h | h
        · exact p2 h
        · omega
      · exact ⟨hg2, fun hx => by have := ((hfl _).1 hx).1; omega⟩
    · have hlt := (hrs.own id r g' c' h1 h2 h3).2
      exact ⟨.inl ((hfl g').2 ⟨hlt, id, r, c', h1, h2, h3⟩), Nat.lt_of_lt_of_le hlt hkeep.size⟩
    · by_cases e : d = n
      · subst e
        rw [hany]
        exact .c trivial
      · rw [hu, put_get fun h => e (Option.some.inj h)]
        exact (hsl n).ev hev1
    · obtain ⟨D, rfl, q1, q2, q3, q4⟩ := hdsB.2.2.1 q hq
      refine ⟨D, rfl, q1, Nat.lt_of_lt_of_le q2 hkeep.size, fun hb => ?_, (hkeep.block D q2 (by simp)).trans q4⟩
      rcases hsub1 D hb with h | h
      · exact q3 h
      · have : D < w.heap.size := q2
        omega
  have hkw : w0.heap.size ≤ w.heap.size := Nat.le_trans hk.size hrs.keep.size
  refine hK a' w' g ⟨w', env, ⟨w', badOf (fun b => base1 b ∨ b = g) env s.regs, bad1.ds, bad1.lo⟩, (List.range w.heap.size).filter fun b => decide (owned env s.regs b), fun b => base1 b ∨ b = g, hR1, fun e he => ?_, ?_, fun b hb => .inl (hb1 b hb), fun b hb => ?_, (hk.trans' hrs.keep hf).trans' hkeep (by simp), fun b hb => ?_, hbl, (hev0.trans hev).trans hev1, hdd, hd0⟩
  · rcases List.mem_cons.1 he with rfl | he
    · refine ⟨.inr rfl, Nat.le_trans hkw hgw, ⟨cur, t, hg, by simpa using hlen, fun j hj => ?_⟩, hdv⟩
      obtain ⟨v, v1, v2, v3⟩ := hcells j (by simpa using hj)
      rw [List.getElem_map] at v2
      cases (v2 : PRel w' _ (.v _) v) with
      | v hflat => exact ⟨v1, hflat⟩
    · obtain ⟨k1, k2, ⟨cur', t', k3, k4⟩, k5⟩ := hE e he
      obtain ⟨p1, p2⟩ := hrs.base_lt e.g k1
      refine ⟨.inl k1, k2, ⟨cur', t', ?_, k4⟩, ?_⟩
      · rw [hkeep.block e.g (Nat.lt_of_lt_of_le p1 hrs.keep.size) (by simp), hrs.keep.block e.g p1 p2]
        exact k3
      · rw [hu, put_get fun h => hd e he (Option.some.inj h).symm]
        exact k5
  · simp only [List.map_cons, List.nodup_cons]
    refine ⟨fun hx => ?_, hnd⟩
    obtain ⟨e, he, k⟩ := List.mem_map.1 hx
    have := (hrs.base_lt e.g (hE e he).1).1
    have := hrs.keep.size
    have k' : e.g = g := k
    omega
  · rcases hb with hb | rfl
    · exact (hb2 b hb).imp (fun h => h) fun ⟨e, he, k⟩ => ⟨e, List.mem_cons_of_mem _ he, k⟩
    · exact .inr ⟨_, List.mem_cons_self, rfl⟩
  · rcases (hown b ((hfl b).1 hb).2).1 with h | h
    · exact hf b h
    · exact .inr (Nat.le_trans hk.size h)
/-- All hidden rows come back. -/
def backS : List (Nat × List Value) → St → St
  | [], s => s
  | (d, zs) :: r, s => backS r ⟨(d, .c (.ptr s.regs.length 0)) :: s.slots, s.regs ++ [.ac (zs.map fun z => .p (.v z))]⟩
theorem Hid.backs : ∀ {E : List HE} {s : St}, Hid P w0 env0 bad0 fps base N E s a w → R P w0 env0 bad0 fps base N (backS (E.map fun e => (e.d, e.zs)) s) a w
  | [], _, h => h.bare
  | e :: E, s, h => by
    have := Hid.backs (E := E) h.back
    exact this
theorem backS_regs : ∀ {l : List (Nat × List Value)} {s s' : St}, s.regs = s'.regs → (backS l s).regs = (backS l s').regs
  | [], _, _, h => h
  | (d, zs) :: r, s, s', h => backS_regs (l := r) (by simp only [h])
theorem backS_ne {t : Nat} : ∀ {l : List (Nat × List Value)} {s : St}, (∀ q ∈ l, q.1 ≠ t) → lk (backS l s).slots t = lk s.slots t
  | [], _, _ => rfl
  | (d, zs) :: r, s, h => by
    have h1 : d ≠ t := h _ List.mem_cons_self
    rw [backS, backS_ne fun q hq => h q (List.mem_cons_of_mem _ hq)]
    simp [lk, h1]
theorem backS_eq {t : Nat} : ∀ {l : List (Nat × List Value)} {s s' : St}, s.regs = s'.regs → (∃ q ∈ l, q.1 = t) → lk (backS l s).slots t = lk (backS l s').slots t
  | [], _, _, _, ⟨q, hq, _⟩ => by simp at hq
  | (d, zs) :: r, s, s', h, ⟨q, hq, e⟩ => by
    rw [backS, backS]
    by_cases hr : ∃ q ∈ r, q.1 = t
    · exact backS_eq (by simp only [h]) hr
    · have hn : ∀ q ∈ r, q.1 ≠ t := fun q hq e => hr ⟨q, hq, e⟩
      rw [backS_ne hn, backS_ne hn]
      rcases List.mem_cons.1 hq with rfl | hq
      · subst e
        simp [lk, h]
      · exact absurd e (hn q hq)
theorem filter_add {p q : Nat → Bool} {i : Nat} (hq : ∀ j, j ≠ i → q j = p j) (hi1 : p i = false) (hi2 : q i = true) : ∀ {l : List Nat}, l.Nodup → i ∈ l → (i :: l.filter p).Perm (l.filter q)
  | [], _, h => by simp at h
  | b :: l, hn, h => by
    rw [List.nodup_cons] at hn
    by_cases e : b = i
    · subst e
      rw [List.filter_cons_of_pos hi2, List.filter_cons_of_neg (by rw [hi1]; simp), List.filter_congr (p := q) (q := p) fun j hj => hq j fun e => hn.1 (e ▸ hj)]
    · have hil : i ∈ l := (List.mem_cons.1 h).resolve_left fun h => e h.symm
      have ih := filter_add hq hi1 hi2 hn.2 hil
      cases hp : p b with
      | true =>
        rw [List.filter_cons_of_pos hp, List.filter_cons_of_pos (by rw [hq b e]; exact hp)]
        exact (List.Perm.swap _ _ _).trans (List.Perm.cons _ ih)
      | false =>
        rw [List.filter_cons_of_neg (by rw [hp]; simp), List.filter_cons_of_neg (by rw [hq b e, hp]; simp)]
        exact ih
end

/-! ### The tree where rows come up early -/
def alB (ops : Array Oper) (its : List AIt) (i : Nat) : Bool := match its[i]? with
  | some ⟨none, some d, .alloc (some d') _⟩ => d == d' && (bnd ops i).isEmpty
  | _ => false
def alsOf (ops : Array Oper) (its : List AIt) (T : List Nat) : List Nat := T.filter (alB ops its)
def lateOk (m : Nat) (A : List (List Nat)) (T al : List Nat) : Bool := (List.range m).all fun k => (al.all fun i => !(A.getD k []).contains i) || ((al.all fun i => (A.getD k []).contains i) && T.all fun j => al.contains j || ((al.any fun i => (A.getD j []).contains i) || (A.getD k []).contains j))
def alT (its : List AIt) : List Nat → Option ATree → Option ATree
  | [], t => t
  | i :: r, t => (its[i]?).bind fun it => (alT its r t).map (.turn it)
def mkTree0 (its : List AIt) (A : List (List Nat)) (T al : List Nat) : Nat → List Nat → List Nat → Option ATree
  | 0, U, C => tellT its (newOf its.length A T U C) (match (candOf its.length A T U).filter fun i => !al.contains i with
    | [] => alT its al (againT its (agOf its A (al ++ U) (C ++ newOf its.length A T U C)) (mkTree its A T its.length (al ++ U) (C ++ newOf its.length A T U C)))
    | _ => none)
  | fuel + 1, U, C => tellT its (newOf its.length A T U C) (match (candOf its.length A T U).filter fun i => !al.contains i with
    | [] => alT its al (againT its (agOf its A (al ++ U) (C ++ newOf its.length A T U C)) (mkTree its A T its.length (al ++ U) (C ++ newOf its.length A T U C)))
    | l => alts (fun i => (its[i]?).bind fun it => (againT its (agOf its A (i :: U) (C ++ newOf its.length A T U C)) (mkTree0 its A T al fuel (i :: U) (C ++ newOf its.length A T U C))).map (.turn it)) l)
def nextOf0 (its : List AIt) (A : List (List Nat)) (T al : List Nat) (fuel : Nat) (U C : List Nat) : Option ATree := match (candOf its.length A T U).filter fun i => !al.contains i, fuel with
  | [], _ => alT its al (againT its (agOf its A (al ++ U) (C ++ newOf its.length A T U C)) (mkTree its A T its.length (al ++ U) (C ++ newOf its.length A T U C)))
  | _, 0 => none
  | l, fuel + 1 => alts (fun i => (its[i]?).bind fun it => (againT its (agOf its A (i :: U) (C ++ newOf its.length A T U C)) (mkTree0 its A T al fuel (i :: U) (C ++ newOf its.length A T U C))).map (.turn it)) l
theorem mkTree0_eq {its : List AIt} {A : List (List Nat)} {T al : List Nat} (fuel : Nat) (U C : List Nat) : mkTree0 its A T al fuel U C = tellT its (newOf its.length A T U C) (nextOf0 its A T al fuel U C) := by
  cases fuel <;> (unfold mkTree0 nextOf0; congr 1; generalize (candOf its.length A T U).filter (fun i => !al.contains i) = l; cases l <;> rfl)
def tree2Of (P : Program) (N : Nat) (ops : Array Oper) : Option ATree := (allOf (trItY P N ops) ops.toList).bind fun its =>
  (guardO (ltOk ops its (ancs ops its.length) (turnsOf ops its))).bind fun _ =>
    if (!(alsOf ops its (turnsOf ops its)).isEmpty && lateOk its.length (ancs ops its.length) (turnsOf ops its) (alsOf ops its (turnsOf ops its))) = true then mkTree0 its (ancs ops its.length) (turnsOf ops its) (alsOf ops its (turnsOf ops its)) its.length [] []
    else mkTree its (ancs ops its.length) (turnsOf ops its) its.length [] []
/-- What the static look says of the rows that come up early. -/
structure AlH (ops : Array Oper) (its : List AIt) (A : List (List Nat)) (T al : List Nat) : Prop where
  it : ∀ i ∈ al, ∃ d zs, its[i]? = some ⟨none, some d, .alloc (some d) zs⟩
  top : ∀ i ∈ al, bnd ops i = []
  inT : ∀ i ∈ al, i ∈ T
  late : ∀ k, k < its.length → (∃ i ∈ al, i ∈ A.getD k []) → (∀ i ∈ al, i ∈ A.getD k []) ∧ ∀ j ∈ T, j ∉ al → (∀ i ∈ al, i ∉ A.getD j []) → j ∈ A.getD k []
  nd : al.Nodup
theorem AlH.of {ops : Array Oper} {its : List AIt} {A : List (List Nat)} {T : List Nat} (hT : T.Nodup) (h : lateOk its.length A T (alsOf ops its T) = true) : AlH ops its A T (alsOf ops its T) := by
  have hm : ∀ i, i ∈ alsOf ops its T ↔ i ∈ T ∧ alB ops its i = true := fun i => by unfold alsOf; rw [List.mem_filter]
  have hb : ∀ i, alB ops its i = true → (∃ d zs, its[i]? = some ⟨none, some d, .alloc (some d) zs⟩) ∧ bnd ops i = [] := fun i hi => by
    unfold alB at hi
    split at hi
    · rename_i d d' zs e
      simp only [Bool.and_eq_true, beq_iff_eq, List.isEmpty_iff] at hi
      obtain ⟨rfl, h2⟩ := hi
      exact ⟨⟨d, zs, e⟩, h2⟩
    · cases hi
  refine ⟨fun i hi => (hb i ((hm i).1 hi).2).1, fun i hi => (hb i ((hm i).1 hi).2).2, fun i hi => ((hm i).1 hi).1, fun k hk ⟨i0, hi0, hx⟩ => ?_, hT.sublist List.filter_sublist⟩
  simp only [lateOk, List.all_eq_true, List.mem_range, Bool.or_eq_true, Bool.and_eq_true, Bool.not_eq_true', List.any_eq_true, List.contains_eq_mem, decide_eq_true_eq, decide_eq_false_iff_not] at h
  rcases h k hk with h | ⟨h1, h2⟩
  · exact absurd hx (h i0 hi0)
  · refine ⟨h1, fun j hj hja hn => ?_⟩
    rcases h2 j hj with h | ⟨i, hi, h⟩ | h
    · exact absurd h hja
    · exact absurd h (hn i hi)
    · exact h
def infD (its : List AIt) (i : Nat) : Nat := (dOf its i).getD 0
def infZ (its : List AIt) (i : Nat) : List Value := match its[i]? with
  | some it => (match it.op with
    | .alloc _ zs => zs
    | _ => [])
  | none => []
def alHE (its : List AIt) (G : Nat → Nat) (i : Nat) : HE := ⟨infD its i, G i, infZ its i⟩
def inf (its : List AIt) (al : List Nat) : List (Nat × List Value) := al.map fun i => (infD its i, infZ its i)
section
variable {P : Program} {w0 : World} {env0 : Env} {bad0 : Bs} {fps : List Nat} {base : Nat → Prop} {N : Nat} {ops : Array Oper} {Q : Exit → Act → World → Prop} {K : St → Prop} {ro : Option Nat} {n : Nat} {its : List AIt} {A : List (List Nat)} {T al : List Nat}
theorem inf_of {i d : Nat} {zs : List Value} (h : its[i]? = some ⟨none, some d, .alloc (some d) zs⟩) : dOf its i = some d ∧ infD its i = d ∧ infZ its i = zs := by
  have h1 : dOf its i = some d := by unfold dOf; rw [h]; rfl
  refine ⟨h1, by unfold infD; rw [h1]; rfl, by unfold infZ; rw [h]⟩
theorem AlH.d (hA : AlH ops its A T al) {i : Nat} (hi : i ∈ al) : dOf its i = some (infD its i) := by
  obtain ⟨d, zs, h⟩ := hA.it i hi
  obtain ⟨h1, h2, _⟩ := inf_of h
  rw [h1, h2]
theorem alT_W {ot : Option ATree} : ∀ {l : List Nat} {t : ATree} {s : St}, (∀ i ∈ l, ∃ d zs, its[i]? = some ⟨none, some d, .alloc (some d) zs⟩) → alT its l ot = some t → treeW P K t s → ∃ t', ot = some t' ∧ treeW P K t' (backS (inf its l) s)
  | [], t, s, _, h, hw => ⟨t, h, hw⟩
  | i :: r, t, s, hl, h, hw => by
    simp only [alT, Option.bind_eq_some_iff, Option.map_eq_some_iff] at h
    obtain ⟨it, hi, t1, h1, rfl⟩ := h
    obtain ⟨s1, h2, h3⟩ := hw
    obtain ⟨d, zs, h4⟩ := hl i List.mem_cons_self
    obtain ⟨_, h5, h6⟩ := inf_of h4
    rw [hi] at h4
    cases h4
    have e : (⟨(d, .c (.ptr s.regs.length 0)) :: s.slots, s.regs ++ [.ac (zs.map fun z => .p (.v z))]⟩ : St) = s1 := by
      have := h2 (fun x => x = s1) rfl
      exact this
    obtain ⟨t', k1, k2⟩ := alT_W (l := r) (fun j hj => hl j (List.mem_cons_of_mem _ hj)) h1 h3
    refine ⟨t', k1, ?_⟩
    rw [inf, List.map_cons, h5, h6, backS, e]
    exact k2
def HidL (P : Program) (w0 : World) (env0 : Env) (bad0 : Bs) (fps : List Nat) (base : Nat → Prop) (N : Nat) (its : List AIt) (al : List Nat) (listed : Array Bool) (s : St) (a : Act) (w : World) : Prop :=
  ∃ G : Nat → Nat, Hid P w0 env0 bad0 fps base N ((al.filter fun i => listed.getD i false).map (alHE its G)) s a w
theorem isL_getD {listed : Array Bool} {i : Nat} : listed.getD i false = true ↔ isL listed i := by
  unfold isL
  rw [Array.getD_eq_getD_getElem?]
  cases listed[i]? <;> simp
theorem getD_set {listed : Array Bool} {i j : Nat} (h : j ≠ i) : (listed.setIfInBounds i true).getD j false = listed.getD j false := by
  rw [Array.getD_eq_getD_getElem?, Array.getElem?_setIfInBounds_ne (fun e => h e.symm), ← Array.getD_eq_getD_getElem?]
theorem HidL.op {listed : Array Bool} {o : Oper} {i : Nat} {it : AIt} {s : St} {a : Act} {w : World} {next : Act → World → Prop} (hH : LtH ops its A T) (hA : AlH ops its A T al) (hi : ops[i]? = some o) (hit : its[i]? = some it) (htr : trItY P N ops o = some it) (hal : i ∉ al) (h : itW P it s K) (hL : HidL P w0 env0 bad0 fps base N its al listed s a w)
    (hK : ∀ s' a' w', K s' → HidL P w0 env0 bad0 fps base N its al (listed.setIfInBounds i true) s' a' w' → next a' w') : wpOpIn (Fw ro) n P ops Q i next a w := by
  obtain ⟨G, hG⟩ := hL
  have e : (al.filter fun j => (listed.setIfInBounds i true).getD j false) = al.filter fun j => listed.getD j false := List.filter_congr fun j hj => getD_set fun e => hal (e ▸ hj)
  refine hG.op hi htr h (fun x hx hd => ?_) fun s' a' w' k r => hK s' a' w' k ⟨G, by rw [e]; exact r⟩
  obtain ⟨j, hj, rfl⟩ := List.mem_map.1 hx
  have hj' := (List.mem_filter.1 hj).1
  have := hH.one i j (infD its j) (by unfold dOf; rw [hit]; exact hd) (hA.d hj')
  exact hal (this ▸ hj')
theorem HidL.hide {listed : Array Bool} {o : Oper} {i : Nat} {s : St} {a : Act} {w : World} {next : Act → World → Prop} (hH : LtH ops its A T) (hA : AlH ops its A T al) (hi : ops[i]? = some o) (htr : ∀ it, its[i]? = some it → trItY P N ops o = some it) (hal : i ∈ al) (hlt : i < listed.size) (hnl : ¬ isL listed i) (hany : lk s.slots (infD its i) = .c .any) (hL : HidL P w0 env0 bad0 fps base N its al listed s a w)
    (hK : ∀ a' w', HidL P w0 env0 bad0 fps base N its al (listed.setIfInBounds i true) s a' w' → next a' w') : wpOpIn (Fw ro) n P ops Q i next a w := by
  obtain ⟨G, hG⟩ := hL
  obtain ⟨d, zs, hit⟩ := hA.it i hal
  obtain ⟨_, e2, e3⟩ := inf_of hit
  refine Hid.hide hi (htr _ hit) (by rw [← e2]; exact hany) hG (fun x hx hd => ?_) fun a' w' g r => hK a' w' ⟨fun j => if j = i then g else G j, Hid.perm r ?_⟩
  · obtain ⟨j, hj, rfl⟩ := List.mem_map.1 hx
    have hj' := List.mem_filter.1 hj
    have := hH.one i j d (by rw [← e2]; exact hA.d hal) (by rw [← hd]; exact hA.d hj'.1)
    subst this
    exact hnl (isL_getD.1 hj'.2)
  · have hp := filter_add (i := i) (p := fun j => listed.getD j false) (q := fun j => (listed.setIfInBounds i true).getD j false) (fun j hj => getD_set hj) (by
      cases hc : listed.getD i false with
      | false => rfl
      | true => exact absurd (isL_getD.1 hc) hnl) (isL_getD.2 ((isL_set hlt).2 (.inl rfl))) hA.nd hal
    have hp2 := hp.map (alHE its fun j => if j = i then g else G j)
    refine List.Perm.trans (List.Perm.of_eq ?_) hp2
    rw [List.map_cons]
    congr 1
    · simp only [alHE, e2, e3, if_true]
    · refine List.map_congr_left fun j hj => ?_
      have hne : j ≠ i := fun e => by
        subst e
        exact hnl (isL_getD.1 (List.mem_filter.1 hj).2)
      simp only [alHE, if_neg hne]
theorem HidL.back {listed : Array Bool} {s : St} {a : Act} {w : World} (hal : ∀ i ∈ al, isL listed i) (hL : HidL P w0 env0 bad0 fps base N its al listed s a w) : R P w0 env0 bad0 fps base N (backS (inf its al) s) a w := by
  obtain ⟨G, hG⟩ := hL
  rw [List.filter_eq_self.2 fun i hi => isL_getD.2 (hal i hi)] at hG
  have := hG.backs
  rwa [List.map_map] at this
end
section
variable {P : Program} {w0 : World} {env0 : Env} {bad0 : Bs} {fps : List Nat} {base : Nat → Prop} {N : Nat} {ops : Array Oper} {Q : Exit → Act → World → Prop} {K : St → Prop} {ro : Option Nat} {n : Nat} {its : List AIt} {T al : List Nat}
theorem nextOf0_turn {A : List (List Nat)} {fuel i : Nat} {U C : List Nat} {t : ATree} {s : St} (h : nextOf0 its A T al fuel U C = some t) (hw : treeW P K t s) (hi : i ∈ (candOf its.length A T U).filter fun i => !al.contains i) :
    ∃ f it u, fuel = f + 1 ∧ its[i]? = some it ∧ againT its (agOf its A (i :: U) (C ++ newOf its.length A T U C)) (mkTree0 its A T al f (i :: U) (C ++ newOf its.length A T U C)) = some u ∧ ∃ s1, (∀ K' : St → Prop, K' s1 → itW P it s K') ∧ treeW P K u s1 := by
  unfold nextOf0 at h
  cases hl : (candOf its.length A T U).filter fun i => !al.contains i with
  | nil => rw [hl] at hi; simp at hi
  | cons a l =>
    rw [hl] at h
    cases fuel with
    | zero => cases h
    | succ f =>
      obtain ⟨u, h1, h2⟩ := alts_eq h hw i (by rw [← hl]; exact hi)
      simp only [Option.bind_eq_some_iff, Option.map_eq_some_iff] at h1
      obtain ⟨it, e1, u', e2, rfl⟩ := h1
      obtain ⟨s1, h3, h4⟩ := h2
      exact ⟨f, it, u', rfl, e1, e2, s1, h3, h4⟩
theorem nextOf0_leaf {A : List (List Nat)} {fuel : Nat} {U C : List Nat} (h : ((candOf its.length A T U).filter fun i => !al.contains i) = []) :
    nextOf0 its A T al fuel U C = alT its al (againT its (agOf its A (al ++ U) (C ++ newOf its.length A T U C)) (mkTree its A T its.length (al ++ U) (C ++ newOf its.length A T U C))) := by
  unfold nextOf0
  rw [h]

theorem node0 {s0 : St} (hits : allOf (trItY P N ops) ops.toList = some its) (hH : LtH ops its (ancs ops its.length) T) (hA : AlH ops its (ancs ops its.length) T al) (hTlt : ∀ j ∈ T, j < ops.size) (hK : ∀ s' a' w', K s' → R P w0 env0 bad0 fps base N s' a' w' → Q .normal a' w') :
    ∀ (fuel : Nat) (U C : List Nat) (t : ATree) (sc : St), mkTree0 its (ancs ops its.length) T al fuel U C = some t → treeW P K t sc → (∀ i ∈ U, i ∈ T ∧ i ∉ al) → (∀ i ∈ C, i < its.length ∧ i ∉ T ∧ subB (ancs ops its.length) T U i = true) → (∀ i ∈ C, ∀ k ∈ bnd ops i, k ∉ T → k ∈ C) →
    (∀ t, (∀ i, i ∈ U ∨ i ∈ C → dOf its i ≠ some t) → lk sc.slots t = lk s0.slots t) →
    ∀ (fw : Nat) (listed : Array Bool) (s : St) (a : Act) (w : World), listed.size = ops.size → (∀ i, isL listed i → ∀ j ∈ bnd ops i, isL listed j) → (∀ i ∈ T, i ∉ al → (isL listed i ↔ i ∈ U)) → (∀ i, isL listed i → i ∈ U ∨ i ∈ C ∨ i ∈ al) → (List.range ops.size).countP (fun i => !listed.getD i true) ≤ fw →
      (∀ i ∈ C, ¬ isL listed i → Told P its sc i) → s.regs = sc.regs → (∀ t, (∃ i, i ∉ al ∧ isL listed i ∧ dOf its i = some t) → lk s.slots t = lk sc.slots t) → (∀ t, (∀ i, isL listed i ∨ i ∈ al → dOf its i ≠ some t) → lk s.slots t = lk s0.slots t) →
      (∀ i ∈ al, lk s.slots (infD its i) = .c .any) → HidL P w0 env0 bad0 fps base N its al listed s a w → wpAnyIn (Fw ro) n P .any ops Q fw listed a w := by
  have hlen : its.length = ops.size := by have := (allOf_all2 (R := fun _ _ => True) (fun _ _ _ => trivial) hits).len; simpa using this
  have halanc : ∀ i ∈ al, (ancs ops its.length).getD i [] = [] := fun i hi => by
    obtain ⟨d, zs, e⟩ := hA.it i hi
    rw [ancs_getD (List.getElem?_eq_some_iff.1 e).1]
    unfold ancStep
    rw [hA.top i hi]
    rfl
  intro fuel
  induction fuel using Nat.strongRecOn with
  | ind fuel ihf =>
  intro U C t sc hmk hw hU hC hCc hsc
  rw [mkTree0_eq] at hmk
  have hnew : ∀ i, i ∈ newOf its.length (ancs ops its.length) T U C ↔ i < its.length ∧ i ∉ T ∧ i ∉ C ∧ subB (ancs ops its.length) T U i = true := fun i => by
    unfold newOf
    rw [List.mem_filter, List.mem_range]
    simp
  have hcand : ∀ i, i ∈ ((candOf its.length (ancs ops its.length) T U).filter fun i => !al.contains i) ↔ i < its.length ∧ i ∈ T ∧ i ∉ U ∧ i ∉ al ∧ subB (ancs ops its.length) T U i = true := fun i => by
    unfold candOf
    rw [List.mem_filter, List.mem_filter, List.mem_range]
    simp only [Bool.and_eq_true, List.contains_eq_mem, decide_eq_true_eq, Bool.not_eq_true', decide_eq_false_iff_not]
    constructor
    · rintro ⟨⟨a, b, c, d⟩, e⟩
      exact ⟨a, b, c, e, d⟩
    · rintro ⟨a, b, c, e, d⟩
      exact ⟨⟨a, b, c, d⟩, e⟩
  -- what waits for no early row
  have hfree : ∀ i, subB (ancs ops its.length) T U i = true → ∀ j ∈ al, j ∉ (ancs ops its.length).getD i [] := fun i hi j hj hx => (hU j (subB_iff.1 hi j hx (hA.inT j hj))).2 hj
  obtain ⟨t', sc', hnx, hw', hregs', hlk', htold'⟩ := tellT_W hH (fun i hi => ((hnew i).1 hi).2.1) (List.Pairwise.filter _ List.pairwise_lt_range) hmk hw
  have hC' : ∀ i ∈ C ++ newOf its.length (ancs ops its.length) T U C, i < its.length ∧ i ∉ T ∧ subB (ancs ops its.length) T U i = true := fun i hi => by
    rcases List.mem_append.1 hi with h | h
    · exact hC i h
    · obtain ⟨a, b, _, c⟩ := (hnew i).1 h
      exact ⟨a, b, c⟩
  have hsc' : ∀ t, (∀ i, i ∈ U ∨ i ∈ C ++ newOf its.length (ancs ops its.length) T U C → dOf its i ≠ some t) → lk sc'.slots t = lk s0.slots t := fun t ht => by
    rw [hlk' t fun i hi => ht i (.inr (List.mem_append.2 (.inr hi)))]
    exact hsc t fun i hi => ht i (hi.imp (fun h => h) fun h => List.mem_append.2 (.inl h))
  -- new ones write nothing that has come up
  have hold : ∀ (listed : Array Bool), (∀ i, isL listed i → i ∈ U ∨ i ∈ C ∨ i ∈ al) → ∀ t, (∃ i, i ∉ al ∧ isL listed i ∧ dOf its i = some t) → lk sc'.slots t = lk sc.slots t := fun listed hl t ⟨i, h0, h1, h2⟩ => hlk' t fun k hk e => by
    obtain ⟨k1, k2, k3, _⟩ := (hnew k).1 hk
    have := hH.one i k t h2 e
    subst this
    rcases hl i h1 with h | h | h
    · exact k2 (hU i h).1
    · exact k3 h
    · exact h0 h
  have htoldC : ∀ i ∈ C, Told P its sc i → Told P its sc' i := fun i hi ht => ht.slots hregs' fun it d e1 e2 => by
    have hne : ∀ n, (∀ k ∈ newOf its.length (ancs ops its.length) T U C, dOf its k ≠ some n) → lk sc'.slots n = lk sc.slots n := hlk'
    have hdi : dOf its i = some d := by unfold dOf; rw [e1]; exact e2
    refine ⟨hne d fun k hk e => ?_, fun x hx => ev_lk fun n hn => hne n fun k hk e => ?_⟩
    · have := hH.one i k d hdi e
      subst this
      exact ((hnew i).1 hk).2.2.1 hi
    · subst hn
      obtain ⟨k1, k2, k3, k4⟩ := (hnew k).1 hk
      rcases hH.rd i it n k e1 hx e with h | h
      · exact k3 (hCc i hi k h k2)
      · exact k2 h.1
  have hCc' : ∀ i ∈ C ++ newOf its.length (ancs ops its.length) T U C, ∀ k ∈ bnd ops i, k ∉ T → k ∈ C ++ newOf its.length (ancs ops its.length) T U C := fun i hi k hk hkT => by
    by_cases hkC : k ∈ C
    · exact List.mem_append.2 (.inl hkC)
    · obtain ⟨a, b, c⟩ := hC' i hi
      have hki := hH.dn i k hk
      refine List.mem_append.2 (.inr ((hnew k).2 ⟨Nat.lt_trans hki a, hkT, hkC, subB_iff.2 fun j hj hjT => subB_iff.1 c j (anc_trans a hki hk hj) hjT⟩))
  have hleaf : ((candOf its.length (ancs ops its.length) T U).filter fun i => !al.contains i) = [] → alT its al (againT its (agOf its (ancs ops its.length) (al ++ U) (C ++ newOf its.length (ancs ops its.length) T U C)) (mkTree its (ancs ops its.length) T its.length (al ++ U) (C ++ newOf its.length (ancs ops its.length) T U C))) = some t' := fun h => by rw [← nextOf0_leaf h]; exact hnx
  generalize hCe : C ++ newOf its.length (ancs ops its.length) T U C = C' at hC' hsc' hCc' hleaf
  -- all early ones have come up
  have hfin : ∀ (fw : Nat) (listed : Array Bool) (s : St) (a : Act) (w : World), listed.size = ops.size → (∀ i, isL listed i → ∀ j ∈ bnd ops i, isL listed j) → (∀ i ∈ T, i ∉ al → (isL listed i ↔ i ∈ U)) → (∀ i, isL listed i → i ∈ U ∨ i ∈ C' ∨ i ∈ al) → (List.range ops.size).countP (fun i => !listed.getD i true) ≤ fw →
      (∀ i ∈ C', ¬ isL listed i → Told P its sc' i) → s.regs = sc'.regs → (∀ t, (∃ i, i ∉ al ∧ isL listed i ∧ dOf its i = some t) → lk s.slots t = lk sc'.slots t) → (∀ t, (∀ i, isL listed i ∨ i ∈ al → dOf its i ≠ some t) → lk s.slots t = lk s0.slots t) →
      HidL P w0 env0 bad0 fps base N its al listed s a w → (∀ i ∈ al, isL listed i) → (∀ j ∈ T, j ∉ al → (∀ i ∈ al, i ∉ (ancs ops its.length).getD j []) → isL listed j) → wpAnyIn (Fw ro) n P .any ops Q fw listed a w := by
    intro fw listed s a w hsz hcl hTl hLC hcnt htold hregs hs1 hs2 hHid hall hearly
    have hcn : ((candOf its.length (ancs ops its.length) T U).filter fun i => !al.contains i) = [] := List.eq_nil_iff_forall_not_mem.2 fun i hi => by
      obtain ⟨h1, h2, h3, h4, h5⟩ := (hcand i).1 hi
      exact h3 ((hTl i h2 h4).1 (hearly i h2 h4 (hfree i h5)))
    obtain ⟨t1, k1, k2⟩ := alT_W hA.it (hleaf hcn) hw'
    obtain ⟨t2, g1, g2, g3⟩ := againT_W hH k1 k2
    have hinf : ∀ q ∈ inf its al, ∃ i ∈ al, q.1 = infD its i := fun q hq => by
      obtain ⟨i, hi, rfl⟩ := List.mem_map.1 hq
      exact ⟨i, hi, rfl⟩
    have hne : ∀ t, (∀ i ∈ al, dOf its i ≠ some t) → ∀ q ∈ inf its al, q.1 ≠ t := fun t ht q hq e => by
      obtain ⟨i, hi, k⟩ := hinf q hq
      exact ht i hi (by rw [hA.d hi, ← k, e])
    refine node_sound (s0 := s0) hits hH hK its.length (al ++ U) C' t2 (backS (inf its al) sc') g1 g2 (fun i hi => ?_) (fun i hi => ?_) hCc' (fun t ht => ?_) fw listed (backS (inf its al) s) a w hsz hcl (fun i hi => ?_) (fun i hi => ?_) hcnt (fun j hj hjl => ?_) (backS_regs hregs) (fun t ht => ?_) (fun t ht => ?_) (hHid.back hall)
    · exact (List.mem_append.1 hi).elim (hA.inT i) fun h => (hU i h).1
    · obtain ⟨x, y, z⟩ := hC' i hi
      exact ⟨x, y, subB_iff.2 fun j hj hjT => List.mem_append.2 (.inr (subB_iff.1 z j hj hjT))⟩
    · rw [backS_ne (hne t fun i hi => ht i (.inl (List.mem_append.2 (.inl hi))))]
      exact hsc' t fun i hi => ht i (hi.imp (fun h => List.mem_append.2 (.inr h)) fun h => h)
    · by_cases hia : i ∈ al
      · exact ⟨fun _ => List.mem_append.2 (.inl hia), fun _ => hall i hia⟩
      · rw [hTl i hi hia, List.mem_append]
        exact ⟨.inr, fun h => h.resolve_left hia⟩
    · rcases hLC i hi with h | h | h
      · exact .inl (List.mem_append.2 (.inr h))
      · exact .inr h
      · exact .inl (List.mem_append.2 (.inl h))
    · cases hlb : looksB its j with
      | true =>
        refine g3 j ?_
        unfold agOf
        rw [List.mem_filter]
        refine ⟨hj, ?_⟩
        rw [hlb, Bool.true_and, Bool.not_eq_true', List.any_eq_false]
        intro k hk
        have : j ∉ (ancs ops its.length).getD k [] := by
          rcases List.mem_append.1 hk with hk | hk
          · rw [halanc k hk]
            simp
          · intro hx
            have hkl := (hTl k (hU k hk).1 (hU k hk).2).2 hk
            exact hjl (anc_clo hcl k (by
              have := hkl
              unfold isL at this
              have := (Array.getElem?_eq_some_iff.1 this).1
              omega) (hcl k hkl) j hx)
        simpa using this
      | false =>
        refine Told.blind hH (htold j hj hjl) hlb fun itj dj q1 q2 => ?_
        have hdj : dOf its j = some dj := by unfold dOf; rw [q1]; exact q2
        have hja : j ∉ al := fun h => (hC' j hj).2.1 (hA.inT j h)
        refine ⟨backS_ne (hne dj fun i hi e => hja (hH.one j i dj hdj e ▸ hi)), fun x hx => ev_lk fun n hn => backS_ne (hne n fun i hi e => ?_)⟩
        subst hn
        rcases hH.rd j itj n i q1 hx e with h | h
        · exact hfree j (hC' j hj).2.2 i hi (anc_up (hC' j hj).1 h)
        · rw [halanc i hi] at h
          simp at h
    · by_cases hta : ∃ i ∈ al, dOf its i = some t
      · obtain ⟨i, hi, e⟩ := hta
        refine backS_eq hregs ⟨(infD its i, infZ its i), List.mem_map.2 ⟨i, hi, rfl⟩, ?_⟩
        rw [hA.d hi] at e
        exact Option.some.inj e
      · have hn : ∀ i ∈ al, dOf its i ≠ some t := fun i hi e => hta ⟨i, hi, e⟩
        rw [backS_ne (hne t hn), backS_ne (hne t hn)]
        obtain ⟨i, h1, h2⟩ := ht
        exact hs1 t ⟨i, fun h => hn i h h2, h1, h2⟩
    · have hn : ∀ i ∈ al, dOf its i ≠ some t := fun i hi e => ht ⟨i, hall i hi, e⟩
      rw [backS_ne (hne t hn)]
      exact hs2 t fun i hi e => hi.elim (fun h => ht ⟨i, h, e⟩) fun h => hn i h e
  -- the rounds of this knot
  have inner : ∀ (fw : Nat) (listed : Array Bool) (s : St) (a : Act) (w : World), listed.size = ops.size → (∀ i, isL listed i → ∀ j ∈ bnd ops i, isL listed j) → (∀ i ∈ T, i ∉ al → (isL listed i ↔ i ∈ U)) → (∀ i, isL listed i → i ∈ U ∨ i ∈ C' ∨ i ∈ al) → (List.range ops.size).countP (fun i => !listed.getD i true) ≤ fw →
      (∀ i ∈ C', ¬ isL listed i → Told P its sc' i) → s.regs = sc'.regs → (∀ t, (∃ i, i ∉ al ∧ isL listed i ∧ dOf its i = some t) → lk s.slots t = lk sc'.slots t) → (∀ t, (∀ i, isL listed i ∨ i ∈ al → dOf its i ≠ some t) → lk s.slots t = lk s0.slots t) →
      (∀ i ∈ al, lk s.slots (infD its i) = .c .any) → HidL P w0 env0 bad0 fps base N its al listed s a w → wpAnyIn (Fw ro) n P .any ops Q fw listed a w := by
    intro fw
    induction fw with
    | zero =>
      intro listed s a w hsz hcl hTl hLC hcnt htold hregs hs1 hs2 hany hR
      have hall : ∀ i, i < ops.size → isL listed i := fun i hi => by
        have : (List.range ops.size).countP (fun i => !listed.getD i true) = 0 := by omega
        have := (List.countP_eq_zero.1 this) i (List.mem_range.2 hi)
        rw [unl_iff hsz hi] at this
        exact Classical.not_not.1 this
      refine hfin 0 listed s a w hsz hcl hTl hLC hcnt htold hregs hs1 hs2 hR (fun i hi => hall i ?_) fun j hj hja _ => ?_
      · have := dOf_lt (hA.d hi)
        omega
      · exact hall j (hTlt j hj)
    | succ fw ihw =>
      intro listed s a w hsz hcl hTl hLC hcnt htold hregs hs1 hs2 hany hR
      by_cases hL : (∀ i ∈ al, isL listed i) ∧ (∀ j ∈ T, j ∉ al → (∀ i ∈ al, i ∉ (ancs ops its.length).getD j []) → isL listed j)
      · exact hfin _ listed s a w hsz hcl hTl hLC hcnt htold hregs hs1 hs2 hR hL.1 hL.2
      have hready : Region.ready .any ops listed ≠ [] := fun h => by
        have hall := ready_nil hsz hH.dn h
        refine hL ⟨fun i hi => hall i ?_, fun j hj _ _ => hall j (hTlt j hj)⟩
        have := dOf_lt (hA.d hi)
        omega
      refine ⟨fun h0 => absurd h0 hready, fun i hi => ?_⟩
      obtain ⟨h1, h2, h3⟩ := (ready_mem hsz).1 hi
      have him : i < its.length := by omega
      have hit : its[i]? = some (its[i]'him) := List.getElem?_eq_getElem him
      have hti : trItY P N ops ops[i] = some (its[i]'him) := by
        have h := (allOf_all2 (R := fun it o => trItY P N ops o = some it) (fun _ _ h => h) hits).get i him (by simpa using h1)
        simpa using h
      have hcnt' : (List.range ops.size).countP (fun j => !(listed.setIfInBounds i true).getD j true) ≤ fw := by
        have := unl_less hsz h1 h2
        omega
      have hcl' : ∀ j, isL (listed.setIfInBounds i true) j → ∀ q ∈ bnd ops j, isL (listed.setIfInBounds i true) q := fun j hj q hq => by
        rw [isL_set (by omega)]
        rcases (isL_set (by omega)).1 hj with rfl | h
        · exact .inr (h3 q hq)
        · exact .inr (hcl j h q hq)
      by_cases hia : i ∈ al
      · refine HidL.hide hH hA (Array.getElem?_eq_getElem h1) (fun it e => by rw [hit] at e; cases e; exact hti) hia (by omega) h2 (hany i hia) hR fun a' w' r => ?_
        refine ihw (listed.setIfInBounds i true) s a' w' (by simpa using hsz) hcl' (fun j hj hja => ?_) (fun j hj => ?_) hcnt' (fun j hj hjl => htold j hj fun h => hjl ((isL_set (by omega)).2 (.inr h))) hregs (fun t ht => ?_) (fun t ht => ?_) hany r
        · rw [isL_set (by omega), ← hTl j hj hja]
          exact ⟨fun h => h.resolve_left fun e => hja (e ▸ hia), .inr⟩
        · rcases (isL_set (by omega)).1 hj with rfl | h
          · exact .inr (.inr hia)
          · exact hLC j h
        · obtain ⟨j, hja, hj, e⟩ := ht
          refine hs1 t ⟨j, hja, ?_, e⟩
          rcases (isL_set (by omega)).1 hj with rfl | h
          · exact absurd hia hja
          · exact h
        · exact hs2 t fun j hj => ht j (hj.imp (fun h => (isL_set (by omega)).2 (.inr h)) fun h => h)
      have hanc : ∀ j ∈ (ancs ops its.length).getD i [], isL listed j := anc_clo hcl i him h3
      have hnoal : ∀ j ∈ al, j ∉ (ancs ops its.length).getD i [] := fun j hj hx => by
        obtain ⟨q1, q2⟩ := hA.late i him ⟨j, hj, hx⟩
        exact hL ⟨fun k hk => hanc k (q1 k hk), fun k hk hka hn => hanc k (q2 k hk hka hn)⟩
      have hsub : subB (ancs ops its.length) T U i = true := subB_iff.2 fun j hj hjT => (hTl j hjT fun h => hnoal j h hj).1 (hanc j hj)
      have hrd : ∀ x ∈ (its[i]'him).rdsG, s.ev x = sc'.ev x := fun x hx => ev_lk fun n hn => by
        subst hn
        have hrdi := fun k e => hH.rd i _ n k hit hx e
        have hrda : ∀ k ∈ al, dOf its k ≠ some n := fun k hk e => by
          rcases hrdi k e with h | h
          · exact hnoal k hk (anc_up him h)
          · rw [halanc k hk] at h
            simp at h
        by_cases ht : ∃ k, isL listed k ∧ dOf its k = some n
        · obtain ⟨k, h1, h2⟩ := ht
          exact hs1 n ⟨k, fun h => hrda k h h2, h1, h2⟩
        · rw [hs2 n fun k hk e => hk.elim (fun h => ht ⟨k, h, e⟩) fun h => hrda k h e]
          refine (hsc' n fun k hk e => ?_).symm
          rcases hrdi k e with h | h
          · exact ht ⟨k, h3 k h, e⟩
          · rcases hk with hk | hk
            · exact ht ⟨k, (hTl k h.1 fun h => hrda k h e).2 hk, e⟩
            · exact (hC' k hk).2.1 h.1
      obtain ⟨hop1, hop2, hop3⟩ := hH.op i _ hit
      have halne : ∀ k ∈ al, (its[i]'him).d ≠ some (infD its k) := fun k hk e => by
        have := hH.one i k _ (by unfold dOf; rw [hit]; exact e) (hA.d hk)
        exact hia (this ▸ hk)
      by_cases hiT : i ∈ T
      · have hiU : i ∉ U := fun h => h2 ((hTl i hiT hia).2 h)
        obtain ⟨f, it, u, rfl, e1, e2, sn, e3, e4⟩ := nextOf0_turn hnx hw' ((hcand i).2 ⟨him, hiT, hiU, hia, hsub⟩)
        rw [hit] at e1
        cases e1
        rw [hCe] at e2
        obtain ⟨t2, g1, g2, g3⟩ := againT_W hH e2 e4
        have hWs : itW P (its[i]'him) s fun s1 => ∃ v rg, sn = sc'.putr (its[i]'him).d v rg ∧ s1 = s.putr (its[i]'him).d v rg :=
          itW_turn (K := fun s1 => s1 = sn) (Turn.id P sc'.regs) hregs (fun _ _ => rfl) hop1 hop2 hrd (fun v' rg' e => ⟨v', rg', e.symm, rfl⟩) (e3 _ rfl)
        refine HidL.op hH hA (Array.getElem?_eq_getElem h1) hit hti hia hWs hR fun s' a' w' k r => ?_
        obtain ⟨v, rg, rfl, rfl⟩ := k
        have hmono : ∀ j, subB (ancs ops its.length) T U j = true → subB (ancs ops its.length) T (i :: U) j = true := fun j hj => subB_iff.2 fun q hq hqT => List.mem_cons_of_mem _ (subB_iff.1 hj q hq hqT)
        have hdn : ∀ t, dOf its i ≠ some t → (its[i]'him).d ≠ some t := fun t h e => h (by unfold dOf; rw [hit]; exact e)
        refine ihf f (Nat.lt_succ_self f) (i :: U) C' t2 _ g1 g2 (fun j hj => ?_) (fun j hj => ⟨(hC' j hj).1, (hC' j hj).2.1, hmono j (hC' j hj).2.2⟩) hCc' (fun t ht => ?_) fw (listed.setIfInBounds i true) _ a' w' (by simpa using hsz) hcl' (fun j hj hja => ?_) (fun j hj => ?_) hcnt' (fun j hj hjl => ?_) ?_ (fun t ht => ?_) (fun t ht => ?_) (fun k hk => ?_) r
        · rcases List.mem_cons.1 hj with rfl | hj
          · exact ⟨hiT, hia⟩
          · exact hU j hj
        · rw [lk_putr_ne (hdn t (ht i (.inl (by simp))))]
          exact hsc' t fun k hk => ht k (hk.imp (List.mem_cons_of_mem _) fun h => h)
        · rw [isL_set (by omega), List.mem_cons]
          constructor
          · rintro (rfl | h)
            · exact .inl rfl
            · exact .inr ((hTl j hj hja).1 h)
          · rintro (rfl | h)
            · exact .inl rfl
            · exact .inr ((hTl j hj hja).2 h)
        · rcases (isL_set (by omega)).1 hj with rfl | h
          · exact .inl (by simp)
          · exact (hLC j h).imp (List.mem_cons_of_mem _) fun h => h
        · have hjl' : ¬ isL listed j := fun h => hjl ((isL_set (by omega)).2 (.inr h))
          have hnanc : ∀ k, isL listed k ∨ k = i → j ∉ (ancs ops its.length).getD k [] := fun k hk hj' => by
            rcases hk with hk | rfl
            · exact hjl' (anc_clo hcl k (by
                have := hk
                unfold isL at this
                have := (Array.getElem?_eq_some_iff.1 this).1
                omega) (hcl k hk) j hj')
            · exact hjl' (hanc j hj')
          cases hlb : looksB its j with
          | true =>
            refine g3 j ?_
            unfold agOf
            rw [List.mem_filter]
            refine ⟨hj, ?_⟩
            rw [hlb, Bool.true_and, Bool.not_eq_true', List.any_eq_false]
            intro k hk
            have : j ∉ (ancs ops its.length).getD k [] := hnanc k (by
              rcases List.mem_cons.1 hk with rfl | hk
              · exact .inr rfl
              · exact .inl ((hTl k (hU k hk).1 (hU k hk).2).2 hk))
            simpa using this
          | false =>
            refine Told.blind hH (htold j hj hjl') hlb fun itj dj q1 q2 => ?_
            have hdj : dOf its j = some dj := by unfold dOf; rw [q1]; exact q2
            refine ⟨lk_putr_ne fun e => ?_, fun x hx => ev_lk fun n hn => lk_putr_ne fun e => ?_⟩
            · have := hH.one i j dj (by unfold dOf; rw [hit]; exact e) hdj
              subst this
              exact (hC' i hj).2.1 hiT
            · subst hn
              rcases hH.rd j itj n i q1 hx (by unfold dOf; rw [hit]; exact e) with h | h
              · exact hiU (subB_iff.1 (hC' j hj).2.2 i (anc_up (hC' j hj).1 h) hiT)
              · exact hnanc i (.inr rfl) h.2
        · rw [putr_regs', putr_regs']
        · obtain ⟨j, hja, hj, e⟩ := ht
          by_cases hd : (its[i]'him).d = some t
          · rw [lk_putr_eq hd, lk_putr_eq hd]
          · rw [lk_putr_ne hd, lk_putr_ne hd]
            refine hs1 t ⟨j, hja, ?_, e⟩
            rcases (isL_set (by omega)).1 hj with rfl | h
            · unfold dOf at e
              rw [hit] at e
              exact absurd e hd
            · exact h
        · rw [lk_putr_ne fun e => ht i (.inl ((isL_set (by omega)).2 (.inl rfl))) (by unfold dOf; rw [hit]; exact e)]
          exact hs2 t fun j hj => ht j (hj.imp (fun h => (isL_set (by omega)).2 (.inr h)) fun h => h)
        · rw [lk_putr_ne (halne k hk)]
          exact hany k hk
      · have hiC : i ∈ C' := by
          rw [← hCe, List.mem_append]
          by_cases hic : i ∈ C
          · exact .inl hic
          · exact .inr ((hnew i).2 ⟨him, hiT, hic, hsub⟩)
        obtain ⟨it, d, e1, e2, e3⟩ := htold i hiC h2
        rw [hit] at e1
        cases e1
        have hdi : dOf its i = some d := by unfold dOf; rw [hit]; exact e2
        refine HidL.op hH hA (Array.getElem?_eq_getElem h1) hit hti hia (e3 s hregs hrd) hR fun s' a' w' k r => ?_
        subst k
        refine ihw (listed.setIfInBounds i true) ⟨(d, lk sc'.slots d) :: s.slots, s.regs⟩ a' w' (by simpa using hsz) hcl' (fun j hj hja => ?_) (fun j hj => ?_) hcnt' (fun j hj hjl => htold j hj fun h => hjl ((isL_set (by omega)).2 (.inr h))) hregs (fun t ht => ?_) (fun t ht => ?_) (fun k hk => ?_) r
        · rw [isL_set (by omega), ← hTl j hj hja]
          exact ⟨fun h => h.resolve_left fun e => hiT (e ▸ hj), .inr⟩
        · rcases (isL_set (by omega)).1 hj with rfl | h
          · exact .inr (.inl hiC)
          · exact hLC j h
        · by_cases e : d = t
          · subst e; simp [lk]
          · obtain ⟨j, hja, hj, e'⟩ := ht
            simp only [lk, e, if_false]
            refine hs1 t ⟨j, hja, ?_, e'⟩
            rcases (isL_set (by omega)).1 hj with rfl | h
            · rw [hdi] at e'
              exact absurd (Option.some.inj e') e
            · exact h
        · have e : d ≠ t := fun e => ht i (.inl ((isL_set (by omega)).2 (.inl rfl))) (by rw [hdi, e])
          simp only [lk, e, if_false]
          exact hs2 t fun j hj => ht j (hj.imp (fun h => (isL_set (by omega)).2 (.inr h)) fun h => h)
        · have e : d ≠ infD its k := fun e => halne k hk (by rw [e2, e])
          simp only [lk, e, if_false]
          exact hany k hk
  intro fw listed s a w hsz hcl hTl hLC hcnt htold hregs hs1 hs2 hany hR
  refine inner fw listed s a w hsz hcl hTl (fun i hi => (hLC i hi).imp (fun h => h) fun h => h.imp (fun h => by rw [← hCe]; exact List.mem_append.2 (.inl h)) fun h => h) hcnt (fun i hi hl => ?_) (hregs.trans hregs'.symm) (fun t ht => ?_) hs2 hany hR
  · rw [← hCe] at hi
    rcases List.mem_append.1 hi with h | h
    · exact htoldC i h (htold i h hl)
    · exact htold' i h
  · rw [hs1 t ht, hold listed hLC t ht]

theorem alT_ok : ∀ {l : List Nat} {ot : Option ATree} {t : ATree}, (∀ u, ot = some u → TreeOk u) → alT its l ot = some t → TreeOk t
  | [], ot, t, h, e => h t e
  | i :: r, ot, t, h, e => by
    simp only [alT, Option.bind_eq_some_iff, Option.map_eq_some_iff] at e
    obtain ⟨it, e1, u, e2, rfl⟩ := e
    show TreeOk u
    exact alT_ok h e2
theorem mkTree0_ok {A : List (List Nat)} (hT : ∀ i, i ∉ T → ∀ it, its[i]? = some it → TellOk it) : ∀ (fuel : Nat) (U C : List Nat) (t : ATree), (∀ i ∈ C, i ∉ T) → mkTree0 its A T al fuel U C = some t → TreeOk t := by
  intro fuel
  induction fuel using Nat.strongRecOn with
  | ind fuel ih =>
    intro U C t hC h
    rw [mkTree0_eq] at h
    have hn : ∀ i ∈ newOf its.length A T U C, i ∉ T := fun i hi => by unfold newOf at hi; simp at hi; exact hi.2.1
    have hC' : ∀ i ∈ C ++ newOf its.length A T U C, i ∉ T := fun i hi => (List.mem_append.1 hi).elim (hC i) (hn i)
    refine tellT_ok (fun i hi => hT i (hn i hi)) (fun u hu => ?_) h
    unfold nextOf0 at hu
    split at hu
    · refine alT_ok (fun u hu => ?_) hu
      exact againT_ok (fun j hj => hT j (hC' j (List.mem_filter.1 hj).1)) (fun q hq => mkTree_ok hT _ _ _ _ hC' hq) hu
    · cases hu
    · rename_i f h0 h1
      refine alts_ok (fun i t ht => ?_) hu
      simp only [Option.bind_eq_some_iff, Option.map_eq_some_iff] at ht
      obtain ⟨it, e1, u', e2, rfl⟩ := ht
      show TreeOk u'
      exact againT_ok (fun j hj => hT j (hC' j (List.mem_filter.1 hj).1)) (fun q hq => ih _ (Nat.lt_succ_self _) _ _ _ hC' hq) e2
theorem turns_tell {A0 : List (List Nat)} (hH : LtH ops its A0 (turnsOf ops its)) : ∀ i, i ∉ turnsOf ops its → ∀ it, its[i]? = some it → TellOk it := fun i hi it hit => by
  obtain ⟨h1, h2, h3⟩ := hH.op i it hit
  have hlt := (List.getElem?_eq_some_iff.1 hit).1
  have hb : turnB ops its i = false := by
    cases hb : turnB ops its i with
    | false => rfl
    | true => exact absurd (List.mem_filter.2 ⟨List.mem_range.2 hlt, hb⟩) hi
  unfold turnB at hb
  rw [hit] at hb
  simp only [Bool.or_eq_false_iff] at hb
  refine ⟨?_, h2, h3 hi, hb.2.1⟩
  cases hl : it.op.loc with
  | some _ => rfl
  | none => rw [hl] at hb; simp at hb
theorem tree2Of_ok {t : ATree} (h : tree2Of P N ops = some t) : TreeOk t := by
  simp only [tree2Of, Option.bind_eq_some_iff] at h
  obtain ⟨its, hits, u, hu, ht⟩ := h
  have hH := ltOk_H (guardO_eq.1 hu)
  split at ht
  · exact mkTree0_ok (turns_tell hH) _ _ _ _ (fun i hi => by simp at hi) ht
  · exact mkTree_ok (turns_tell hH) _ _ _ _ (fun i hi => by simp at hi) ht
def anyS : List Nat → List (Nat × AV) → List (Nat × AV)
  | [], l => l
  | d :: r, l => (d, .c .any) :: anyS r l
theorem anyS_ne {t : Nat} : ∀ {ds : List Nat} {l : List (Nat × AV)}, t ∉ ds → lk (anyS ds l) t = lk l t
  | [], _, _ => rfl
  | d :: r, l, h => by
    simp only [List.mem_cons, not_or] at h
    have h1 : d ≠ t := fun e => h.1 e.symm
    rw [anyS, show lk ((d, AV.c .any) :: anyS r l) t = lk (anyS r l) t by simp [lk, h1], anyS_ne h.2]
theorem anyS_eq {t : Nat} : ∀ {ds : List Nat} {l : List (Nat × AV)}, t ∈ ds → lk (anyS ds l) t = .c .any
  | d :: r, l, h => by
    by_cases e : d = t
    · simp [anyS, lk, e]
    · have := (List.mem_cons.1 h).resolve_left fun h => e h.symm
      rw [anyS, show lk ((d, AV.c .any) :: anyS r l) t = lk (anyS r l) t by simp [lk, e], anyS_eq this]
theorem R.anyS {s : St} {a : Act} {w : World} (ds : List Nat) (h : R P w0 env0 bad0 fps base N s a w) : R P w0 env0 bad0 fps base N ⟨anyS ds s.slots, s.regs⟩ a w := by
  obtain ⟨⟨env, hrs, hsl, hev⟩, hr, hr2⟩ := h
  refine ⟨⟨env, hrs, fun n => ?_, hev⟩, hr, hr2⟩
  by_cases hn : n ∈ ds
  · rw [anyS_eq hn]; exact .c trivial
  · rw [anyS_ne hn]; exact hsl n
theorem any_sound2 {id : Nat} {t : ATree} {s : St} {a : Act} {w : World} (hm : P.follows .mixedOrders = true) (ht : tree2Of P N ops = some t) (h : treeW P K t s)
    (hR : R P w0 env0 bad0 fps base N s a w) (hK : ∀ s' a' w', K s' → R P w0 env0 bad0 fps base N s' a' w' → Q .normal a' w') : (Code.region id ops true).wpIn (Fw ro) n P Q a w := by
  have ht' := ht
  simp only [tree2Of, Option.bind_eq_some_iff] at ht
  obtain ⟨its, hits, u, hu, ht⟩ := ht
  have hH := ltOk_H (guardO_eq.1 hu)
  have hlen : its.length = ops.size := by have := (allOf_all2 (R := fun _ _ => True) (fun _ _ _ => trivial) hits).len; simpa using this
  have hg : ∀ i, ¬ isL (Array.replicate ops.size false) i := fun i hi => by
    unfold isL at hi
    rw [Array.getElem?_replicate] at hi
    split at hi <;> simp at hi
  split at ht
  rotate_left
  · exact any_sound hm (by simp only [treeOf, hits, hu, Option.bind_some]; exact ht) h hR hK
  rename_i hc
  simp only [Bool.and_eq_true] at hc
  have hA := AlH.of (ops := ops) (T := turnsOf ops its) (List.nodup_range.sublist List.filter_sublist) hc.2
  refine wpIn_region_any hm ?_
  · refine node0 (s0 := s) hits hH hA (fun j hj => ?_) hK _ [] [] t s ht h (fun i hi => by simp at hi) (fun i hi => by simp at hi) (fun i hi => by simp at hi) (fun _ _ => rfl) _ _ ⟨anyS ((alsOf ops its (turnsOf ops its)).map (infD its)) s.slots, s.regs⟩ a _ (by simp) (fun i hi => absurd hi (hg i)) (fun i _ _ => ⟨fun h => absurd h (hg i), fun h => by simp at h⟩) (fun i hi => absurd hi (hg i)) (by
        exact Nat.le_trans List.countP_le_length (by simp)) (fun i hi => by simp at hi) rfl (fun t ⟨i, _, hi, _⟩ => absurd hi (hg i)) (fun t ht => ?_) (fun i hi => anyS_eq (List.mem_map.2 ⟨i, hi, rfl⟩)) ⟨fun _ => 0, ?_⟩
    · have := List.mem_range.1 (List.mem_filter.1 hj).1
      omega
    · refine anyS_ne fun hx => ?_
      obtain ⟨i, hi, e⟩ := List.mem_map.1 hx
      exact ht i (.inr hi) (by rw [hA.d hi, e])
    · have e : ((alsOf ops its (turnsOf ops its)).filter fun i => (Array.replicate ops.size false).getD i false) = [] := List.filter_eq_nil_iff.2 fun i _ h => hg i (isL_getD.1 h)
      rw [e]
      exact Hid.of ((hR.anyS _).draw)
end
end Go.Sim
