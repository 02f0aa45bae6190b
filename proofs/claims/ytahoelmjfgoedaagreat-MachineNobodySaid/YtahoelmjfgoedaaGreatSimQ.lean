/- Rows that nobody writes any more become values. Of no program. -/
import Derived.Test.YtahoelmjfgoedaaGreatSimP
namespace Go.Sim
open Go.RowKit Go.Proofs.YtahoelmjfgoedaaGreat.B
variable {P : Program}
set_option linter.unusedVariables false
set_option linter.unusedSectionVars false

/-- A cell when the row id is a value from now on. -/
def frzAC (id sz : Nat) (ls : List (List PV)) (x y : AC) : Prop :=
  y = x ∨ ∃ off len cap, x = .own id off sz len cap ∧ off + len ≤ ls.length ∧ y = .p (.sl sz ((ls.drop off).take len))
def frzAV (id sz : Nat) (ls : List (List PV)) : AV → AV → Prop
  | .c x, .c y => frzAC id sz ls x y
  | .agg l, .agg m => All2 (frzAC id sz ls) l m
  | x, y => y = x
def FrzSlots (id sz : Nat) (ls : List (List PV)) (s : St) : List (Nat × AV) → Prop
  | [] => True
  | (k, v) :: r => frzAV id sz ls (lk s.slots k) v ∧ FrzSlots id sz ls s r
def frzReg (id sz : Nat) (ls : List (List PV)) : Reg → Reg → Prop
  | .ac l, .ac m => All2 (frzAC id sz ls) l m
  | .es n l, .es k m => n = k ∧ All2 (All2 (frzAC id sz ls)) l m
  | r, r' => r' = r
def FrzRegs (id sz : Nat) (ls : List (List PV)) : Nat → List Reg → List Reg → Prop
  | _, [], [] => True
  | i, r :: l, r' :: m => (if i = id then r' = .dead else frzReg id sz ls r r') ∧ FrzRegs id sz ls (i + 1) l m
  | _, _, _ => False

theorem frzAC_all {id sz : Nat} {ls : List (List PV)} : ∀ {l m : List AC}, All2 (frzAC id sz ls) l m → l.all AC.known = true → m.all AC.known = true
  | [], [], _, _ => rfl
  | x :: l, y :: m, h, hk => by
    rw [List.all_cons, Bool.and_eq_true] at hk ⊢
    refine ⟨?_, frzAC_all h.2 hk.2⟩
    rcases h.1 with e | ⟨_, _, _, _, _, e⟩
    · rw [e]; exact hk.1
    · rw [e]; rfl
  | [], _ :: _, h, _ => h.elim
  | _ :: _, [], h, _ => h.elim
theorem All2.comp {α β γ : Type} {R : α → γ → Prop} {T : α → β → Prop} {S : β → γ → Prop} (hs : ∀ a b c, T a b → R a c → S b c) : ∀ {l : List α} {m : List β} {n : List γ}, All2 T l m → All2 R l n → All2 S m n
  | [], [], [], _, _ => trivial
  | _ :: _, _ :: _, _ :: _, h, k => ⟨hs _ _ _ h.1 k.1, All2.comp hs h.2 k.2⟩
  | [], _ :: _, _, h, _ => h.elim
  | _ :: _, [], _, h, _ => h.elim
  | [], [], _ :: _, _, k => k.elim
  | _ :: _, _ :: _, [], _, k => k.elim
theorem FrzRegs.get {id sz : Nat} {ls : List (List PV)} : ∀ {k : Nat} {l m : List Reg}, FrzRegs id sz ls k l m → l.length = m.length ∧ ∀ i r', m[i]? = some r' → (k + i = id ∧ r' = .dead) ∨ (k + i ≠ id ∧ ∃ r, l[i]? = some r ∧ frzReg id sz ls r r')
  | _, [], [], _ => ⟨rfl, fun i r' h => by simp at h⟩
  | k, r :: l, r' :: m, h => by
    obtain ⟨h1, h2⟩ := FrzRegs.get h.2
    refine ⟨by simp [h1], fun i q hq => ?_⟩
    cases i with
    | zero =>
      cases hq
      have h3 := h.1
      by_cases e : k = id
      · rw [if_pos e] at h3; exact .inl ⟨by simpa using e, h3⟩
      · rw [if_neg e] at h3; exact .inr ⟨by simpa using e, r, rfl, h3⟩
    | succ i =>
      have := h2 i q (by simpa using hq)
      rw [show k + 1 + i = k + (i + 1) by omega] at this
      simpa using this
  | _, [], _ :: _, h => h.elim
  | _, _ :: _, [], h => h.elim
theorem frzReg_live {id sz : Nat} {ls : List (List PV)} {r r' : Reg} (h : frzReg id sz ls r r') : r'.live = r.live := by
  cases r <;> cases r' <;> simp_all [frzReg, Reg.live]
theorem FrzSlots.get {id sz : Nat} {ls : List (List PV)} {s : St} : ∀ {l : List (Nat × AV)}, FrzSlots id sz ls s l → ∀ n, lk l n = .c .any ∨ frzAV id sz ls (lk s.slots n) (lk l n)
  | [], _, _ => .inl rfl
  | (k, v) :: r, h, n => by
    rw [show lk ((k, v) :: r) n = if k = n then v else lk r n from rfl]
    by_cases e : k = n
    · subst e
      rw [if_pos rfl]
      exact .inr h.1
    · rw [if_neg e]
      exact FrzSlots.get h.2 n

theorem Weak.freeze {n0 : Nat} {s s' : St} (id sz : Nat) (ls : List (List PV)) (hr : s.regs[id]? = some (.pc sz ls)) (hm : ls.length ≤ 140737488351232) (hslots : FrzSlots id sz ls s s'.slots) (hregs : FrzRegs id sz ls 0 s.regs s'.regs) : Weak P n0 s s' := by
  intro N w0 env0 bad0 fps base a w hn hR
  obtain ⟨⟨env, hrs, hsl, hev⟩, hsz, hdf⟩ := hR
  obtain ⟨hl, hget⟩ := hregs.get
  simp only [Nat.zero_add] at hget
  have hlive : ∀ (i : Nat) (r' : Reg), s'.regs[i]? = some r' → r'.live = true → i ≠ id ∧ ∃ r, s.regs[i]? = some r ∧ frzReg id sz ls r r' ∧ r.live = true := by
    intro i r' hi hl'
    rcases hget i r' hi with ⟨_, rfl⟩ | ⟨h1, r, h2, h3⟩
    · cases hl'
    · exact ⟨h1, r, h2, h3, by rw [← frzReg_live h3]; exact hl'⟩
  have hbad : ∀ b, badOf base env s'.regs b → badOf base env s.regs b := by
    intro b hb
    rcases hb with hb | ⟨i, r', c, h1, h2, h3⟩
    · exact .inl hb
    · obtain ⟨_, r, k1, _, k2⟩ := hlive i r' h1 h2
      exact .inr ⟨i, r, c, k1, k2, h3⟩
  have hsame : Same (badOf base env s.regs) w w := ⟨Nat.le_refl _, fun _ _ _ => rfl⟩
  have hP : ∀ {x : PV} {v : Value}, PRel w (badOf base env s.regs) x v → PRel w (badOf base env s'.regs) x v := fun h => PRel.step hsame (fun b _ => hbad b) h
  have hC0 : ∀ {x : AC} {v : Value}, CRel w env (badOf base env s.regs) x v → CRel w env (badOf base env s'.regs) x v := fun h => CRel.step hsame (fun b _ => hbad b) (Env.le_refl _) h
  obtain ⟨hz, hs, hrow⟩ := hrs.reg id _ hr
  have hC : ∀ {x y : AC} {v : Value}, frzAC id sz ls x y → CRel w env (badOf base env s.regs) x v → CRel w env (badOf base env s'.regs) y v := by
    intro x y v hf h
    rcases hf with rfl | ⟨off, len, cap, rfl, hle, rfl⟩
    · exact hC0 h
    · obtain ⟨hidn, h⟩ := h
      have hlen : ((ls.drop off).take len).length = len := by simp; omega
      rcases h with ⟨h1, rfl, rfl, rfl⟩ | ⟨g, c, k, h1, rfl, hk, _⟩
      · exact PRel.sl (fun _ _ => undef) hz (by simp) (Nat.le_refl _) (by omega) (fun i h => by simp at h) (fun h => by omega) (fun ad e => by cases e) (fun i h => by simp at h)
      · rcases hrow with ⟨h2, _⟩ | ⟨g', c', cur, t, h2, hg, q1, q2, q3, q4⟩
        · rw [h1] at h2; cases h2
        rw [h1] at h2
        cases h2
        have hnb : ¬ badOf base env s'.regs g := by
          rintro (hb | ⟨i, r', c', k1, k2, k3⟩)
          · have hown := (hrs.own id _ g c hr rfl h1).1
            have hbl := hrs.base_lt g hb
            rcases hown with h | h
            · exact hbl.2 h
            · omega
          · obtain ⟨hne, r, p1, _, p2⟩ := hlive i r' k1 k2
            exact hne (hrs.inj i id r _ g c' c p1 hr p2 rfl k3 h1)
        have hcells : ∀ i (hi : i < ((ls.drop off).take len).length), ∀ j (hj : j < ((ls.drop off).take len)[i].length), ∃ u, cur[(off + i) * sz + j]? = some u ∧ PRel w (badOf base env s'.regs) ((ls.drop off).take len)[i][j] u := by
          intro i hi j hj
          have e : ((ls.drop off).take len)[i] = ls[off + i]'(by simp at hi; omega) := by rw [List.getElem_take, List.getElem_drop]
          simp only [e] at hj ⊢
          obtain ⟨u, hu, hp⟩ := q4 (off + i) (by simp at hi; omega) j hj
          exact ⟨u, hu, hP hp⟩
        refine PRel.sl (fun i j => cur.getD ((off + i) * sz + j) undef) hz hlen.symm hk (by omega) (fun i hi => by rw [List.getElem_take, List.getElem_drop]; exact hs _ _) (fun _ => ⟨_, rfl, hnb⟩) (fun ad e i hi j hj => ?_) (fun i hi j hj => ?_)
        · cases e
          obtain ⟨u, hu, _⟩ := hcells i hi j hj
          rw [Addr.add_lit, cell_of_row w g _ cur t (0, 0) hg, Array.getD_eq_getD_getElem?, show off * sz + (i * sz + j) = (off + i) * sz + j by rw [Nat.add_mul]; omega, hu]
          rfl
        · obtain ⟨u, hu, hp⟩ := hcells i hi j hj
          rw [Array.getD_eq_getD_getElem?, hu]
          exact hp
  have hV : ∀ {x y : AV} {v : Value}, frzAV id sz ls x y → VRel w env (badOf base env s.regs) x v → VRel w env (badOf base env s'.regs) y v := by
    intro x y v hf h
    cases x with
    | c x => cases y with
      | c y => exact .c (hC hf (c_of h))
      | agg m => cases hf
      | tup m => cases hf
    | agg l => cases y with
      | c y => cases hf
      | agg m =>
        cases h with
        | agg h hk => exact .agg (All2.comp (R := CRel w env (badOf base env s.regs)) (T := frzAC id sz ls) (S := CRel w env (badOf base env s'.regs)) (fun _ _ _ t r => hC t r) hf h) (frzAC_all hf hk)
      | tup m => cases hf
    | tup l =>
      have : y = .tup l := by cases y <;> exact hf
      subst this
      exact VRel.step hsame (fun b _ => hbad b) (Env.le_refl _) h
  refine ⟨⟨env, ⟨hrs.keep, hrs.base_lt, hrs.len.trans hl, fun i r' hi => ?_, fun i r' g c hi hl' he => ?_, fun i j r1 r2 g c1 c2 h1 h2 l1 l2 e1 e2 => ?_⟩, fun n => ?_, ⟨hev.same, fun b hb k => hev.sub b hb (hbad b k), hev.le⟩⟩, hsz, hdf⟩
  · rcases hget i r' hi with ⟨_, rfl⟩ | ⟨hne, r, h1, h2⟩
    · trivial
    · have hrr := hrs.reg i r h1
      cases r with
      | ac l => cases r' with
        | ac m =>
          obtain ⟨g, c, cur, t, e, hg, hll, h⟩ := hrr
          have hlm : l.length = m.length := All2.len h2
          refine ⟨g, c, cur, t, e, hg, by omega, fun j hj => ?_⟩
          obtain ⟨u, hu, hc, hk⟩ := h j (by omega)
          have hf := All2.get h2 j (by omega) hj
          refine ⟨u, hu, hC hf hc, ?_⟩
          rcases hf with e | ⟨_, _, _, _, _, e⟩
          · rw [e]; exact hk
          · rw [e]; rfl
        | _ => cases h2
      | es sz2 l => cases r' with
        | es sz3 m =>
          obtain ⟨rfl, h2⟩ := h2
          obtain ⟨z1, z2, z3⟩ := hrr
          have hlm : l.length = m.length := All2.len h2
          refine ⟨z1, fun i hi => ?_, ?_⟩
          · rw [← All2.len (All2.get h2 i (by omega) hi)]
            exact z2 i (by omega)
          · rcases z3 with ⟨e, hl0⟩ | ⟨g, c, cur, t, e, hg, p1, p2, p3, p4⟩
            · exact .inl ⟨e, List.eq_nil_of_length_eq_zero (by rw [← hlm, hl0]; rfl)⟩
            · refine .inr ⟨g, c, cur, t, e, hg, p1, p2, by omega, fun i hi j hj => ?_⟩
              have hrow := All2.get h2 i (by omega) hi
              have hrl := All2.len hrow
              obtain ⟨u, hu, hc, hk'⟩ := p4 i (by omega) j (by omega)
              have hf := All2.get hrow j (by omega) hj
              exact ⟨u, hu, hC hf hc, (by rcases hf with e | ⟨_, _, _, _, _, e⟩ <;> rw [e] <;> first | exact hk' | rfl)⟩
        | _ => cases h2
      | ob o =>
        have : r' = .ob o := by cases r' <;> exact h2
        subst this
        obtain ⟨g, c, e, h⟩ := hrr
        exact ⟨g, c, e, ObRel.carry h rfl fun _ _ r => hP r⟩
      | lp f q sl st pe =>
        have : r' = .lp f q sl st pe := by cases r' <;> exact h2
        subst this
        obtain ⟨g, c, L, N', fn, tmps, D, e, hL, hg, hs, h⟩ := hrr
        exact ⟨g, c, L, N', fn, tmps, D, e, hL, hg, hs, fun n => VRel.step hsame (fun b _ => hbad b) (Env.le_refl _) (h n)⟩
      | pc sz' ls' =>
        have : r' = .pc sz' ls' := by cases r' <;> exact h2
        subst this
        obtain ⟨z1, z2, z3⟩ := hrr
        refine ⟨z1, z2, ?_⟩
        rcases z3 with h | ⟨g, c, cur, t, e, hg, p1, p2, p3, p4⟩
        · exact .inl h
        · exact .inr ⟨g, c, cur, t, e, hg, p1, p2, p3, fun i hi j hj => let ⟨u, hu, hp⟩ := p4 i hi j hj; ⟨u, hu, hP hp⟩⟩
      | dead =>
        have : r' = .dead := by cases r' <;> exact h2
        subst this
        trivial
  · obtain ⟨_, r, p1, _, p2⟩ := hlive i r' hi hl'
    exact hrs.own i r g c p1 p2 he
  · obtain ⟨_, r, p1, _, p2⟩ := hlive i r1 h1 l1
    obtain ⟨_, q, q1, _, q2⟩ := hlive j r2 h2 l2
    exact hrs.inj i j r q g c1 c2 p1 q1 p2 q2 e1 e2
  · rcases hslots.get n with h | h
    · rw [h]; exact .c trivial
    · exact hV h (hsl n)
end Go.Sim
