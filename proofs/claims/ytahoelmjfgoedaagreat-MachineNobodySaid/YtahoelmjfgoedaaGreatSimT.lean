/- Pictures that tell less, in general: cells told otherwise, rows given up. Of no program. -/
import Derived.Test.YtahoelmjfgoedaaGreatSimR
namespace Go.Sim
open Go.RowKit Go.Proofs.YtahoelmjfgoedaaGreat.B
variable {P : Program}
set_option linter.unusedVariables false
set_option linter.unusedSectionVars false

def tAV (T : AC → AC → Prop) : AV → AV → Prop
  | .c x, .c y => T x y
  | .agg l, .agg m => All2 T l m
  | x, y => y = x
def TSlots (T : AC → AC → Prop) (s : St) : List (Nat × AV) → Prop
  | [] => True
  | (k, v) :: r => tAV T (lk s.slots k) v ∧ TSlots T s r
def tReg (T : AC → AC → Prop) : Reg → Reg → Prop
  | .ac l, .ac m => All2 T l m
  | .es n l, .es k m => n = k ∧ All2 (All2 T) l m
  | r, r' => r' = r
def TRegs (kill : List Nat) (T : AC → AC → Prop) : Nat → List Reg → List Reg → Prop
  | _, [], [] => True
  | i, r :: l, r' :: m => (if i ∈ kill then r' = .dead else tReg T r r') ∧ TRegs kill T (i + 1) l m
  | _, _, _ => False

section
variable {T : AC → AC → Prop} {kill : List Nat}
theorem t_all (hk : ∀ x y, T x y → x.known = true → y.known = true) : ∀ {l m : List AC}, All2 T l m → l.all AC.known = true → m.all AC.known = true
  | [], [], _, _ => rfl
  | x :: l, y :: m, h, h' => by
    rw [List.all_cons, Bool.and_eq_true] at h' ⊢
    exact ⟨hk _ _ h.1 h'.1, t_all hk h.2 h'.2⟩
  | [], _ :: _, h, _ => h.elim
  | _ :: _, [], h, _ => h.elim
theorem TRegs.get : ∀ {k : Nat} {l m : List Reg}, TRegs kill T k l m → l.length = m.length ∧ ∀ i r', m[i]? = some r' → (k + i ∈ kill ∧ r' = .dead) ∨ (k + i ∉ kill ∧ ∃ r, l[i]? = some r ∧ tReg T r r')
  | _, [], [], _ => ⟨rfl, fun i r' h => by simp at h⟩
  | k, r :: l, r' :: m, h => by
    obtain ⟨h1, h2⟩ := TRegs.get h.2
    refine ⟨by simp [h1], fun i q hq => ?_⟩
    cases i with
    | zero =>
      cases hq
      have h3 := h.1
      by_cases e : k ∈ kill
      · rw [if_pos e] at h3; exact .inl ⟨by simpa using e, h3⟩
      · rw [if_neg e] at h3; exact .inr ⟨by simpa using e, r, rfl, h3⟩
    | succ i =>
      have := h2 i q (by simpa using hq)
      rw [show k + 1 + i = k + (i + 1) by omega] at this
      simpa using this
  | _, [], _ :: _, h => h.elim
  | _, _ :: _, [], h => h.elim
theorem tReg_live {r r' : Reg} (h : tReg T r r') : r'.live = r.live := by
  cases r <;> cases r' <;> simp_all [tReg, Reg.live]
theorem TSlots.get {s : St} : ∀ {l : List (Nat × AV)}, TSlots T s l → ∀ n, lk l n = .c .any ∨ tAV T (lk s.slots n) (lk l n)
  | [], _, _ => .inl rfl
  | (k, v) :: r, h, n => by
    rw [show lk ((k, v) :: r) n = if k = n then v else lk r n from rfl]
    by_cases e : k = n
    · subst e
      rw [if_pos rfl]
      exact .inr h.1
    · rw [if_neg e]
      exact TSlots.get h.2 n

theorem Weak.gen {n0 : Nat} {s s' : St} (kill : List Nat) (T : AC → AC → Prop) (hk : ∀ x y, T x y → x.known = true → y.known = true)
    (hT : ∀ {w0 w : World} {fps : List Nat} {base : Nat → Prop} {env : Env} {bad' : Nat → Prop}, RS P w0 w fps base env s.regs → (∀ b, bad' b → badOf base env s.regs b) → (∀ id r g c, id ∈ kill → s.regs[id]? = some r → r.live = true → env.f id = some (g, c) → ¬ bad' g) →
      ∀ {x y : AC} {v : Value}, T x y → CRel w env (badOf base env s.regs) x v → CRel w env bad' y v)
    (hslots : TSlots T s s'.slots) (hregs : TRegs kill T 0 s.regs s'.regs) : Weak P n0 s s' := by
  intro N w0 env0 bad0 fps base a w hn hR
  obtain ⟨⟨env, hrs, hsl, hev⟩, hsz, hdf⟩ := hR
  obtain ⟨hl, hget⟩ := hregs.get
  simp only [Nat.zero_add] at hget
  have hlive : ∀ (i : Nat) (r' : Reg), s'.regs[i]? = some r' → r'.live = true → i ∉ kill ∧ ∃ r, s.regs[i]? = some r ∧ tReg T r r' ∧ r.live = true := by
    intro i r' hi hl'
    rcases hget i r' hi with ⟨_, rfl⟩ | ⟨h1, r, h2, h3⟩
    · cases hl'
    · exact ⟨h1, r, h2, h3, by rw [← tReg_live h3]; exact hl'⟩
  have hbad : ∀ b, badOf base env s'.regs b → badOf base env s.regs b := by
    intro b hb
    rcases hb with hb | ⟨i, r', c, h1, h2, h3⟩
    · exact .inl hb
    · obtain ⟨_, r, k1, _, k2⟩ := hlive i r' h1 h2
      exact .inr ⟨i, r, c, k1, k2, h3⟩
  have hsame : Same (badOf base env s.regs) w w := ⟨Nat.le_refl _, fun _ _ _ => rfl⟩
  have hnb : ∀ id r g c, id ∈ kill → s.regs[id]? = some r → r.live = true → env.f id = some (g, c) → ¬ badOf base env s'.regs g := by
    rintro id r g c hid hr hlr he (hb | ⟨i, r', c', k1, k2, k3⟩)
    · have hown := (hrs.own id r g c hr hlr he).1
      have hbl := hrs.base_lt g hb
      rcases hown with h | h
      · exact hbl.2 h
      · omega
    · obtain ⟨hne, r2, p1, _, p2⟩ := hlive i r' k1 k2
      have := hrs.inj i id r2 r g c' c p1 hr p2 hlr k3 he
      subst this
      exact hne hid
  have hC : ∀ {x y : AC} {v : Value}, T x y → CRel w env (badOf base env s.regs) x v → CRel w env (badOf base env s'.regs) y v := fun h => hT hrs hbad hnb h
  have hV : ∀ {x y : AV} {v : Value}, tAV T x y → VRel w env (badOf base env s.regs) x v → VRel w env (badOf base env s'.regs) y v := by
    intro x y v hf h
    cases x with
    | c x => cases y with
      | c y => exact .c (hC hf (c_of h))
      | agg m => cases hf
      | tup m => cases hf
    | agg l => cases y with
      | c y => cases hf
      | agg m =>
        cases h with
        | agg h hk' => exact .agg (All2.comp (R := CRel w env (badOf base env s.regs)) (T := T) (S := CRel w env (badOf base env s'.regs)) (fun _ _ _ t r => hC t r) hf h) (t_all hk hf hk')
      | tup m => cases hf
    | tup l =>
      have : y = .tup l := by cases y <;> exact hf
      subst this
      exact VRel.step hsame (fun b _ => hbad b) (Env.le_refl _) h
  refine ⟨⟨env, ⟨hrs.keep, hrs.base_lt, hrs.len.trans hl, fun i r' hi => ?_, fun i r' g c hi hl' he => ?_, fun i j r1 r2 g c1 c2 h1 h2 l1 l2 e1 e2 => ?_⟩, fun n => ?_, ⟨hev.same, fun b hb k => hev.sub b hb (hbad b k), hev.le⟩⟩, hsz, hdf⟩
  · rcases hget i r' hi with ⟨_, rfl⟩ | ⟨hne, r, h1, h2⟩
    · trivial
    · have hrr := hrs.reg i r h1
      cases r with
      | ac l => cases r' with
        | ac m =>
          obtain ⟨g, c, cur, t, e, hg, hll, h⟩ := hrr
          have hlm : l.length = m.length := All2.len h2
          refine ⟨g, c, cur, t, e, hg, by omega, fun j hj => ?_⟩
          obtain ⟨u, hu, hc, hk'⟩ := h j (by omega)
          have hf := All2.get h2 j (by omega) hj
          exact ⟨u, hu, hC hf hc, hk _ _ hf hk'⟩
        | _ => cases h2
      | es sz2 l => cases r' with
        | es sz3 m =>
          obtain ⟨rfl, h2⟩ := h2
          obtain ⟨z1, z2, z3⟩ := hrr
          have hlm : l.length = m.length := All2.len h2
          refine ⟨z1, fun i hi => ?_, ?_⟩
          · rw [← All2.len (All2.get h2 i (by omega) hi)]
            exact z2 i (by omega)
          · rcases z3 with ⟨e, hl0⟩ | ⟨g, c, cur, t, e, hg, p1, p2, p3, p4⟩
            · exact .inl ⟨e, List.eq_nil_of_length_eq_zero (by rw [← hlm, hl0]; rfl)⟩
            · refine .inr ⟨g, c, cur, t, e, hg, p1, p2, by omega, fun i hi j hj => ?_⟩
              have hrow := All2.get h2 i (by omega) hi
              have hrl := All2.len hrow
              obtain ⟨u, hu, hc, hk'⟩ := p4 i (by omega) j (by omega)
              have hf := All2.get hrow j (by omega) hj
              exact ⟨u, hu, hC hf hc, hk _ _ hf hk'⟩
        | _ => cases h2
      | ob o =>
        have : r' = .ob o := by cases r' <;> exact h2
        subst this
        obtain ⟨g, c, e, h⟩ := hrr
        exact ⟨g, c, e, ObRel.carry h rfl fun _ _ r => PRel.step hsame (fun b _ => hbad b) r⟩
      | pc sz' ls' =>
        have : r' = .pc sz' ls' := by cases r' <;> exact h2
        subst this
        obtain ⟨z1, z2, z3⟩ := hrr
        refine ⟨z1, z2, ?_⟩
        rcases z3 with h | ⟨g, c, cur, t, e, hg, p1, p2, p3, p4⟩
        · exact .inl h
        · exact .inr ⟨g, c, cur, t, e, hg, p1, p2, p3, fun i hi j hj => let ⟨u, hu, hp⟩ := p4 i hi j hj; ⟨u, hu, PRel.step hsame (fun b _ => hbad b) hp⟩⟩
      | lp f q sl st pe =>
        have : r' = .lp f q sl st pe := by cases r' <;> exact h2
        subst this
        obtain ⟨g, c, L, N', fn, tmps, D, e, hL, hg, hs, h⟩ := hrr
        exact ⟨g, c, L, N', fn, tmps, D, e, hL, hg, hs, fun n => VRel.step hsame (fun b _ => hbad b) (Env.le_refl _) (h n)⟩
      | dead =>
        have : r' = .dead := by cases r' <;> exact h2
        subst this
        trivial
  · obtain ⟨_, r, p1, _, p2⟩ := hlive i r' hi hl'
    exact hrs.own i r g c p1 p2 he
  · obtain ⟨_, r, p1, _, p2⟩ := hlive i r1 h1 l1
    obtain ⟨_, q, q1, _, q2⟩ := hlive j r2 h2 l2
    exact hrs.inj i j r q g c1 c2 p1 q1 p2 q2 e1 e2
  · rcases hslots.get n with h | h
    · rw [h]; exact .c trivial
    · exact hV h (hsl n)

/-- A cell told otherwise, whatever the world. -/
def ImpAC (x y : AC) : Prop := y = x ∨ (∃ sz, 0 < sz ∧ x = .p (.v (.slice none 0 0)) ∧ y = .p (.sl sz [])) ∨ (∃ sz l, x = .tight sz l ∧ y = .p (.sl sz l))
theorem Weak.imp {n0 : Nat} {s s' : St} (hslots : TSlots ImpAC s s'.slots) (hregs : TRegs [] ImpAC 0 s.regs s'.regs) : Weak P n0 s s' := by
  refine Weak.gen [] ImpAC (fun x y h hx => ?_) (fun {w0 w fps base env bad'} hrs hb _ {x y v} h hc => ?_) hslots hregs
  · rcases h with rfl | ⟨_, _, _, rfl⟩ | ⟨_, _, _, rfl⟩
    · exact hx
    · rfl
    · rfl
  · have hsame : Same (badOf base env s.regs) w w := ⟨Nat.le_refl _, fun _ _ _ => rfl⟩
    rcases h with rfl | ⟨sz, hz, rfl, rfl⟩ | ⟨sz, l, rfl, rfl⟩
    · exact CRel.step hsame (fun b _ => hb b) (Env.le_refl _) hc
    · have e : v = .slice none 0 0 := by
        have : PRel w _ (.v (.slice none 0 0)) v := hc
        cases this
        rfl
      subst e
      exact PRel.sl (fun _ _ => undef) hz rfl (Nat.le_refl _) (by omega) (fun i h => by simp at h) (fun h => by omega) (fun ad e => by cases e) (fun i h => by simp at h)
    · exact PRel.step hsame (fun b _ => hb b) hc.1

/-- A struct's row of pure cells that nobody writes any more. -/
def BoxAC (id : Nat) (cells : List PV) (x y : AC) : Prop := y = x ∨ ∃ off, x = .ptr id off ∧ off ≤ cells.length ∧ y = .rp (cells.drop off)
theorem Weak.box {n0 : Nat} {s s' : St} (id : Nat) (cells : List PV) (hr : s.regs[id]? = some (.ac (cells.map .p))) (hslots : TSlots (BoxAC id cells) s s'.slots) (hregs : TRegs [id] (BoxAC id cells) 0 s.regs s'.regs) : Weak P n0 s s' := by
  refine Weak.gen [id] (BoxAC id cells) (fun x y h hx => ?_) (fun {w0 w fps base env bad'} hrs hb hnb {x y v} h hc => ?_) hslots hregs
  · rcases h with rfl | ⟨_, _, _, rfl⟩
    · exact hx
    · rfl
  · have hsame : Same (badOf base env s.regs) w w := ⟨Nat.le_refl _, fun _ _ _ => rfl⟩
    rcases h with rfl | ⟨off, rfl, hoff, rfl⟩
    · exact CRel.step hsame (fun b _ => hb b) (Env.le_refl _) hc
    · obtain ⟨hid, g, c, he, rfl⟩ := hc
      obtain ⟨g', c', cur, t, he', hg, hlen, hcells⟩ := hrs.reg id _ hr
      rw [he] at he'
      cases he'
      refine ⟨_, rfl, hnb id _ g c (List.mem_singleton.2 rfl) hr rfl he, (hrs.own id _ g c hr rfl he).2, fun j => cur.getD (off + j) undef, fun j hj => ?_⟩
      rw [List.length_drop] at hj
      obtain ⟨u, hu, hcu, _⟩ := hcells (off + j) (by rw [List.length_map]; omega)
      rw [List.getElem_map] at hcu
      have hU : cur.getD (off + j) undef = u := by rw [Array.getD_eq_getD_getElem?, hu]; rfl
      simp only [hU]
      rw [Addr.add_lit, cell_of_row w g _ cur t (0, 0) hg, hu]
      refine ⟨rfl, ?_⟩
      rw [List.getElem_drop]
      exact PRel.step hsame (fun b _ => hb b) hcu
end

theorem argSlots_back {w : World} {env : Env} {bad : Nat → Prop} : ∀ {args : List AV} {vs : List Value} (i : Nat), args.length = vs.length → (∀ n, VRel w env bad (lk (argSlots i args) (i + n)) (vs.getD n undef)) → All2 (VRel w env bad) args vs
  | [], [], _, _, _ => trivial
  | v :: args, u :: vs, i, hl, h => by
    refine ⟨?_, argSlots_back (i + 1) (by simpa using hl) fun n => ?_⟩
    · have := h 0
      simpa [argSlots, lk] using this
    · have := h (n + 1)
      rw [show lk (argSlots i (v :: args)) (i + (n + 1)) = lk (argSlots (i + 1) args) (i + 1 + n) from by
        rw [show argSlots i (v :: args) = (i, v) :: argSlots (i + 1) args from rfl, show lk ((i, v) :: argSlots (i + 1) args) (i + (n + 1)) = if i = i + (n + 1) then v else lk (argSlots (i + 1) args) (i + (n + 1)) from rfl, if_neg (by omega), show i + (n + 1) = i + 1 + n by omega]] at this
      simpa using this
  | [], _ :: _, _, h, _ => by simp at h
  | _ :: _, [], _, h, _ => by simp at h

/-- A call whose arguments are told otherwise. -/
theorem FS.weak {P : Program} {f : Nat} {args args' : List AV} {regs regs' : List Reg} {K : AV → List Reg → Prop} (hw : Weak P regs.length ⟨argSlots 0 args, regs⟩ ⟨argSlots 0 args', regs'⟩) (hl : args'.length = args.length) (h : FS P f args' regs' K) : FS P f args regs K := by
  refine ⟨h.1, fun w fps base env vs hrs hargs => ?_⟩
  have hn : args.length = vs.length := hargs.len
  have hR : R P w env ⟨w, badOf base env regs, [], w.heap.size⟩ fps base vs.length ⟨argSlots 0 args, regs⟩ { tmps := vs.toArray, defers := [] } w := by
    refine ⟨⟨env, hrs, fun n => ?_, Ev.refl _ _ _⟩, by simp, rfl, .nil, fun d hd => by simp at hd, Nat.le_refl _⟩
    have := argSlots_rel (w := w) (env := env) (bad := badOf base env regs) 0 n 0 hargs (Nat.zero_le _)
    simpa using this
  obtain ⟨⟨env', hrs', hsl', hev'⟩, _, _⟩ := hw _ _ _ _ _ _ _ _ hrs.len hR
  have hargs' : All2 (VRel w env' (badOf base env' regs')) args' vs := argSlots_back 0 (hl.trans hn) fun n => by
    have := hsl' n
    simpa using this
  refine (h.2 w fps base env' vs hrs' hargs').mono fun e w' hh => ?_
  obtain ⟨v, res, rg, env2, e1, e2, e3, e4, e5⟩ := hh
  exact ⟨v, res, rg, env2, e1, e2, e3, e4, hev'.trans e5⟩

/-- A call by its contract, its arguments told otherwise first. -/
theorem All2.refl {α : Type} {R : α → α → Prop} (h : ∀ a, R a a) : ∀ l : List α, All2 R l l
  | [] => trivial
  | a :: l => ⟨h a, All2.refl h l⟩
section
variable {id sz k : Nat} {ls : List (List PV)} {kill : List Nat}
theorem frzReg_refl (r : Reg) : frzReg id sz ls r r := by
  cases r with
  | ac l => exact All2.refl (R := frzAC id sz ls) (fun _ => .inl rfl) l
  | es n l => exact ⟨rfl, All2.refl (R := All2 (frzAC id sz ls)) (fun m => All2.refl (R := frzAC id sz ls) (fun _ => .inl rfl) m) l⟩
  | _ => rfl
theorem frzAV_refl (v : AV) : frzAV id sz ls v v := by
  cases v with
  | c x => exact .inl rfl
  | agg l => exact All2.refl (R := frzAC id sz ls) (fun _ => .inl rfl) l
  | tup l => rfl
theorem frz_keep {r : Reg} (h : Nat.beq k id = false) : if k = id then r = .dead else frzReg id sz ls r r := by
  rw [if_neg (Nat.ne_of_beq_eq_false h)]
  exact frzReg_refl r
theorem frz_dead {r : Reg} : if id = id then Reg.dead = .dead else frzReg id sz ls r .dead := by
  rw [if_pos rfl]
variable {T : AC → AC → Prop}
theorem tReg_refl (hT : ∀ x, T x x) (r : Reg) : tReg T r r := by
  cases r with
  | ac l => exact All2.refl (R := T) hT l
  | es n l => exact ⟨rfl, All2.refl (R := All2 T) (fun m => All2.refl (R := T) hT m) l⟩
  | _ => rfl
theorem tAV_refl (hT : ∀ x, T x x) (v : AV) : tAV T v v := by
  cases v with
  | c x => exact hT x
  | agg l => exact All2.refl (R := T) hT l
  | tup l => rfl
theorem t_keep (hT : ∀ x, T x x) {r : Reg} (h : k ∉ kill) : if k ∈ kill then r = .dead else tReg T r r := by
  rw [if_neg h]
  exact tReg_refl hT r
theorem t_turn {r r' : Reg} (h : k ∉ kill) (hr : tReg T r r') : if k ∈ kill then r' = .dead else tReg T r r' := by
  rw [if_neg h]
  exact hr
theorem t_dead {r : Reg} (h : k ∈ kill) : if k ∈ kill then Reg.dead = .dead else tReg T r .dead := by
  rw [if_pos h]
end

/-- A call of a function value, likewise. -/
theorem FS.post {P : Program} {f : Nat} {args : List AV} {regs : List Reg} {K K' : AV → List Reg → Prop} (h : FS P f args regs K) (hp : ∀ res rg, K res rg → ∃ res' rg', Weak P regs.length ⟨[(0, res)], rg⟩ ⟨[(0, res')], rg'⟩ ∧ K' res' rg') : FS P f args regs K' := by
  refine ⟨h.1, fun w fps base env vs hrs hargs => (h.2 w fps base env vs hrs hargs).mono fun e w' hh => ?_⟩
  obtain ⟨v, res, rg, env2, e1, e2, e3, e4, e5⟩ := hh
  obtain ⟨res', rg', hw, hk⟩ := hp res rg e2
  have hR : R P w env ⟨w, badOf base env regs, [], w.heap.size⟩ fps base 1 ⟨[(0, res)], rg⟩ { tmps := #[v], defers := [] } w' := by
    refine ⟨⟨env2, e3, fun n => ?_, e5⟩, rfl, rfl, .nil, fun d hd => by simp at hd, Nat.le_refl _⟩
    cases n with
    | zero => exact e4
    | succ n => exact .c trivial
  obtain ⟨⟨env3, hrs3, hsl3, hev3⟩, _, _⟩ := hw _ _ _ _ _ _ _ _ hrs.len hR
  exact ⟨v, res', rg', env3, e1, hk, hrs3, hsl3 0, hev3⟩
end Go.Sim
