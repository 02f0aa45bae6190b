/- An operation over rows that are turned alike. Of no program. -/
import Derived.Test.YtahoelmjfgoedaaGreatSimNr
namespace Go.Sim
open Go.RowKit Go.Proofs.YtahoelmjfgoedaaGreat.B
set_option linter.unusedVariables false
set_option linter.unusedSectionVars false

/-- What an operation reads that leaves the rows as they are. -/
def AOp.loc : AOp → Option (List AX)
  | .mv _ u | .un _ _ u | .cvi _ _ u | .b2s _ u | .load _ _ _ u | .nilc _ u | .fad _ _ u | .fld _ _ _ _ u | .len _ u | .lens _ u | .ext _ u _ => some [u]
  | .bin _ _ u y | .eqs _ _ _ _ u y | .beq _ _ u y | .ixs _ _ u y | .ixa _ _ _ u y | .ixv _ _ _ _ u y | .ixt _ u y | .mm _ _ u y => some [u, y]
  | .pick _ c a b => some [c, a, b]
  | .sls _ _ u lo hi mx => some (u :: (lo.toList ++ (hi.toList ++ mx.toList)))
  | .build _ _ parts => some (parts.map (·.2.2))
  | .call _ _ args => some args
  | .callv _ u args => some (u :: args)
  | .mkf _ _ a b => some (a ++ b)
  | .x _ k args => if k.pure = true then some args else none
  | _ => none


/-- What an operation reads. -/
def AOp.rds : AOp → Option (List AX)
  | .x _ _ args => some args
  | .alloc _ _ | .allocA _ _ _ _ => some []
  | .box _ u => some [u]
  | .bsl _ _ _ _ parts => some (parts.map (·.2))
  | .store _ a u => some [a, u]
  | .mks _ _ _ _ a b => some [a, b]
  | .app _ _ _ u y => some [u, y]
  | .sla _ _ _ u lo hi mx => some (u :: (lo.toList ++ (hi.toList ++ mx.toList)))
  | .cally _ u args => some (u :: args)
  | .mv _ u => some [u] | .un _ _ u => some [u] | .cvi _ _ u => some [u] | .b2s _ u => some [u] | .load _ _ _ u => some [u] | .nilc _ u => some [u] | .fad _ _ u => some [u]
  | .fld _ _ _ _ u => some [u] | .len _ u => some [u] | .lens _ u => some [u] | .ext _ u _ => some [u]
  | .bin _ _ u y => some [u, y] | .eqs _ _ _ _ u y => some [u, y] | .beq _ _ u y => some [u, y] | .ixs _ _ u y => some [u, y] | .ixa _ _ _ u y => some [u, y]
  | .ixv _ _ _ _ u y => some [u, y] | .ixt _ u y => some [u, y] | .mm _ _ u y => some [u, y]
  | .pick _ c a b => some [c, a, b]
  | .sls _ _ u lo hi mx => some (u :: (lo.toList ++ (hi.toList ++ mx.toList)))
  | .build _ _ parts => some (parts.map (·.2.2))
  | .call _ _ args => some args
  | .callv _ u args => some (u :: args)
  | .mkf _ _ a b => some (a ++ b)

theorem xW_mono {k : XOp} {args : List AV} {regs : List Reg} {K K' : AV → List Reg → Prop} (hk : ∀ v rg, K v rg → K' v rg) (h : xW k args regs K) : xW k args regs K' := by
  unfold xW at h ⊢
  split at h <;> first
    | exact hk _ _ h
    | exact h.elim
    | (split at h <;> first
        | exact hk _ _ h
        | exact h.elim
        | exact ⟨h.1, h.2.1, h.2.2.1, hk _ _ h.2.2.2⟩
        | (split at h <;> first
            | exact hk _ _ h
            | exact h.elim
            | exact ⟨h.1, hk _ _ h.2⟩
            | (refine ⟨h.1, ?_⟩
               have h2 := h.2
               split at h2 <;> exact hk _ _ h2)))

theorem binW_mono {op : BinOp} {x y : Value} {K K' : Value → Prop} (hk : ∀ v, K v → K' v) (h : binW op x y K) : binW op x y K' := by
  unfold binW at h ⊢
  split at h <;> first
    | exact ⟨h.1, h.2.1, hk _ h.2.2⟩
    | exact ⟨h.1, hk _ h.2⟩
    | exact hk _ h
    | exact h.elim

theorem map_ev {s s' : St} {l : List AX} (h : ∀ x ∈ l, s'.ev x = s.ev x) : l.map s'.ev = l.map s.ev := List.map_congr_left h
theorem opt_ev {s s' : St} {o : Option AX} (h : ∀ x ∈ o.toList, s'.ev x = s.ev x) : o.map s'.ev = o.map s.ev := by
  cases o with
  | none => rfl
  | some x => simp [h x (by simp)]
theorem allOf_congr {α β : Type} {f g : α → Option β} : ∀ {l : List α}, (∀ x ∈ l, f x = g x) → allOf f l = allOf g l
  | [], _ => rfl
  | a :: l, h => by simp only [allOf, h a (by simp), allOf_congr (l := l) fun x hx => h x (by simp [hx])]


theorem storeE_mono {n sz i j : Nat} {xs : List AC} {ls : List (List AC)} {K K' : List (List AC) → Prop} (hk : ∀ l, K l → K' l) (h : storeE n sz i j xs ls K) : storeE n sz i j xs ls K' := by
  obtain ⟨c, h1, h2, h3, h4⟩ := h
  exact ⟨c, h1, h2, h3, hk _ h4⟩

/-- Rows turned alike: what is live stays what it is. -/
structure Turn (P : Program) (T : List Reg → List Reg) (rg : List Reg) : Prop where
  get : ∀ (id : Nat) (q : Reg), rg[id]? = some q → q ≠ .dead → (T rg)[id]? = some q
  len : (T rg).length = rg.length
  set : ∀ (id : Nat) (q q' : Reg) (l : List Reg), rg[id]? = some q → q ≠ .dead → T (rg.set id q' ++ l) = (T rg).set id q' ++ l
  app : ∀ l : List Reg, T (rg ++ l) = T rg ++ l
  fs : ∀ (f : Nat) (args : List AV) (K : AV → List Reg → Prop), FS P f args rg K → FS P f args (T rg) fun v r => ∃ r0, K v r0 ∧ r = T r0
  ys : ∀ (id : Nat) (args : List AV) (K : AV → List Reg → Prop), YS P id args rg K → YS P id args (T rg) fun v r => ∃ r0, K v r0 ∧ r = T r0
theorem Turn.id (P : Program) (rg : List Reg) : Turn P (fun l => l) rg := ⟨fun _ _ h _ => h, rfl, fun _ _ _ _ _ _ => rfl, fun _ => rfl, fun f args K h => h.mono fun v r k => ⟨r, k, rfl⟩, fun f args K h => h.mono fun v r k => ⟨r, k, rfl⟩⟩
section
variable {P : Program} {T : List Reg → List Reg} {rg : List Reg}
theorem Turn.set' (h : Turn P T rg) {id : Nat} {q q' : Reg} (h1 : rg[id]? = some q) (h2 : q ≠ .dead) : T (rg.set id q') = (T rg).set id q' := by
  have := h.set id q q' [] h1 h2
  simpa using this
theorem Turn.elems (h : Turn P T rg) {v : AV} {ls : List (List PV)} (he : elemsOf rg v = some ls) : elemsOf (T rg) v = some ls := by
  unfold elemsOf at he ⊢
  split at he
  · exact he
  · exact he
  · exact he
  · rename_i id off sz len c
    split at he
    · rename_i sz' l hg
      try simp only
      rw [h.get id _ hg (fun e => by cases e)]
      exact he
    · cases he
  · cases he
theorem Turn.esOf (h : Turn P T rg) {id : Nat} {x : Nat × List (List AC)} (he : (rg[id]?).bind esOf = some x) : ((T rg)[id]?).bind Go.Sim.esOf = some x ∧ ∃ q, rg[id]? = some q ∧ q ≠ .dead := by
  obtain ⟨q, h1, h2⟩ := Option.bind_eq_some_iff.1 he
  have hq : q ≠ .dead := fun e => by subst e; cases h2
  exact ⟨by rw [h.get id q h1 hq]; exact h2, q, h1, hq⟩
theorem Turn.elemsX (h : Turn P T rg) {v : AV} {ls : List (List AC)} (he : elemsX rg v = some ls) : elemsX (T rg) v = some ls := by
  unfold Go.Sim.elemsX at he ⊢
  split at he
  · rename_i id off sz len c
    try simp only
    cases hb : (rg[id]?).bind Go.Sim.esOf with
    | none => rw [hb] at he; cases he
    | some y =>
      rw [hb] at he
      rw [(h.esOf hb).1]
      exact he
  · rename_i hne
    obtain ⟨l, h1, h2⟩ := Option.map_eq_some_iff.1 he
    rw [h.elems h1]
    exact congrArg some h2
theorem appW_turn (h : Turn P T rg) {vx vy : AV} {sz bytes : Nat} {K K' : AV → List Reg → Prop} (hk : ∀ v r, K v r → K' v (T r)) (w : appW rg vx vy sz bytes K) : appW (T rg) vx vy sz bytes K' := by
  unfold appW at w ⊢
  split at w
  · rename_i ls n he hn
    rw [h.elems he, hn]
    try simp only
    refine ⟨w.1, w.2.1, ?_⟩
    have w3 := w.2.2
    split at w3
    · refine ⟨w3.1, w3.2.1, ?_⟩
      have := hk _ _ w3.2.2
      rwa [h.app, ← h.len] at this
    · rename_i id sz' len
      try simp only
      split at w3
      · rename_i sz'' old hg
        rw [h.get id _ hg (fun e => by cases e)]
        try simp only
        obtain ⟨a1, a2, a3, a4, a5, a6⟩ := w3
        refine ⟨a1, a2, a3, a4, a5, ?_⟩
        have := hk _ _ a6
        rwa [h.set id _ _ _ hg (fun e => by cases e), ← h.len] at this
      · exact w3.elim
    · rename_i id off sz' len k
      try simp only
      split at w3
      · rename_i sz'' old hg
        rw [h.get id _ hg (fun e => by cases e)]
        try simp only
        obtain ⟨a1, a2, a3, a4, a5, a6, a7⟩ := w3
        refine ⟨a1, a2, a3, a4, a5, a6, ?_⟩
        have := hk _ _ a7
        rwa [h.app, ← h.len] at this
      · exact w3.elim
    · obtain ⟨a1, a2, a3, a4, a5⟩ := w3
      refine ⟨a1, a2, a3, a4, ?_⟩
      have := hk _ _ a5
      rwa [h.app, ← h.len] at this
    · exact w3.elim
  · exact w.elim
theorem appE_turn (h : Turn P T rg) {vx vy : AV} {sz bytes : Nat} {K K' : AV → List Reg → Prop} (hk : ∀ v r, K v r → K' v (T r)) (w : appE rg vx vy sz bytes K) : appE (T rg) vx vy sz bytes K' := by
  unfold appE at w ⊢
  split at w
  · rename_i ls n he hn
    rw [h.elemsX he, hn]
    try simp only
    refine ⟨w.1, w.2.1, ?_⟩
    have w3 := w.2.2
    split at w3
    · refine ⟨w3.1, w3.2.1, ?_⟩
      have := hk _ _ w3.2.2
      rwa [h.app, ← h.len] at this
    · rename_i id sz' len
      try simp only
      split at w3
      · rename_i sz'' old hg
        obtain ⟨e1, q, e2, e3⟩ := h.esOf hg
        rw [e1]
        try simp only
        obtain ⟨a1, a2, a3, a4, a5, a6⟩ := w3
        refine ⟨a1, a2, a3, a4, a5, ?_⟩
        have := hk _ _ a6
        rwa [h.set id _ _ _ e2 e3, ← h.len] at this
      · exact w3.elim
    · rename_i id off sz' len k
      try simp only
      split at w3
      · rename_i sz'' old hg
        obtain ⟨e1, q, e2, e3⟩ := h.esOf hg
        rw [e1]
        try simp only
        obtain ⟨a1, a2, a3, a4, a5, a6, a7⟩ := w3
        refine ⟨a1, a2, a3, a4, a5, a6, ?_⟩
        have := hk _ _ a7
        rwa [h.app, ← h.len] at this
      · exact w3.elim
    · exact w3.elim
  · exact w.elim
end

theorem opW_turn {P : Program} {T : List Reg → List Reg} {op : AOp} {l : List AX} {s s' : St} {K K' : St → Prop} (ht : Turn P T s.regs) (hT : s'.regs = T s.regs) (hX : op.rds = op.rds → (∃ d k a, op = .x d k a) → ∀ r, T r = r) (hl : op.rds = some l) (hev : ∀ x ∈ l, s'.ev x = s.ev x)
    (hK : ∀ v rg, K (s.putr op.dst v rg) → K' (s'.putr op.dst v (T rg))) (h : opW P op s K) : opW P op s' K' := by
  have hK0 : ∀ v, K (s.put op.dst v) → K' (s'.put op.dst v) := fun v h => by
    have := hK v s.regs h
    rw [← hT] at this
    exact this
  have hA : ∀ v l, K (s.putr op.dst v (s.regs ++ l)) → K' (s'.putr op.dst v (s'.regs ++ l)) := fun v l h => by
    have := hK v _ h
    rw [ht.app, ← hT] at this
    exact this
  have hln : s'.regs.length = s.regs.length := by rw [hT, ht.len]
  cases op with
  | mv d x =>
    cases hl
    simp only [opW] at h ⊢
    rw [hev x (by simp)]
    exact hK0 _ h
  | bin d op x y =>
    cases hl
    simp only [opW] at h ⊢
    rw [hev x (by simp), hev y (by simp)]
    split at h
    · exact binW_mono (fun v hv => hK0 _ hv) h
    · exact h.elim
  | eqs d neg t ks x y =>
    cases hl
    simp only [opW] at h ⊢
    rw [hev x (by simp), hev y (by simp)]
    split at h
    · split at h
      · exact ⟨h.1, hK0 _ h.2⟩
      · exact h.elim
    · exact h.elim
  | beq d neg x y =>
    cases hl
    simp only [opW] at h ⊢
    rw [hev x (by simp), hev y (by simp)]
    split at h
    · exact hK0 _ h
    · exact h.elim
  | pick d c x y =>
    cases hl
    simp only [opW] at h ⊢
    rw [hev c (by simp), hev x (by simp), hev y (by simp)]
    split at h
    · exact ⟨fun e => hK0 _ (h.1 e), fun e => hK0 _ (h.2 e)⟩
    · exact h.elim
  | un d op x =>
    cases hl
    simp only [opW] at h ⊢
    rw [hev x (by simp)]
    split at h <;> first
      | exact hK0 _ h
      | exact h.elim
  | cvi d k x =>
    cases hl
    simp only [opW] at h ⊢
    rw [hev x (by simp)]
    split at h <;> first
      | exact hK0 _ h
      | exact h.elim
  | nilc d x =>
    cases hl
    simp only [opW] at h ⊢
    rw [hev x (by simp)]
    split at h <;> first
      | exact hK0 _ h
      | exact h.elim
  | fad d off x =>
    cases hl
    simp only [opW] at h ⊢
    rw [hev x (by simp)]
    split at h <;> first
      | exact hK0 _ h
      | exact h.elim
  | fld d off n agg x =>
    cases hl
    simp only [opW] at h ⊢
    rw [hev x (by simp)]
    split at h
    · obtain ⟨v, h1, h2, h3⟩ := h
      exact ⟨v, h1, h2, hK0 _ h3⟩
    · exact h.elim
  | ixs d sz x i =>
    cases hl
    simp only [opW] at h ⊢
    rw [hev x (by simp), hev i (by simp)]
    split at h
    · obtain ⟨h0, h1, c, h2, h3⟩ := h
      exact ⟨h0, h1, c, h2, hK0 _ h3⟩
    · obtain ⟨h0, h1, h2, h3⟩ := h
      exact ⟨h0, h1, h2, hK0 _ h3⟩
    · exact h.elim
  | ixa d len sz x i =>
    cases hl
    simp only [opW] at h ⊢
    rw [hev x (by simp), hev i (by simp)]
    split at h
    · obtain ⟨h0, h1, h2, h3⟩ := h
      exact ⟨h0, h1, h2, hK0 _ h3⟩
    · obtain ⟨h1, h2, h3⟩ := h
      exact ⟨h1, h2, hK0 _ h3⟩
    · obtain ⟨h1, h2, h3⟩ := h
      exact ⟨h1, h2, hK0 _ h3⟩
    · exact h.elim
  | ixv d len sz agg x i =>
    cases hl
    simp only [opW] at h ⊢
    rw [hev x (by simp), hev i (by simp)]
    split at h
    · obtain ⟨h0, h1, v, h2, h3, h4⟩ := h
      exact ⟨h0, h1, v, h2, h3, hK0 _ h4⟩
    · exact h.elim
  | ixt d x i =>
    cases hl
    simp only [opW] at h ⊢
    rw [hev x (by simp), hev i (by simp)]
    split at h
    · obtain ⟨h0, h1, h2⟩ := h
      exact ⟨h0, h1, hK0 _ h2⟩
    · exact h.elim
  | len d x =>
    cases hl
    simp only [opW] at h ⊢
    rw [hev x (by simp)]
    split at h <;> first
      | exact hK0 _ h
      | exact h.elim
  | lens d x =>
    cases hl
    simp only [opW] at h ⊢
    rw [hev x (by simp)]
    split at h <;> first
      | exact hK0 _ h
      | exact h.elim
  | mm d mx x y =>
    cases hl
    simp only [opW] at h ⊢
    rw [hev x (by simp), hev y (by simp)]
    split at h <;> first
      | exact hK0 _ h
      | exact h.elim
  | ext d x i =>
    cases hl
    simp only [opW] at h ⊢
    rw [hev x (by simp)]
    split at h
    · obtain ⟨v, h1, h2⟩ := h
      exact ⟨v, h1, hK0 _ h2⟩
    · exact h.elim
  | sls d sz x lo hi mx =>
    cases hl
    simp only [opW] at h ⊢
    have e1 := opt_ev (s := s) (s' := s') (o := lo) fun x hx => hev x (by simp [hx])
    have e2 := opt_ev (s := s) (s' := s') (o := hi) fun x hx => hev x (by simp [hx])
    have e3 := opt_ev (s := s) (s' := s') (o := mx) fun x hx => hev x (by simp [hx])
    rw [hev x (by simp), e1, e2, e3]
    split at h
    · split at h
      · obtain ⟨h0, h1, h2, h3, h4⟩ := h
        exact ⟨h0, h1, h2, h3, hK0 _ h4⟩
      · obtain ⟨h0, h1, h2, h3, h4, h5⟩ := h
        exact ⟨h0, h1, h2, h3, h4, hK0 _ h5⟩
      · exact h.elim
    · split at h
      · obtain ⟨h0, h1, h2, h3, h4, h5⟩ := h
        exact ⟨h0, h1, h2, h3, h4, hK0 _ h5⟩
      · obtain ⟨h0, h1, h2, h3, h4, h5, h6⟩ := h
        exact ⟨h0, h1, h2, h3, h4, h5, hK0 _ h6⟩
      · exact h.elim
    · split at h
      · exact ⟨h.1, h.2.1, hK0 _ h.2.2⟩
      · exact ⟨h.1, h.2.1, h.2.2.1, hK0 _ h.2.2.2⟩
      · exact h.elim
    · exact h.elim
  | build d zs parts =>
    cases hl
    simp only [opW] at h ⊢
    have e : (parts.map fun (off, sz, x) => (off, sz, s'.ev x)) = parts.map fun (off, sz, x) => (off, sz, s.ev x) :=
      List.map_congr_left fun p hp => by
        obtain ⟨off, sz, x⟩ := p
        simp only
        rw [hev x (List.mem_map.2 ⟨_, hp, rfl⟩)]
    split at h
    · rename_i l' hl'
      have hl2 : fillA (zs.map fun z => .p (.v z)) (parts.map fun (off, sz, x) => (off, sz, s'.ev x)) = some l' := by rw [e]; exact hl'
      simp only [hl2]
      exact hK0 _ h
    · exact h.elim
  | mkf d f a b =>
    cases hl
    simp only [opW] at h ⊢
    rw [allOf_congr (l := a) (f := fun x => faOf (s'.ev x)) (g := fun x => faOf (s.ev x)) fun y hy => by rw [hev y (by simp [hy])],
      allOf_congr (l := b) (f := fun x => faOf (s'.ev x)) (g := fun x => faOf (s.ev x)) fun y hy => by rw [hev y (by simp [hy])]]
    split at h <;> first
      | exact hK0 _ h
      | exact h.elim
  | x d k args =>
    cases hl
    have hid := hX rfl ⟨_, _, _, rfl⟩
    simp only [opW] at h ⊢
    rw [map_ev hev, hT, hid]
    exact xW_mono (fun v rg hk => by have := hK v rg hk; rwa [hid] at this) h
  | b2s d x =>
    cases hl
    simp only [opW] at h ⊢
    rw [hev x (by simp), hT]
    split at h
    · rename_i ls n he hn
      rw [ht.elems he, hn]
      obtain ⟨h1, h2, bs, h3, h4⟩ := h
      exact ⟨h1, h2, bs, h3, hK0 _ h4⟩
    · exact h.elim
  | load d n agg x =>
    cases hl
    simp only [opW] at h ⊢
    rw [hev x (by simp), hT]
    split at h
    · try simp only
      split at h
      · rename_i hg
        rw [ht.get _ _ hg (fun e => by cases e)]
        obtain ⟨v, h1, h2, h3⟩ := h
        exact ⟨v, h1, h2, hK0 _ h3⟩
      · exact h.elim
    · try simp only
      split at h
      · rename_i hg
        rw [ht.get _ _ hg (fun e => by cases e)]
        obtain ⟨h0, c, v, h1, h2, h3, h4⟩ := h
        exact ⟨h0, c, v, h1, h2, h3, hK0 _ h4⟩
      · rename_i hg
        rw [ht.get _ _ hg (fun e => by cases e)]
        obtain ⟨h0, c, v, h1, h2, h3, h4⟩ := h
        exact ⟨h0, c, v, h1, h2, h3, hK0 _ h4⟩
      · exact h.elim
    · obtain ⟨v, h1, h2, h3⟩ := h
      exact ⟨v, h1, h2, hK0 _ h3⟩
    · exact h.elim
  | call d f args =>
    cases hl
    simp only [opW] at h ⊢
    rw [map_ev hev, hT]
    exact (ht.fs _ _ _ h).mono fun r rg ⟨r0, hk, e⟩ => by rw [e]; exact hK _ _ hk
  | callv d x args =>
    cases hl
    simp only [opW] at h ⊢
    rw [hev x (by simp), map_ev (l := args) fun y hy => hev y (by simp [hy]), hT]
    split at h
    · exact (ht.fs _ _ _ h).mono fun r rg ⟨r0, hk, e⟩ => by rw [e]; exact hK _ _ hk
    · exact h.elim
  | alloc d zs =>
    cases hl
    simp only [opW] at h ⊢
    rw [hln]
    exact hA _ _ h
  | allocA d sz n z =>
    cases hl
    simp only [opW] at h ⊢
    rw [hln]
    exact hA _ _ h
  | box d x =>
    cases hl
    simp only [opW] at h ⊢
    rw [hev x (by simp), hln]
    split at h
    · exact hA _ _ h
    · exact h.elim
  | bsl d sz len z parts =>
    cases hl
    simp only [opW] at h ⊢
    have e : (parts.map fun (i, x) => (i, s'.ev x)) = parts.map fun (i, x) => (i, s.ev x) := List.map_congr_left fun p hp => by
      obtain ⟨i, x⟩ := p
      try simp only
      rw [hev x (List.mem_map.2 ⟨_, hp, rfl⟩)]
    simp only [e, hln]
    split at h
    · exact hA _ _ h
    · split at h
      · exact hA _ _ h
      · exact h.elim
  | mks d sz bytes z a b =>
    cases hl
    simp only [opW] at h ⊢
    rw [hev a (by simp), hev b (by simp), hln]
    split at h
    · obtain ⟨h1, h2, h3, h4, h5⟩ := h
      exact ⟨h1, h2, h3, h4, hA _ _ h5⟩
    · exact h.elim
  | app d sz bytes x y =>
    cases hl
    simp only [opW] at h ⊢
    rw [hev x (by simp), hev y (by simp), hT]
    exact h.imp (appW_turn ht fun v r k => hK v r k) (appE_turn ht fun v r k => hK v r k)
  | store n a x =>
    cases hl
    have hS : ∀ id q q', s.regs[id]? = some q → q ≠ .dead → K ⟨s.slots, s.regs.set id q'⟩ → K' ⟨s'.slots, (T s.regs).set id q'⟩ := fun id q q' h1 h2 k => by
      have := hK (.tup []) (s.regs.set id q') k
      rw [ht.set' h1 h2] at this
      exact this
    simp only [opW] at h ⊢
    rw [hev a (by simp), hev x (by simp), hT]
    split at h
    · try simp only
      split at h
      · rename_i hg
        rw [ht.get _ _ hg (fun e => by cases e)]
        exact ⟨h.1, h.2.1, hS _ _ _ hg (fun e => by cases e) h.2.2⟩
      · exact h.elim
    · try simp only
      split at h
      · rename_i hg
        rw [ht.get _ _ hg (fun e => by cases e)]
        refine ⟨h.1, h.2.imp (fun ⟨c, ps, h1, h2, h3, h4, h5⟩ => ⟨c, ps, h1, h2, h3, h4, hS _ _ _ hg (fun e => by cases e) h5⟩) fun h => storeE_mono (fun l k => hS _ _ _ hg (fun e => by cases e) k) h⟩
      · rename_i hg
        rw [ht.get _ _ hg (fun e => by cases e)]
        exact ⟨h.1, storeE_mono (fun l k => hS _ _ _ hg (fun e => by cases e) k) h.2⟩
      · exact h.elim
    · exact h.elim
  | sla d n sz x lo hi mx =>
    cases hl
    simp only [opW] at h ⊢
    have e1 := opt_ev (s := s) (s' := s') (o := lo) fun x hx => hev x (by simp [hx])
    have e2 := opt_ev (s := s) (s' := s') (o := hi) fun x hx => hev x (by simp [hx])
    rw [hev x (by simp), e1, e2]
    split at h
    · split at h
      · obtain ⟨h1, h2, h3, h4, h5, h6⟩ := h
        exact ⟨h1, h2, h3, h4, h5, hK0 _ h6⟩
      · exact h.elim
    · split at h
      · obtain ⟨h1, h2, h3, h4, h5, h6, h7⟩ := h
        exact ⟨h1, h2, h3, h4, h5, h6, hK0 _ h7⟩
      · exact h.elim
    · exact h.elim
  | cally d x args =>
    cases hl
    simp only [opW] at h ⊢
    rw [hev x (by simp), map_ev (l := args) fun y hy => hev y (by simp [hy]), hT]
    split at h
    · exact (ht.fs _ _ _ h).mono fun r rg ⟨r0, hk, e⟩ => by rw [e]; exact hK _ _ hk
    · exact (ht.ys _ _ _ h).mono fun r rg ⟨r0, hk, e⟩ => by rw [e]; exact hK _ _ hk
    · exact h.elim

/-- Operations that do not look at the rows. -/
def AOp.blind : AOp → Bool
  | .x _ _ _ | .b2s _ _ | .load _ _ _ _ | .call _ _ _ | .callv _ _ _ | .cally _ _ _ | .alloc _ _ | .allocA _ _ _ _ | .box _ _ | .bsl _ _ _ _ _ | .store _ _ _ | .mks _ _ _ _ _ _ | .app _ _ _ _ _ | .sla _ _ _ _ _ _ _ => false
  | _ => true
theorem opW_blind {P : Program} {op : AOp} {l : List AX} {s s' : St} {K K' : St → Prop} (hb : op.blind = true) (hl : op.rds = some l) (hev : ∀ x ∈ l, s'.ev x = s.ev x)
    (hK0 : ∀ v, K (s.put op.dst v) → K' (s'.put op.dst v)) (h : opW P op s K) : opW P op s' K' := by
  cases op with
  | mv d x =>
    cases hl
    simp only [opW] at h ⊢
    rw [hev x (by simp)]
    exact hK0 _ h
  | bin d op x y =>
    cases hl
    simp only [opW] at h ⊢
    rw [hev x (by simp), hev y (by simp)]
    split at h
    · exact binW_mono (fun v hv => hK0 _ hv) h
    · exact h.elim
  | eqs d neg t ks x y =>
    cases hl
    simp only [opW] at h ⊢
    rw [hev x (by simp), hev y (by simp)]
    split at h
    · split at h
      · exact ⟨h.1, hK0 _ h.2⟩
      · exact h.elim
    · exact h.elim
  | beq d neg x y =>
    cases hl
    simp only [opW] at h ⊢
    rw [hev x (by simp), hev y (by simp)]
    split at h
    · exact hK0 _ h
    · exact h.elim
  | pick d c x y =>
    cases hl
    simp only [opW] at h ⊢
    rw [hev c (by simp), hev x (by simp), hev y (by simp)]
    split at h
    · exact ⟨fun e => hK0 _ (h.1 e), fun e => hK0 _ (h.2 e)⟩
    · exact h.elim
  | un d op x =>
    cases hl
    simp only [opW] at h ⊢
    rw [hev x (by simp)]
    split at h <;> first
      | exact hK0 _ h
      | exact h.elim
  | cvi d k x =>
    cases hl
    simp only [opW] at h ⊢
    rw [hev x (by simp)]
    split at h <;> first
      | exact hK0 _ h
      | exact h.elim
  | nilc d x =>
    cases hl
    simp only [opW] at h ⊢
    rw [hev x (by simp)]
    split at h <;> first
      | exact hK0 _ h
      | exact h.elim
  | fad d off x =>
    cases hl
    simp only [opW] at h ⊢
    rw [hev x (by simp)]
    split at h <;> first
      | exact hK0 _ h
      | exact h.elim
  | fld d off n agg x =>
    cases hl
    simp only [opW] at h ⊢
    rw [hev x (by simp)]
    split at h
    · obtain ⟨v, h1, h2, h3⟩ := h
      exact ⟨v, h1, h2, hK0 _ h3⟩
    · exact h.elim
  | ixs d sz x i =>
    cases hl
    simp only [opW] at h ⊢
    rw [hev x (by simp), hev i (by simp)]
    split at h
    · obtain ⟨h0, h1, c, h2, h3⟩ := h
      exact ⟨h0, h1, c, h2, hK0 _ h3⟩
    · obtain ⟨h0, h1, h2, h3⟩ := h
      exact ⟨h0, h1, h2, hK0 _ h3⟩
    · exact h.elim
  | ixa d len sz x i =>
    cases hl
    simp only [opW] at h ⊢
    rw [hev x (by simp), hev i (by simp)]
    split at h
    · obtain ⟨h0, h1, h2, h3⟩ := h
      exact ⟨h0, h1, h2, hK0 _ h3⟩
    · obtain ⟨h1, h2, h3⟩ := h
      exact ⟨h1, h2, hK0 _ h3⟩
    · obtain ⟨h1, h2, h3⟩ := h
      exact ⟨h1, h2, hK0 _ h3⟩
    · exact h.elim
  | ixv d len sz agg x i =>
    cases hl
    simp only [opW] at h ⊢
    rw [hev x (by simp), hev i (by simp)]
    split at h
    · obtain ⟨h0, h1, v, h2, h3, h4⟩ := h
      exact ⟨h0, h1, v, h2, h3, hK0 _ h4⟩
    · exact h.elim
  | ixt d x i =>
    cases hl
    simp only [opW] at h ⊢
    rw [hev x (by simp), hev i (by simp)]
    split at h
    · obtain ⟨h0, h1, h2⟩ := h
      exact ⟨h0, h1, hK0 _ h2⟩
    · exact h.elim
  | len d x =>
    cases hl
    simp only [opW] at h ⊢
    rw [hev x (by simp)]
    split at h <;> first
      | exact hK0 _ h
      | exact h.elim
  | lens d x =>
    cases hl
    simp only [opW] at h ⊢
    rw [hev x (by simp)]
    split at h <;> first
      | exact hK0 _ h
      | exact h.elim
  | mm d mx x y =>
    cases hl
    simp only [opW] at h ⊢
    rw [hev x (by simp), hev y (by simp)]
    split at h <;> first
      | exact hK0 _ h
      | exact h.elim
  | ext d x i =>
    cases hl
    simp only [opW] at h ⊢
    rw [hev x (by simp)]
    split at h
    · obtain ⟨v, h1, h2⟩ := h
      exact ⟨v, h1, hK0 _ h2⟩
    · exact h.elim
  | sls d sz x lo hi mx =>
    cases hl
    simp only [opW] at h ⊢
    have e1 := opt_ev (s := s) (s' := s') (o := lo) fun x hx => hev x (by simp [hx])
    have e2 := opt_ev (s := s) (s' := s') (o := hi) fun x hx => hev x (by simp [hx])
    have e3 := opt_ev (s := s) (s' := s') (o := mx) fun x hx => hev x (by simp [hx])
    rw [hev x (by simp), e1, e2, e3]
    split at h
    · split at h
      · obtain ⟨h0, h1, h2, h3, h4⟩ := h
        exact ⟨h0, h1, h2, h3, hK0 _ h4⟩
      · obtain ⟨h0, h1, h2, h3, h4, h5⟩ := h
        exact ⟨h0, h1, h2, h3, h4, hK0 _ h5⟩
      · exact h.elim
    · split at h
      · obtain ⟨h0, h1, h2, h3, h4, h5⟩ := h
        exact ⟨h0, h1, h2, h3, h4, hK0 _ h5⟩
      · obtain ⟨h0, h1, h2, h3, h4, h5, h6⟩ := h
        exact ⟨h0, h1, h2, h3, h4, h5, hK0 _ h6⟩
      · exact h.elim
    · split at h
      · exact ⟨h.1, h.2.1, hK0 _ h.2.2⟩
      · exact ⟨h.1, h.2.1, h.2.2.1, hK0 _ h.2.2.2⟩
      · exact h.elim
    · exact h.elim
  | build d zs parts =>
    cases hl
    simp only [opW] at h ⊢
    have e : (parts.map fun (off, sz, x) => (off, sz, s'.ev x)) = parts.map fun (off, sz, x) => (off, sz, s.ev x) :=
      List.map_congr_left fun p hp => by
        obtain ⟨off, sz, x⟩ := p
        simp only
        rw [hev x (List.mem_map.2 ⟨_, hp, rfl⟩)]
    split at h
    · rename_i l' hl'
      have hl2 : fillA (zs.map fun z => .p (.v z)) (parts.map fun (off, sz, x) => (off, sz, s'.ev x)) = some l' := by rw [e]; exact hl'
      simp only [hl2]
      exact hK0 _ h
    · exact h.elim
  | mkf d f a b =>
    cases hl
    simp only [opW] at h ⊢
    rw [allOf_congr (l := a) (f := fun x => faOf (s'.ev x)) (g := fun x => faOf (s.ev x)) fun y hy => by rw [hev y (by simp [hy])],
      allOf_congr (l := b) (f := fun x => faOf (s'.ev x)) (g := fun x => faOf (s.ev x)) fun y hy => by rw [hev y (by simp [hy])]]
    split at h <;> first
      | exact hK0 _ h
      | exact h.elim
  | _ => cases hb
end Go.Sim
