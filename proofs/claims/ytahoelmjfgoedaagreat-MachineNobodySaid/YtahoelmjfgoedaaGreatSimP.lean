/- A function's contract from its text; a picture that tells less. Of no program. -/
import Derived.Test.YtahoelmjfgoedaaGreatSimOb
namespace Go.Sim
open Go.RowKit Go.Proofs.YtahoelmjfgoedaaGreat.B

def argSlots : Nat → List AV → List (Nat × AV)
  | _, [] => []
  | i, v :: r => (i, v) :: argSlots (i + 1) r
theorem argSlots_rel {w : World} {env : Env} {bad : Nat → Prop} : ∀ {args : List AV} {vs : List Value} (i n : Nat) (m : Nat), All2 (VRel w env bad) args vs → i ≤ n →
    VRel w env bad (lk (argSlots i args) n) ((vs ++ List.replicate m undef).getD (n - i) undef)
  | [], [], i, n, m, _, _ => .c trivial
  | v :: args, u :: vs, i, n, m, h, hi => by
    unfold argSlots lk
    by_cases e : i = n
    · subst e
      rw [if_pos rfl, Nat.sub_self]
      exact h.1
    · rw [if_neg e, show n - i = (n - (i + 1)) + 1 by omega]
      exact argSlots_rel (i + 1) n m h.2 (by omega)
  | [], _ :: _, _, _, _, h, _ => h.elim
  | _ :: _, [], _, _, _, h, _ => h.elim

/-! ### Less is told -/
section
variable (ρ : Nat → Nat)
def renFA : FA → FA
  | .ptr id off => .ptr (ρ id) off
  | x => x
def renAC : AC → AC
  | .own id off sz len cap => .own (ρ id) off sz len cap
  | .ptr id off => .ptr (ρ id) off
  | .ept id sz i j => .ept (ρ id) sz i j
  | .fn f a b => .fn f (a.map (renFA ρ)) (b.map (renFA ρ))
  | .hnd k id => .hnd k (ρ id)
  | x => x
end
mutual
def renAV (ρ : Nat → Nat) : AV → AV
  | .c x => .c (renAC ρ x)
  | .agg l => .agg (l.map (renAC ρ))
  | .tup l => .tup (renAVs ρ l)
def renAVs (ρ : Nat → Nat) : List AV → List AV
  | [] => []
  | v :: r => renAV ρ v :: renAVs ρ r
end
def renSl (ρ : Nat → Nat) : List (Nat × AV) → List (Nat × AV)
  | [] => []
  | (k, v) :: r => (k, renAV ρ v) :: renSl ρ r
theorem lk_ren (ρ : Nat → Nat) : ∀ (l : List (Nat × AV)) (n : Nat), lk (renSl ρ l) n = renAV ρ (lk l n)
  | [], n => by simp [renSl, lk, renAV, renAC]
  | (k, v) :: r, n => by
    simp only [renSl, lk, lk_ren ρ r n]
    split <;> rfl
def renReg (ρ : Nat → Nat) : Reg → Reg
  | .ac l => .ac (l.map (renAC ρ))
  | .es sz ls => .es sz (ls.map fun l => l.map (renAC ρ))
  | .lp f j sl st pe => .lp f j (renSl ρ sl) st pe
  | r => r
theorem renAVs_eq (ρ : Nat → Nat) : ∀ l : List AV, renAVs ρ l = l.map (renAV ρ)
  | [] => by simp [renAVs]
  | v :: r => by simp [renAVs, renAVs_eq ρ r]
theorem renReg_live (ρ : Nat → Nat) (r : Reg) : (renReg ρ r).live = r.live := by cases r <;> rfl
theorem renAC_known (ρ : Nat → Nat) (x : AC) : (renAC ρ x).known = x.known := by cases x <;> rfl

/-- Two ways to name rows tell the same. -/
structure Ren (ρ : Nat → Nat) (env env2 : Env) : Prop where
  lt : ∀ i, ρ i < env.n → i < env2.n
  eq : ∀ i, i < env2.n → env2.f i = env.f (ρ i)

section
variable {ρ : Nat → Nat} {w : World} {env env2 : Env} {bad bad2 : Nat → Prop}
theorem FRel.ren (hr : Ren ρ env env2) (hb : ∀ b, bad2 b → bad b) {x : FA} {v : Value} (h : FRel w env bad (renFA ρ x) v) : FRel w env2 bad2 x v := by
  cases x with
  | p x => exact PRel.step (Same.mk (Nat.le_refl _) fun _ _ _ => rfl) (fun b _ => hb b) h
  | ptr id off =>
    obtain ⟨hi, g, c, e, rfl⟩ := h
    exact ⟨hr.lt _ hi, g, c, (hr.eq _ (hr.lt _ hi)).trans e, rfl⟩
theorem All2.unmap {α β γ : Type} {R : β → γ → Prop} {S : α → γ → Prop} {f : α → β} (h : ∀ a c, R (f a) c → S a c) : ∀ {l : List α} {m : List γ}, All2 R (l.map f) m → All2 S l m
  | [], [], _ => trivial
  | _ :: _, _ :: _, k => ⟨h _ _ k.1, All2.unmap h k.2⟩
  | [], _ :: _, k => k.elim
  | _ :: _, [], k => k.elim
theorem CRel.ren (hr : Ren ρ env env2) (hb : ∀ b, bad2 b → bad b) {x : AC} {v : Value} (h : CRel w env bad (renAC ρ x) v) : CRel w env2 bad2 x v := by
  have hsame : Same bad w w := ⟨Nat.le_refl _, fun _ _ _ => rfl⟩
  cases x with
  | p x => exact PRel.step hsame (fun b _ => hb b) h
  | tight sz l => exact ⟨PRel.step hsame (fun b _ => hb b) h.1, h.2⟩
  | own id off sz len cap =>
    obtain ⟨hi, h⟩ := h
    exact ⟨hr.lt _ hi, by rw [hr.eq _ (hr.lt _ hi)]; exact h⟩
  | ptr id off =>
    obtain ⟨hi, g, c, e, rfl⟩ := h
    exact ⟨hr.lt _ hi, g, c, (hr.eq _ (hr.lt _ hi)).trans e, rfl⟩
  | ept id sz i j =>
    obtain ⟨hi, g, c, e, rfl⟩ := h
    exact ⟨hr.lt _ hi, g, c, (hr.eq _ (hr.lt _ hi)).trans e, rfl⟩
  | rp cells => exact CRel.step (env := env) hsame (fun b _ => hb b) (Env.le_refl _) (x := .rp cells) h
  | fn f a b =>
    obtain ⟨fs, cs, e, h1, h2⟩ := h
    exact ⟨fs, cs, e, All2.unmap (S := FRel w env2 bad2) (fun _ _ h => FRel.ren hr hb h) h1, All2.unmap (S := FRel w env2 bad2) (fun _ _ h => FRel.ren hr hb h) h2⟩
  | hnd k id =>
    obtain ⟨hi, g, c, e, rfl⟩ := h
    exact ⟨hr.lt _ hi, g, c, (hr.eq _ (hr.lt _ hi)).trans e, rfl⟩
  | any => trivial
theorem VRel.ren (hr : Ren ρ env env2) (hb : ∀ b, bad2 b → bad b) : ∀ {x : AV} {v : Value}, VRel w env bad (renAV ρ x) v → VRel w env2 bad2 x v := by
  suffices ∀ {y : AV} {v : Value}, VRel w env bad y v → ∀ x, y = renAV ρ x → VRel w env2 bad2 x v by
    intro x v h
    exact this h x rfl
  intro y v h
  induction h with
  | c h =>
    intro x e
    cases x with
    | c x => simp only [renAV] at e; cases e; exact .c (CRel.ren hr hb h)
    | agg l => simp only [renAV] at e; cases e
    | tup l => simp only [renAV] at e; cases e
  | agg h hk =>
    intro x e
    cases x with
    | c x => simp only [renAV] at e; cases e
    | agg l =>
      simp only [renAV] at e
      cases e
      refine .agg (All2.unmap (S := CRel w env2 bad2) (fun _ _ h => CRel.ren hr hb h) h) ?_
      rw [List.all_map] at hk
      rw [← hk]
      congr 1
      funext x
      exact (renAC_known ρ x).symm
    | tup l => simp only [renAV] at e; cases e
  | tup hn h ih =>
    intro x e
    cases x with
    | c x => simp only [renAV] at e; cases e
    | agg l => simp only [renAV] at e; cases e
    | tup l =>
      simp only [renAV, renAVs_eq] at e
      cases e
      refine .tup (by simpa using hn) fun i h1 h2 => ih i (by simpa using h1) h2 _ (by simp)
theorem RRel.ren {P : Program} (hr : Ren ρ env env2) (hb : ∀ b, bad2 b → bad b) {id id2 : Nat} (hid : env2.f id2 = env.f id) {r : Reg} (h : RRel P w env bad id (renReg ρ r)) : RRel P w env2 bad2 id2 r := by
  have hsame : Same bad w w := ⟨Nat.le_refl _, fun _ _ _ => rfl⟩
  cases r with
  | pc sz ls =>
    obtain ⟨hz, hs, h⟩ := h
    refine ⟨hz, hs, ?_⟩
    rw [hid]
    rcases h with h | ⟨g, c, cur, t, e, hg, h1, h2, h3, h4⟩
    · exact .inl h
    · exact .inr ⟨g, c, cur, t, e, hg, h1, h2, h3, fun i hi j hj => let ⟨u, hu, hp⟩ := h4 i hi j hj; ⟨u, hu, PRel.step hsame (fun b _ => hb b) hp⟩⟩
  | ac l =>
    obtain ⟨g, c, cur, t, e, hg, hl, h⟩ := h
    refine ⟨g, c, cur, t, by rw [hid]; exact e, hg, by simpa using hl, fun j hj => ?_⟩
    obtain ⟨u, hu, hc, hk⟩ := h j (by simpa using hj)
    rw [List.getElem_map] at hc hk
    exact ⟨u, hu, CRel.ren hr hb hc, by rw [← renAC_known ρ]; exact hk⟩
  | es sz ls =>
    obtain ⟨hz, hs, h⟩ := h
    have hs2 : ∀ i (hi : i < ls.length), ls[i].length = sz := fun i hi => by
      have := hs i (by rw [List.length_map]; exact hi)
      rw [List.getElem_map, List.length_map] at this
      exact this
    refine ⟨hz, hs2, ?_⟩
    rw [hid]
    rcases h with ⟨h1, h2⟩ | ⟨g, c, cur, t, e, hg, h1, h2, h3, h4⟩
    · exact .inl ⟨h1, by simpa using h2⟩
    · refine .inr ⟨g, c, cur, t, e, hg, h1, h2, by simpa using h3, fun i hi j hj => ?_⟩
      obtain ⟨u, hu, hc, hk⟩ := h4 i (by simpa using hi) j (by simpa using hj)
      simp only [List.getElem_map] at hc hk
      exact ⟨u, hu, CRel.ren hr hb hc, by rw [← renAC_known ρ]; exact hk⟩
  | ob o =>
    obtain ⟨g, c, e, h⟩ := h
    exact ⟨g, c, by rw [hid]; exact e, ObRel.carry h rfl fun _ _ r => PRel.step hsame (fun b _ => hb b) r⟩
  | lp f j sl st pe =>
    obtain ⟨g, c, L, N, fn, tmps, D, e, hL, hg, hs, h⟩ := h
    refine ⟨g, c, L, N, fn, tmps, D, by rw [hid]; exact e, hL, hg, hs, fun n => ?_⟩
    have := h n
    rw [lk_ren] at this
    exact VRel.ren hr hb this
  | dead => trivial
end

/-- Slots of one picture, told by another. -/
def SlotsOk (s : St) (ρ : Nat → Nat) : List (Nat × AV) → Prop
  | [] => True
  | (k, v) :: r => lk s.slots k = renAV ρ v ∧ SlotsOk s ρ r
/-- Rows of one picture, told by another. -/
def RegsOk (s : St) (ρ : Nat → Nat) : List Nat → List Reg → Prop
  | [], [] => True
  | i :: l, r :: m => (r = .dead ∨ s.regs[i]? = some (renReg ρ r)) ∧ RegsOk s ρ l m
  | _, _ => False
def rhoF (l : List Nat) (n : Nat) (i : Nat) : Nat := l.getD i n

theorem RegsOk.get {s : St} {ρ : Nat → Nat} : ∀ {l : List Nat} {m : List Reg}, RegsOk s ρ l m → l.length = m.length ∧ ∀ (i : Nat) (r : Reg), m[i]? = some r → r = .dead ∨ ∃ j, l[i]? = some j ∧ s.regs[j]? = some (renReg ρ r)
  | [], [], _ => ⟨rfl, fun i r h => by simp at h⟩
  | j :: l, q :: m, h => by
    obtain ⟨h1, h2⟩ := RegsOk.get h.2
    refine ⟨by simp [h1], fun i r hr => ?_⟩
    cases i with
    | zero =>
      cases hr
      rcases h.1 with e | e
      · exact .inl e
      · exact .inr ⟨j, rfl, e⟩
    | succ i => exact h2 i r (by simpa using hr)
  | [], _ :: _, h => h.elim
  | _ :: _, [], h => h.elim
theorem SlotsOk.get {s : St} {ρ : Nat → Nat} : ∀ {l : List (Nat × AV)}, SlotsOk s ρ l → ∀ n, lk l n = .c .any ∨ lk s.slots n = renAV ρ (lk l n)
  | [], _, _ => .inl rfl
  | (k, v) :: r, h, n => by
    rw [show lk ((k, v) :: r) n = if k = n then v else lk r n from rfl]
    by_cases e : k = n
    · subst e
      rw [if_pos rfl]
      exact .inr h.1
    · rw [if_neg e]
      exact SlotsOk.get h.2 n

/-- Other names, fewer slots, fewer rows. -/
theorem Weak.ren {P : Program} {n0 : Nat} {s s' : St} (l : List Nat) (h0 : l.take n0 = List.range n0) (hnd : l.Nodup) (hregs : RegsOk s (rhoF l s.regs.length) l s'.regs) (hslots : SlotsOk s (rhoF l s.regs.length) s'.slots) : Weak P n0 s s' := by
  intro N w0 env0 bad0 fps base a w hn hR
  obtain ⟨⟨env, hrs, hsl, hev⟩, hsz, hdf⟩ := hR
  obtain ⟨hl, hget⟩ := hregs.get
  have hn0 : n0 ≤ l.length := by
    have := congrArg List.length h0
    simp at this
    omega
  let env2 : Env := ⟨l.length, fun i => env.f (rhoF l s.regs.length i)⟩
  have hrho : ∀ i j, l[i]? = some j → rhoF l s.regs.length i = j := fun i j h => by simp [rhoF, List.getD_eq_getElem?_getD, h]
  have hren : Ren (rhoF l s.regs.length) env env2 := ⟨fun i hi => by
    rcases Nat.lt_or_ge i l.length with h | h
    · exact h
    · exfalso
      have : rhoF l s.regs.length i = s.regs.length := by simp [rhoF, List.getD_eq_getElem?_getD, List.getElem?_eq_none h]
      rw [this, hrs.len] at hi
      omega, fun i _ => rfl⟩
  have hlive : ∀ (i : Nat) (r : Reg), s'.regs[i]? = some r → r.live = true → ∃ j, l[i]? = some j ∧ s.regs[j]? = some (renReg (rhoF l s.regs.length) r) ∧ env2.f i = env.f j := by
    intro i r hi hl'
    rcases hget i r hi with rfl | ⟨j, h1, h2⟩
    · cases hl'
    · exact ⟨j, h1, h2, congrArg env.f (hrho i j h1)⟩
  have hbad : ∀ b, badOf base env2 s'.regs b → badOf base env s.regs b := by
    intro b hb
    rcases hb with hb | ⟨i, r, c, h1, h2, h3⟩
    · exact .inl hb
    · obtain ⟨j, k1, k2, k3⟩ := hlive i r h1 h2
      exact .inr ⟨j, _, c, k2, by rw [renReg_live]; exact h2, by rw [← k3]; exact h3⟩
  have hle : env0.le env2 := by
    refine ⟨by rw [hn]; exact hn0, fun i hi => ?_⟩
    rw [hn] at hi
    have : l[i]? = some i := by
      have h1 : (l.take n0)[i]? = (List.range n0)[i]? := by rw [h0]
      rw [List.getElem?_take_of_lt hi, List.getElem?_range hi] at h1
      exact h1
    rw [show env2.f i = env.f i from congrArg env.f (hrho i i this)]
    exact hev.le.2 i (by rw [hn]; exact hi)
  refine ⟨⟨env2, ⟨hrs.keep, hrs.base_lt, hl, fun id r hr => ?_, fun id r g c hr hl' he => ?_, fun i j r1 r2 g c1 c2 h1 h2 l1 l2 e1 e2 => ?_⟩, fun n => ?_, ⟨hev.same, fun b hb k => hev.sub b hb (hbad b k), hle⟩⟩, hsz, hdf⟩
  · rcases hget id r hr with rfl | ⟨j, k1, k2⟩
    · trivial
    · exact RRel.ren hren hbad (congrArg env.f (hrho id j k1)) (hrs.reg j _ k2)
  · obtain ⟨j, k1, k2, k3⟩ := hlive id r hr hl'
    exact hrs.own j _ g c k2 (by rw [renReg_live]; exact hl') (by rw [← k3]; exact he)
  · obtain ⟨j1, p1, p2, p3⟩ := hlive i r1 h1 l1
    obtain ⟨j2, q1, q2, q3⟩ := hlive j r2 h2 l2
    have := hrs.inj j1 j2 _ _ g c1 c2 p2 q2 (by rw [renReg_live]; exact l1) (by rw [renReg_live]; exact l2) (by rw [← p3]; exact e1) (by rw [← q3]; exact e2)
    subst this
    obtain ⟨i1, x1⟩ := List.getElem?_eq_some_iff.1 p1
    obtain ⟨i2, x2⟩ := List.getElem?_eq_some_iff.1 q1
    exact (List.getElem_inj hnd).1 (x1.trans x2.symm)
  · rcases hslots.get n with h | h
    · rw [h]; exact .c trivial
    · have := hsl n
      rw [h] at this
      exact this.ren hren hbad
end Go.Sim
