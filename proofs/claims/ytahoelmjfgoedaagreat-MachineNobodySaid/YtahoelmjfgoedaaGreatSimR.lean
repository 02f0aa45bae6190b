/- A contract holds among other rows, too. Of no program. -/
import Derived.Test.YtahoelmjfgoedaaGreatSimQ
namespace Go.Sim
open Go.RowKit Go.Proofs.YtahoelmjfgoedaaGreat.B
variable {P : Program}
set_option linter.unusedVariables false
set_option linter.unusedSectionVars false

/-- Rows laid back to their places; what is left is new. -/
def setAll : List Reg → List Nat → List Reg → List Reg
  | big, i :: l, r :: m => setAll (big.set i r) l m
  | big, _, m => big ++ m

theorem setAll_get : ∀ {l : List Nat} {big m : List Reg}, l.Nodup → l.length ≤ m.length → (∀ i ∈ l, i < big.length) → (setAll big l m).length = big.length + (m.length - l.length) ∧
    ∀ (id : Nat) (r : Reg), (setAll big l m)[id]? = some r → (id < big.length ∧ id ∉ l ∧ big[id]? = some r) ∨ (∃ k : Nat, l[k]? = some id ∧ m[k]? = some r) ∨ (big.length ≤ id ∧ m[id - big.length + l.length]? = some r)
  | [], big, m, _, _, _ => by
    have e : setAll big [] m = big ++ m := by cases m <;> rfl
    rw [e]
    refine ⟨by simp, fun id r h => ?_⟩
    rw [List.getElem?_append] at h
    split at h
    · rename_i hlt; exact .inl ⟨hlt, by simp, h⟩
    · exact .inr (.inr ⟨by omega, by simpa using h⟩)
  | i :: l, big, [], _, h, _ => by simp at h
  | i :: l, big, q :: m, hnd, hlen, hlt => by
    rw [List.nodup_cons] at hnd
    obtain ⟨h1, h2⟩ := setAll_get (l := l) (big := big.set i q) (m := m) hnd.2 (by simpa using hlen) (fun j hj => by simpa using hlt j (List.mem_cons_of_mem _ hj))
    refine ⟨by simp only [setAll, h1, List.length_set, List.length_cons]; omega, fun id r h => ?_⟩
    rcases h2 id r h with ⟨k1, k2, k3⟩ | ⟨k, k1, k2⟩ | ⟨k1, k2⟩
    · rw [List.length_set] at k1
      rw [List.getElem?_set] at k3
      by_cases e : i = id
      · subst e
        rw [if_pos rfl, if_pos k1] at k3
        cases k3
        exact .inr (.inl ⟨0, rfl, rfl⟩)
      · rw [if_neg e] at k3
        refine .inl ⟨k1, fun hx => ?_, k3⟩
        rcases List.mem_cons.1 hx with rfl | hx
        · exact e rfl
        · exact k2 hx
    · exact .inr (.inl ⟨k + 1, k1, k2⟩)
    · rw [List.length_set] at k1 k2
      refine .inr (.inr ⟨k1, ?_⟩)
      rw [List.length_cons, show id - big.length + (l.length + 1) = (id - big.length + l.length) + 1 by omega, List.getElem?_cons_succ]
      exact k2

/-- The small picture's names in the big one. -/
def upF (l : List Nat) (n i : Nat) : Nat := if i < l.length then l.getD i 0 else n + (i - l.length)

section
variable {ρ : Nat → Nat} {w : World} {env env2 : Env} {bad bad2 : Nat → Prop}
/-- From the small names to the big ones. -/
structure Up (ρ : Nat → Nat) (env env2 : Env) : Prop where
  lt : ∀ i, i < env.n → ρ i < env2.n
  eq : ∀ i, i < env.n → env2.f (ρ i) = env.f i
theorem FRel.up (hr : Up ρ env env2) (hb : ∀ b, bad2 b → bad b) {x : FA} {v : Value} (h : FRel w env bad x v) : FRel w env2 bad2 (renFA ρ x) v := by
  cases x with
  | p x => exact PRel.step (Same.mk (Nat.le_refl _) fun _ _ _ => rfl) (fun b _ => hb b) h
  | ptr id off =>
    obtain ⟨hi, g, c, e, rfl⟩ := h
    exact ⟨hr.lt _ hi, g, c, (hr.eq _ hi).trans e, rfl⟩
theorem All2.map1 {α β γ : Type} {R : α → γ → Prop} {S : β → γ → Prop} {f : α → β} (h : ∀ a c, R a c → S (f a) c) : ∀ {l : List α} {m : List γ}, All2 R l m → All2 S (l.map f) m
  | [], [], _ => trivial
  | _ :: _, _ :: _, k => ⟨h _ _ k.1, All2.map1 h k.2⟩
  | [], _ :: _, k => k.elim
  | _ :: _, [], k => k.elim
theorem CRel.up (hr : Up ρ env env2) (hb : ∀ b, bad2 b → bad b) {x : AC} {v : Value} (h : CRel w env bad x v) : CRel w env2 bad2 (renAC ρ x) v := by
  have hsame : Same bad w w := ⟨Nat.le_refl _, fun _ _ _ => rfl⟩
  cases x with
  | p x => exact PRel.step hsame (fun b _ => hb b) h
  | tight sz l => exact ⟨PRel.step hsame (fun b _ => hb b) h.1, h.2⟩
  | own id off sz len cap =>
    obtain ⟨hi, h⟩ := h
    exact ⟨hr.lt _ hi, by rw [hr.eq _ hi]; exact h⟩
  | ptr id off =>
    obtain ⟨hi, g, c, e, rfl⟩ := h
    exact ⟨hr.lt _ hi, g, c, (hr.eq _ hi).trans e, rfl⟩
  | ept id sz i j =>
    obtain ⟨hi, g, c, e, rfl⟩ := h
    exact ⟨hr.lt _ hi, g, c, (hr.eq _ hi).trans e, rfl⟩
  | rp cells => exact CRel.step (env := env) hsame (fun b _ => hb b) (Env.le_refl _) (x := .rp cells) h
  | fn f a b =>
    obtain ⟨fs, cs, e, h1, h2⟩ := h
    exact ⟨fs, cs, e, All2.map1 (S := FRel w env2 bad2) (fun _ _ h => FRel.up hr hb h) h1, All2.map1 (S := FRel w env2 bad2) (fun _ _ h => FRel.up hr hb h) h2⟩
  | hnd k id =>
    obtain ⟨hi, g, c, e, rfl⟩ := h
    exact ⟨hr.lt _ hi, g, c, (hr.eq _ hi).trans e, rfl⟩
  | any => trivial
theorem VRel.up (hr : Up ρ env env2) (hb : ∀ b, bad2 b → bad b) {x : AV} {v : Value} (h : VRel w env bad x v) : VRel w env2 bad2 (renAV ρ x) v := by
  induction h with
  | c h => simp only [renAV]; exact .c (CRel.up hr hb h)
  | agg h hk =>
    simp only [renAV]
    refine .agg (All2.map1 (S := CRel w env2 bad2) (fun _ _ h => CRel.up hr hb h) h) ?_
    rw [List.all_map, ← hk]
    congr 1
    funext x
    exact renAC_known ρ x
  | tup hn h ih =>
    simp only [renAV, renAVs_eq]
    refine .tup (by simpa using hn) fun i h1 h2 => ?_
    rw [List.getElem_map]
    exact ih i (by simpa using h1) h2
theorem RRel.up (hr : Up ρ env env2) (hb : ∀ b, bad2 b → bad b) {id id2 : Nat} (hid : env2.f id2 = env.f id) {r : Reg} (h : RRel P w env bad id r) : RRel P w env2 bad2 id2 (renReg ρ r) := by
  have hsame : Same bad w w := ⟨Nat.le_refl _, fun _ _ _ => rfl⟩
  cases r with
  | pc sz ls =>
    obtain ⟨hz, hs, h⟩ := h
    refine ⟨hz, hs, ?_⟩
    rw [hid]
    rcases h with h | ⟨g, c, cur, t, e, hg, h1, h2, h3, h4⟩
    · exact .inl h
    · exact .inr ⟨g, c, cur, t, e, hg, h1, h2, h3, fun i hi j hj => let ⟨u, hu, hp⟩ := h4 i hi j hj; ⟨u, hu, PRel.step hsame (fun b _ => hb b) hp⟩⟩
  | ac l =>
    obtain ⟨g, c, cur, t, e, hg, hl, h⟩ := h
    refine ⟨g, c, cur, t, by rw [hid]; exact e, hg, by simpa using hl, fun j hj => ?_⟩
    obtain ⟨u, hu, hc, hk⟩ := h j (by simpa using hj)
    rw [List.getElem_map]
    exact ⟨u, hu, CRel.up hr hb hc, by rw [renAC_known]; exact hk⟩
  | es sz ls =>
    obtain ⟨hz, hs, h⟩ := h
    refine ⟨hz, fun i hi => by simpa using hs i (by simpa using hi), ?_⟩
    rw [hid]
    rcases h with ⟨h1, h2⟩ | ⟨g, c, cur, t, e, hg, h1, h2, h3, h4⟩
    · exact .inl ⟨h1, by simpa using h2⟩
    · refine .inr ⟨g, c, cur, t, e, hg, h1, h2, by simpa using h3, fun i hi j hj => ?_⟩
      obtain ⟨u, hu, hc, hk⟩ := h4 i (by simpa using hi) j (by simpa using hj)
      simp only [List.getElem_map]
      exact ⟨u, hu, CRel.up hr hb hc, by rw [renAC_known]; exact hk⟩
  | ob o =>
    obtain ⟨g, c, e, h⟩ := h
    exact ⟨g, c, by rw [hid]; exact e, ObRel.carry h rfl fun _ _ r => PRel.step hsame (fun b _ => hb b) r⟩
  | lp f j sl st pe =>
    obtain ⟨g, c, L, N, fn, tmps, D, e, hL, hg, hs, h⟩ := h
    refine ⟨g, c, L, N, fn, tmps, D, by rw [hid]; exact e, hL, hg, hs, fun n => ?_⟩
    rw [lk_ren]
    exact VRel.up hr hb (h n)
  | dead => trivial
end

/-- Rows of the small picture among the big one's. -/
def SubRegs (big : List Reg) (ρ : Nat → Nat) : List Nat → List Reg → Prop
  | [], [] => True
  | i :: l, r :: m => big[i]? = some (renReg ρ r) ∧ SubRegs big ρ l m
  | _, _ => False
theorem SubRegs.get {big : List Reg} {ρ : Nat → Nat} : ∀ {l : List Nat} {m : List Reg}, SubRegs big ρ l m → l.length = m.length ∧ ∀ (k i : Nat), l[k]? = some i → ∃ r, m[k]? = some r ∧ big[i]? = some (renReg ρ r)
  | [], [], _ => ⟨rfl, fun k i h => by simp at h⟩
  | i :: l, r :: m, h => by
    obtain ⟨h1, h2⟩ := SubRegs.get h.2
    refine ⟨by simp [h1], fun k j hk => ?_⟩
    cases k with
    | zero => cases hk; exact ⟨r, rfl, h.1⟩
    | succ k => exact h2 k j hk
  | [], _ :: _, h => h.elim
  | _ :: _, [], h => h.elim

open Classical in
theorem FS.frame {P : Program} {f : Nat} {args : List AV} {regs : List Reg} {K : AV → List Reg → Prop} (h : FS P f args regs K) (big : List Reg) (l : List Nat) (hnd : l.Nodup) (hsub : SubRegs big (rhoF l big.length) l regs) :
    FS P f (args.map (renAV (rhoF l big.length))) big fun res big' => ∃ res0 regs', K res0 regs' ∧ res = renAV (upF l big.length) res0 ∧ big' = setAll big l (regs'.map (renReg (upF l big.length))) := by
  refine ⟨h.1, fun w fps base envB vs hrs hargs => ?_⟩
  obtain ⟨hll, hget⟩ := hsub.get
  have hrho : ∀ i j : Nat, l[i]? = some j → rhoF l big.length i = j := fun i j h => by simp [rhoF, List.getD_eq_getElem?_getD, h]
  have hlt : ∀ i ∈ l, i < big.length := fun i hi => by
    obtain ⟨k, hk⟩ := List.mem_iff_getElem?.1 hi
    obtain ⟨r, _, h2⟩ := hget k i hk
    exact (List.getElem?_eq_some_iff.1 h2).1
  let envS : Env := ⟨l.length, fun i => envB.f (rhoF l big.length i)⟩
  have hren : Ren (rhoF l big.length) envB envS := ⟨fun i hi => by
    rcases Nat.lt_or_ge i l.length with h | h
    · exact h
    · exfalso
      have : rhoF l big.length i = big.length := by simp [rhoF, List.getD_eq_getElem?_getD, List.getElem?_eq_none h]
      rw [this, hrs.len] at hi
      omega, fun i _ => rfl⟩
  let base' : Nat → Prop := fun b => base b ∨ ∃ id r c, big[id]? = some r ∧ r.live = true ∧ id ∉ l ∧ envB.f id = some (b, c)
  let fps' : List Nat := fps.filter fun g => decide (∃ id r c, id ∈ l ∧ big[id]? = some r ∧ r.live = true ∧ envB.f id = some (g, c))
  have hfp : ∀ g, g ∈ fps' → g ∈ fps := fun g hg => (List.mem_filter.1 hg).1
  have hownB : ∀ id r g c, big[id]? = some r → r.live = true → envB.f id = some (g, c) → g ∈ fps ∧ g < w.heap.size := fun id r g c h1 h2 h3 => by
    obtain ⟨k1, k2⟩ := hrs.own id r g c h1 h2 h3
    rcases k1 with k1 | k1
    · exact ⟨k1, k2⟩
    · omega
  have hsmall : ∀ k r, regs[k]? = some r → ∃ i, l[k]? = some i ∧ big[i]? = some (renReg (rhoF l big.length) r) ∧ envS.f k = envB.f i := by
    intro k r hk
    have hkl : k < l.length := by rw [hll]; exact (List.getElem?_eq_some_iff.1 hk).1
    obtain ⟨r', h1, h2⟩ := hget k l[k] (List.getElem?_eq_getElem hkl)
    rw [hk] at h1
    cases h1
    exact ⟨l[k], List.getElem?_eq_getElem hkl, h2, congrArg envB.f (hrho k _ (List.getElem?_eq_getElem hkl))⟩
  have hbad1 : ∀ b, badOf base' envS regs b → badOf base envB big b := by
    rintro b ((hb | ⟨id, r, c, h1, h2, _, h3⟩) | ⟨k, r, c, h1, h2, h3⟩)
    · exact .inl hb
    · exact .inr ⟨id, r, c, h1, h2, h3⟩
    · obtain ⟨i, _, k2, k3⟩ := hsmall k r h1
      exact .inr ⟨i, _, c, k2, by rw [renReg_live]; exact h2, by rw [← k3]; exact h3⟩
  have hbad2 : ∀ b, badOf base envB big b → badOf base' envS regs b := by
    rintro b (hb | ⟨id, r, c, h1, h2, h3⟩)
    · exact .inl (.inl hb)
    · by_cases hm : id ∈ l
      · obtain ⟨k, hk⟩ := List.mem_iff_getElem?.1 hm
        obtain ⟨r0, k1, k2⟩ := hget k id hk
        rw [h1] at k2
        cases k2
        refine .inr ⟨k, r0, c, k1, by rw [← renReg_live]; exact h2, ?_⟩
        rw [← h3]
        exact congrArg envB.f (hrho k id hk)
      · exact .inl (.inr ⟨id, r, c, h1, h2, hm, h3⟩)
  have hrsS : RS P w w fps' base' envS regs := by
    refine ⟨Keep.refl _ _, fun b hb => ?_, hll, fun k r hk => ?_, fun k r g c hk hl he => ?_, fun k1 k2 r1 r2 g c1 c2 h1 h2 l1 l2 e1 e2 => ?_⟩
    · rcases hb with hb | ⟨id, r, c, h1, h2, h3, h4⟩
      · exact ⟨(hrs.base_lt b hb).1, fun hx => (hrs.base_lt b hb).2 (hfp b hx)⟩
      · refine ⟨(hownB id r b c h1 h2 h4).2, fun hx => ?_⟩
        obtain ⟨id', r', c', q1, q2, q3, q4⟩ := of_decide_eq_true (List.mem_filter.1 hx).2
        have := hrs.inj id id' r r' b c c' h1 q2 h2 q3 h4 q4
        subst this
        exact h3 q1
    · obtain ⟨i, _, k2, k3⟩ := hsmall k r hk
      exact RRel.ren hren hbad1 k3 (hrs.reg i _ k2)
    · obtain ⟨i, k1, k2, k3⟩ := hsmall k r hk
      rw [k3] at he
      obtain ⟨o1, o2⟩ := hownB i _ g c k2 (by rw [renReg_live]; exact hl) he
      exact ⟨.inl (List.mem_filter.2 ⟨o1, decide_eq_true ⟨i, _, c, List.mem_iff_getElem?.2 ⟨k, k1⟩, k2, by rw [renReg_live]; exact hl, he⟩⟩), o2⟩
    · obtain ⟨i1, p1, p2, p3⟩ := hsmall k1 r1 h1
      obtain ⟨i2, q1, q2, q3⟩ := hsmall k2 r2 h2
      have := hrs.inj i1 i2 _ _ g c1 c2 p2 q2 (by rw [renReg_live]; exact l1) (by rw [renReg_live]; exact l2) (by rw [← p3]; exact e1) (by rw [← q3]; exact e2)
      subst this
      obtain ⟨x1, y1⟩ := List.getElem?_eq_some_iff.1 p1
      obtain ⟨x2, y2⟩ := List.getElem?_eq_some_iff.1 q1
      exact (List.getElem_inj hnd).1 (y1.trans y2.symm)
  have hargsS : All2 (VRel w envS (badOf base' envS regs)) args vs := All2.unmap (S := VRel w envS (badOf base' envS regs)) (fun _ _ h => VRel.ren hren hbad1 h) hargs
  refine (h.2 w fps' base' envS vs hrsS hargsS).mono fun e w' hh => ?_
  obtain ⟨v, res0, regs', envS', rfl, hk, hrs', hv, hev'⟩ := hh
  have hln : l.length ≤ regs'.length := by have := hev'.le.1; rw [hrs'.len] at this; exact this
  let envB' : Env := ⟨big.length + (regs'.length - l.length), fun i => if i < big.length then envB.f i else envS'.f (i - big.length + l.length)⟩
  have hup0 : ∀ k i, l[k]? = some i → upF l big.length k = i ∧ envB'.f i = envS'.f k := by
    intro k i hk
    obtain ⟨x1, y1⟩ := List.getElem?_eq_some_iff.1 hk
    refine ⟨by simp [upF, x1, y1], ?_⟩
    have hi : i < big.length := hlt i (List.mem_iff_getElem?.2 ⟨k, hk⟩)
    rw [show envB'.f i = envB.f i from if_pos hi, hev'.le.2 k x1]
    exact (congrArg envB.f (hrho k i hk)).symm
  have hup1 : ∀ k, l.length ≤ k → upF l big.length k = big.length + (k - l.length) ∧ envB'.f (big.length + (k - l.length)) = envS'.f k := by
    intro k hk
    refine ⟨by simp [upF]; omega, ?_⟩
    rw [show envB'.f (big.length + (k - l.length)) = envS'.f (big.length + (k - l.length) - big.length + l.length) from if_neg (by omega)]
    congr 1
    omega
  have hup : Up (upF l big.length) envS' envB' := by
    refine ⟨fun k hk => ?_, fun k hk => ?_⟩
    · rw [hrs'.len] at hk
      rcases Nat.lt_or_ge k l.length with hkl | hkl
      · rw [(hup0 k _ (List.getElem?_eq_getElem hkl)).1]
        exact Nat.lt_of_lt_of_le (hlt _ (List.getElem_mem hkl)) (Nat.le_add_right _ _)
      · rw [(hup1 k hkl).1]
        show _ < big.length + (regs'.length - l.length)
        omega
    · rcases Nat.lt_or_ge k l.length with hkl | hkl
      · rw [(hup0 k _ (List.getElem?_eq_getElem hkl)).1]
        exact (hup0 k _ (List.getElem?_eq_getElem hkl)).2
      · rw [(hup1 k hkl).1]
        exact (hup1 k hkl).2
  obtain ⟨hbl, hbg⟩ := setAll_get (l := l) (big := big) (m := regs'.map (renReg (upF l big.length))) hnd (by simpa using hln) hlt
  have hcase : ∀ id r, (setAll big l (regs'.map (renReg (upF l big.length))))[id]? = some r → (id < big.length ∧ id ∉ l ∧ big[id]? = some r ∧ envB'.f id = envB.f id) ∨ ∃ k r0, regs'[k]? = some r0 ∧ r = renReg (upF l big.length) r0 ∧ upF l big.length k = id ∧ envB'.f id = envS'.f k := by
    intro id r hid
    rcases hbg id r hid with ⟨a1, a2, a3⟩ | ⟨k, b1, b2⟩ | ⟨c1, c2⟩
    · exact .inl ⟨a1, a2, a3, if_pos a1⟩
    · rw [List.getElem?_map] at b2
      obtain ⟨r0, d1, d2⟩ := Option.map_eq_some_iff.1 b2
      obtain ⟨u1, u2⟩ := hup0 k id b1
      exact .inr ⟨k, r0, d1, d2.symm, u1, u2⟩
    · rw [List.getElem?_map] at c2
      obtain ⟨r0, d1, d2⟩ := Option.map_eq_some_iff.1 c2
      obtain ⟨u1, u2⟩ := hup1 (id - big.length + l.length) (by omega)
      have e : big.length + (id - big.length + l.length - l.length) = id := by omega
      rw [e] at u1 u2
      exact .inr ⟨_, r0, d1, d2.symm, u1, u2⟩
  have hother : ∀ id r g c, id ∉ l → big[id]? = some r → r.live = true → envB.f id = some (g, c) → base' g := fun id r g c h1 h2 h3 h4 => .inr ⟨id, r, c, h2, h3, h1, h4⟩
  have hbad' : ∀ b, badOf base envB' (setAll big l (regs'.map (renReg (upF l big.length)))) b → badOf base' envS' regs' b := by
    rintro b (hb | ⟨id, r, c, h1, h2, h3⟩)
    · exact .inl (.inl hb)
    · rcases hcase id r h1 with ⟨a1, a2, a3, a4⟩ | ⟨k, r0, b1, rfl, b3, b4⟩
      · exact .inl (hother id r b c a2 a3 h2 (by rw [← a4]; exact h3))
      · exact .inr ⟨k, r0, c, b1, by rw [← renReg_live]; exact h2, by rw [← b4]; exact h3⟩
  have hevB : Ev w envB (badOf base envB big) w' envB' (badOf base envB' (setAll big l (regs'.map (renReg (upF l big.length))))) := by
    refine ⟨⟨hev'.same.size, fun b hb hn => hev'.same.block b hb fun hx => hn (hbad1 b hx)⟩, fun b hb hx => hbad1 b (hev'.sub b hb (hbad' b hx)), ?_, fun i hi => ?_⟩
    · rw [hrs.len]
      exact Nat.le_add_right _ _
    · rw [hrs.len] at hi
      exact if_pos hi
  refine ⟨v, renAV (upF l big.length) res0, _, envB', rfl, ⟨res0, regs', hk, rfl, rfl⟩, ⟨hrs'.keep.more hfp, hrs.base_lt, by rw [hbl, List.length_map], fun id r hid => ?_, fun id r g c hid hl he => ?_, fun i j r1 r2 g c1 c2 h1 h2 l1 l2 e1 e2 => ?_⟩, VRel.up hup hbad' hv, hevB⟩
  · rcases hcase id r hid with ⟨a1, a2, a3, a4⟩ | ⟨k, r0, b1, rfl, b3, b4⟩
    · refine RRel.ev hevB (by rw [hrs.len]; exact a1) (fun hl g c he => ?_) (hrs.reg id r a3)
      obtain ⟨p1, p2⟩ := hrsS.base_lt g (hother id r g c a2 a3 hl he)
      exact hrs'.keep.block g p1 p2
    · exact RRel.up hup hbad' b4 (hrs'.reg k r0 b1)
  · rcases hcase id r hid with ⟨a1, a2, a3, a4⟩ | ⟨k, r0, b1, rfl, b3, b4⟩
    · rw [a4] at he
      obtain ⟨o1, o2⟩ := hrs.own id r g c a3 hl he
      exact ⟨o1, Nat.lt_of_lt_of_le o2 hrs'.keep.size⟩
    · rw [b4] at he
      obtain ⟨o1, o2⟩ := hrs'.own k r0 g c b1 (by rw [← renReg_live]; exact hl) he
      exact ⟨o1.imp (hfp g) fun h => h, o2⟩
  · have hclash : ∀ (id k : Nat) (r r0 : Reg) (c c' : Nat), id ∉ l → big[id]? = some r → r.live = true → envB.f id = some (g, c) → regs'[k]? = some r0 → r0.live = true → envS'.f k = some (g, c') → False := by
      intro id k r r0 c c' q1 q2 q3 q4 q5 q6 q7
      obtain ⟨p1, p2⟩ := hrs'.base_lt g (hother id r g c q1 q2 q3 q4)
      rcases (hrs'.own k r0 g c' q5 q6 q7).1 with h | h
      · exact p2 h
      · omega
    rcases hcase i r1 h1 with ⟨a1, a2, a3, a4⟩ | ⟨k, r0, b1, rfl, b3, b4⟩ <;> rcases hcase j r2 h2 with ⟨a1', a2', a3', a4'⟩ | ⟨k', r0', b1', rfl, b3', b4'⟩
    · rw [a4] at e1; rw [a4'] at e2
      exact hrs.inj i j r1 r2 g c1 c2 a3 a3' l1 l2 e1 e2
    · rw [a4] at e1; rw [b4'] at e2
      exact (hclash i k' r1 r0' c1 c2 a2 a3 l1 e1 b1' (by rw [← renReg_live]; exact l2) e2).elim
    · rw [b4] at e1; rw [a4'] at e2
      exact (hclash j k r2 r0 c2 c1 a2' a3' l2 e2 b1 (by rw [← renReg_live]; exact l1) e1).elim
    · rw [b4] at e1; rw [b4'] at e2
      have := hrs'.inj k k' r0 r0' g c1 c2 b1 b1' (by rw [← renReg_live]; exact l1) (by rw [← renReg_live]; exact l2) e1 e2
      rw [← b3, ← b3', this]
end Go.Sim
