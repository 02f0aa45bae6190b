/- A dead row that is another's: what is told beside it is told where it is live, too. Of no program. -/
import Derived.Test.YtahoelmjfgoedaaGreatSimN
namespace Go.Sim
open Go.RowKit Go.Proofs.YtahoelmjfgoedaaGreat.B
variable {P : Program}
set_option linter.unusedVariables false
set_option linter.unusedSectionVars false

theorem set_ne {regs : List Reg} {p id : Nat} {r : Reg} (h : id ≠ p) : (regs.set p r)[id]? = regs[id]? := List.getElem?_set_ne (Ne.symm h)
theorem set_in {regs : List Reg} {p id : Nat} {r q : Reg} (h : (regs.set p r)[id]? = some q) : (id = p ∧ q = r) ∨ (id ≠ p ∧ regs[id]? = some q) := by
  by_cases e : id = p
  · subst e
    rw [List.getElem?_set_self'] at h
    cases hx : regs[id]? with
    | none => rw [hx] at h; cases h
    | some y => rw [hx] at h; cases h; exact .inl ⟨rfl, rfl⟩
  · rw [set_ne e] at h
    exact .inr ⟨e, h⟩

open Classical in
theorem RS_revive {w : World} {fps : List Nat} {base : Nat → Prop} {env : Env} {regs : List Reg} {p : Nat} {r : Reg} (hp : regs[p]? = some .dead) (hrs : RS P w w fps base env (regs.set p r)) :
    RS P w w (fps.filter fun g => decide (¬ (r.live = true ∧ ∃ c, env.f p = some (g, c)))) (fun b => base b ∨ (r.live = true ∧ ∃ c, env.f p = some (b, c))) env regs ∧
      (∀ b, badOf (fun b => base b ∨ (r.live = true ∧ ∃ c, env.f p = some (b, c))) env regs b → badOf base env (regs.set p r) b) := by
  have hlt : p < regs.length := (List.getElem?_eq_some_iff.1 hp).1
  have hpr : (regs.set p r)[p]? = some r := List.getElem?_set_self hlt
  have hne : ∀ {id : Nat} {q : Reg}, regs[id]? = some q → q.live = true → id ≠ p := fun {id q} h hl e => by
    subst e
    rw [hp] at h
    cases h
    cases hl
  have hb : ∀ b, badOf (fun b => base b ∨ (r.live = true ∧ ∃ c, env.f p = some (b, c))) env regs b → badOf base env (regs.set p r) b := by
    rintro b ((h | ⟨hl, c, h⟩) | ⟨id, q, c, h1, h2, h3⟩)
    · exact .inl h
    · exact .inr ⟨p, r, c, hpr, hl, h⟩
    · exact .inr ⟨id, q, c, by rw [set_ne (hne h1 h2)]; exact h1, h2, h3⟩
  have hev : Ev w env (badOf base env (regs.set p r)) w env (badOf (fun b => base b ∨ (r.live = true ∧ ∃ c, env.f p = some (b, c))) env regs) := ⟨⟨Nat.le_refl _, fun _ _ _ => rfl⟩, fun b _ h => hb b h, Env.le_refl _⟩
  refine ⟨⟨Keep.refl _ _, fun b h => ?_, by rw [hrs.len, List.length_set], fun id q h => ?_, fun id q g c h hl he => ?_, fun i j r1 r2 g c1 c2 h1 h2 l1 l2 e1 e2 => ?_⟩, hb⟩
  · rcases h with h | ⟨hl, c, h⟩
    · exact ⟨(hrs.base_lt b h).1, fun hx => (hrs.base_lt b h).2 (List.mem_filter.1 hx).1⟩
    · exact ⟨(hrs.own p r b c hpr hl h).2, fun hx => of_decide_eq_true (List.mem_filter.1 hx).2 ⟨hl, c, h⟩⟩
  · by_cases e : id = p
    · subst e
      rw [hp] at h
      cases h
      trivial
    · have h' : (regs.set p r)[id]? = some q := by rw [set_ne e]; exact h
      exact RRel.ev hev (hrs.live_lt h') (fun _ _ _ _ => rfl) (hrs.reg id q h')
  · have e := hne h hl
    have h' : (regs.set p r)[id]? = some q := by rw [set_ne e]; exact h
    obtain ⟨o1, o2⟩ := hrs.own id q g c h' hl he
    refine ⟨o1.imp (fun o => List.mem_filter.2 ⟨o, decide_eq_true fun ⟨l, c', k⟩ => e (hrs.inj id p q r g c c' h' hpr hl l he k)⟩) fun o => o, o2⟩
  · exact hrs.inj i j r1 r2 g c1 c2 (by rw [set_ne (hne h1 l1)]; exact h1) (by rw [set_ne (hne h2 l2)]; exact h2) l1 l2 e1 e2

open Classical in
theorem FS.revive {f : Nat} {args : List AV} {regs : List Reg} {K : AV → List Reg → Prop} (h : FS P f args regs K) {p : Nat} {r : Reg} (hp : regs[p]? = some .dead) :
    FS P f args (regs.set p r) fun res rg' => ∃ rg, K res rg ∧ rg' = rg.set p r := by
  have hlt : p < regs.length := (List.getElem?_eq_some_iff.1 hp).1
  have hpr : (regs.set p r)[p]? = some r := List.getElem?_set_self hlt
  refine ⟨h.1, fun w fps base env vs hrs hargs => ?_⟩
  obtain ⟨hrsS, hb⟩ := RS_revive hp hrs
  have hev : Ev w env (badOf base env (regs.set p r)) w env (badOf (fun b => base b ∨ (r.live = true ∧ ∃ c, env.f p = some (b, c))) env regs) := ⟨⟨Nat.le_refl _, fun _ _ _ => rfl⟩, fun b _ h => hb b h, Env.le_refl _⟩
  refine (h.2 w _ _ env vs hrsS (hargs.imp fun _ _ h => VRel.ev hev h)).mono fun e w' hh => ?_
  obtain ⟨v, res, regs', env', rfl, hk, hrs', hv, hev'⟩ := hh
  have hpn : p < env.n := by rw [hrsS.len]; exact hlt
  have hep : env'.f p = env.f p := hev'.le.2 p hpn
  have hlt' : p < regs'.length := by rw [← hrs'.len]; exact Nat.lt_of_lt_of_le hpn hev'.le.1
  have hclash : ∀ (j : Nat) (q : Reg) (g c c' : Nat), r.live = true → env.f p = some (g, c) → regs'[j]? = some q → q.live = true → env'.f j = some (g, c') → False := by
    intro j q g c c' hl h1 h2 h3 h4
    obtain ⟨p1, p2⟩ := hrs'.base_lt g (.inr ⟨hl, c, h1⟩)
    rcases (hrs'.own j q g c' h2 h3 h4).1 with h | h
    · exact p2 h
    · omega
  have hb' : ∀ b, badOf base env' (regs'.set p r) b → badOf (fun b => base b ∨ (r.live = true ∧ ∃ c, env.f p = some (b, c))) env' regs' b := by
    rintro b (h | ⟨id, q, c, h1, h2, h3⟩)
    · exact .inl (.inl h)
    · rcases set_in h1 with ⟨rfl, rfl⟩ | ⟨_, k⟩
      · exact .inl (.inr ⟨h2, c, by rw [← hep]; exact h3⟩)
      · exact .inr ⟨id, q, c, k, h2, h3⟩
  have hevB : Ev w env (badOf base env (regs.set p r)) w' env' (badOf base env' (regs'.set p r)) :=
    ⟨⟨hev'.same.size, fun b hb1 hn => hev'.same.block b hb1 fun hx => hn (hb b hx)⟩, fun b hb1 hx => hb b (hev'.sub b hb1 (hb' b hx)), hev'.le⟩
  have hevC : Ev w' env' (badOf (fun b => base b ∨ (r.live = true ∧ ∃ c, env.f p = some (b, c))) env' regs') w' env' (badOf base env' (regs'.set p r)) := ⟨⟨Nat.le_refl _, fun _ _ _ => rfl⟩, fun b _ h => hb' b h, Env.le_refl _⟩
  have hfp : ∀ g, g ∈ (fps.filter fun g => decide (¬ (r.live = true ∧ ∃ c, env.f p = some (g, c)))) → g ∈ fps := fun g hg => (List.mem_filter.1 hg).1
  refine ⟨v, res, regs'.set p r, env', rfl, ⟨regs', hk, rfl⟩, ⟨hrs'.keep.more hfp, hrs.base_lt, by rw [hrs'.len, List.length_set], fun id q hid => ?_, fun id q g c hid hl he => ?_, fun i j r1 r2 g c1 c2 h1 h2 l1 l2 e1 e2 => ?_⟩, VRel.ev hevC hv, hevB⟩
  · rcases set_in hid with ⟨rfl, rfl⟩ | ⟨e, k⟩
    · refine RRel.ev hevB hpn (fun hl g c he => ?_) (hrs.reg _ _ hpr)
      obtain ⟨p1, p2⟩ := hrsS.base_lt g (.inr ⟨hl, c, he⟩)
      exact hrs'.keep.block g p1 p2
    · exact RRel.ev hevC (hrs'.live_lt k) (fun _ _ _ _ => rfl) (hrs'.reg id q k)
  · rcases set_in hid with ⟨rfl, rfl⟩ | ⟨e, k⟩
    · rw [hep] at he
      obtain ⟨o1, o2⟩ := hrs.own _ _ g c hpr hl he
      exact ⟨o1, Nat.lt_of_lt_of_le o2 hrs'.keep.size⟩
    · obtain ⟨o1, o2⟩ := hrs'.own id q g c k hl he
      exact ⟨o1.imp (hfp g) fun h => h, o2⟩
  · rcases set_in h1 with ⟨rfl, rfl⟩ | ⟨n1, k1⟩ <;> rcases set_in h2 with ⟨rfl, rfl⟩ | ⟨n2, k2⟩
    · rfl
    · rw [hep] at e1
      exact (hclash j r2 g c1 c2 l1 e1 k2 l2 e2).elim
    · rw [hep] at e2
      exact (hclash i r1 g c2 c1 l2 e2 k1 l1 e1).elim
    · exact hrs'.inj i j r1 r2 g c1 c2 k1 k2 l1 l2 e1 e2
end Go.Sim
