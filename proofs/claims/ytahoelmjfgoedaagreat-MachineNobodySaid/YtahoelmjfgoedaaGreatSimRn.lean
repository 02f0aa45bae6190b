/- A program's functions, run over the picture without fuel: equations. Of no program. -/
import Derived.Test.YtahoelmjfgoedaaGreatSimZ
namespace Go.Sim
open Go.RowKit Go.Proofs.YtahoelmjfgoedaaGreat.B
variable {P : Program}
set_option linter.unusedVariables false
set_option linter.unusedSectionVars false


/-! ### What a value leans on: finitely many calls -/
structure Qry where
  f : CK
  a : List AV
  r : List Reg
  x : AV × List Reg
def Qry.ok (c : CallF) (q : Qry) : Prop := c q.f q.a q.r = some q.x
/-- Whatever E tells it tells by finitely many calls. -/
def Fs {β : Type} (E : CallF → Option β) : Prop := ∀ (c : CallF) (x : β), E c = some x → ∃ L : List Qry, (∀ q ∈ L, q.ok c) ∧ ∀ c', (∀ q ∈ L, q.ok c') → E c' = some x
theorem Fs.const {β : Type} (v : Option β) : Fs (fun _ => v) := fun c x h => ⟨[], fun q hq => by simp at hq, fun c' _ => h⟩
theorem Fs.bind {β γ : Type} {E : CallF → Option β} {F : β → CallF → Option γ} (hE : Fs E) (hF : ∀ y, Fs (F y)) : Fs (fun c => (E c).bind fun y => F y c) := by
  intro c x h
  obtain ⟨y, h1, h2⟩ := Option.bind_eq_some_iff.1 h
  obtain ⟨L1, a1, b1⟩ := hE c y h1
  obtain ⟨L2, a2, b2⟩ := hF y c x h2
  refine ⟨L1 ++ L2, fun q hq => ?_, fun c' hc' => ?_⟩
  · rcases List.mem_append.1 hq with hq | hq
    · exact a1 q hq
    · exact a2 q hq
  · show (E c').bind _ = _
    rw [b1 c' fun q hq => hc' q (List.mem_append_left _ hq)]
    exact b2 c' fun q hq => hc' q (List.mem_append_right _ hq)
theorem Fs.map {β γ : Type} {E : CallF → Option β} (g : β → γ) (hE : Fs E) : Fs (fun c => (E c).map g) := by
  have := Fs.bind (F := fun y _ => some (g y)) hE fun y => Fs.const _
  intro c x h
  have e : ∀ c, (E c).map g = (E c).bind fun y => some (g y) := fun c => by cases E c <;> rfl
  obtain ⟨L, a, b⟩ := this c x ((e c).symm.trans h)
  exact ⟨L, a, fun c' hc' => (e c').trans (b c' hc')⟩
theorem Fs.call (f : CK) (a : List AV) (r : List Reg) : Fs (fun c => c f a r) := fun c x h => ⟨[⟨f, a, r, x⟩], fun q hq => by rw [List.mem_singleton.1 hq]; exact h, fun c' hc' => hc' _ (List.mem_singleton.2 rfl)⟩
theorem Fs.ite {β : Type} {E F : CallF → Option β} (p : Prop) [Decidable p] (hE : Fs E) (hF : Fs F) : Fs (fun c => if p then E c else F c) := by
  by_cases h : p
  · simpa only [if_pos h] using hE
  · simpa only [if_neg h] using hF
theorem Fs.mono {β : Type} {E : CallF → Option β} (h : Fs E) {c c' : CallF} (hc : ∀ f a r x, c f a r = some x → c' f a r = some x) {x : β} (hx : E c = some x) : E c' = some x := by
  obtain ⟨L, a, b⟩ := h c x hx
  exact b c' fun q hq => hc _ _ _ _ (a q hq)

section
variable {P : Program}
theorem Fs.evalOp (o : AOp) (s : St) : Fs (fun c => evalOp P c o s) := by
  cases o with
  | call d f args => exact Fs.map (fun p => s.putr d p.1 p.2) (Fs.call (.fn f) (args.map (evF s)) s.regs)
  | callv d x args =>
    intro c y h
    simp only [Go.Sim.evalOp, ev_callv] at h ⊢
    revert h
    generalize evF s x = v
    intro h
    split at h
    · rename_i f a b
      exact Fs.map (fun p => s.putr d p.1 p.2) (Fs.call (.fn f) (a.map avFA ++ args.map (evF s) ++ b.map avFA) s.regs) c y h
    · cases h
  | cally d x args =>
    intro c y h
    simp only [Go.Sim.evalOp, ev_cally] at h ⊢
    revert h
    generalize evF s x = v
    intro h
    split at h
    · rename_i f a b
      exact Fs.map (fun p => s.putr d p.1 p.2) (Fs.call (.fn f) (a.map avFA ++ args.map (evF s) ++ b.map avFA) s.regs) c y h
    · rename_i id
      exact Fs.map (fun p => s.putr d p.1 p.2) (Fs.call (.yl id) (args.map (evF s)) s.regs) c y h
    · cases h
  | _ => exact Fs.const _
theorem Fs.evalIt (it : AIt) (s : St) : Fs (fun c => evalIt P c it s) := by
  unfold Go.Sim.evalIt
  cases hg : it.guard with
  | none => exact Fs.evalOp it.op s
  | some tw =>
    obtain ⟨t, want⟩ := tw
    simp only
    generalize lkF s.slots t = v
    intro c y h
    split at h
    · split at h
      · rename_i hw
        simp only [hw, if_true]
        exact Fs.evalOp it.op s c y h
      · rename_i hw
        simp only [hw, if_false]
        exact Fs.const _ c y h
    · exact Fs.const _ c y h
    · cases h
theorem Fs.evalOps : ∀ (l : List AIt) (s : St), Fs (fun c => evalOps P c l s)
  | [], s => Fs.const _
  | it :: r, s => Fs.bind (Fs.evalIt it s) fun s1 => Fs.evalOps r s1
/-- Calls whose results are turned. -/
theorem Fs.via {β : Type} {E : CallF → Option β} (h : Fs E) : Fs (fun c => E (frzCall c)) := by
  intro c x hx
  obtain ⟨L, a, b⟩ := h _ x hx
  have : ∃ L' : List Qry, (∀ q ∈ L', q.ok c) ∧ ∀ c', (∀ q ∈ L', q.ok c') → ∀ q ∈ L, q.ok (frzCall c') := by
    clear b hx
    induction L with
    | nil => exact ⟨[], fun q hq => by simp at hq, fun c' _ q hq => by simp at hq⟩
    | cons q L ih =>
      obtain ⟨L', h1, h2⟩ := ih fun q hq => a q (List.mem_cons_of_mem _ hq)
      have hq := a q List.mem_cons_self
      obtain ⟨k, qa, qr, qx⟩ := q
      cases k with
      | yl id => cases hq
      | fn f =>
        obtain ⟨y, hy, e⟩ := Option.map_eq_some_iff.1 hq
        refine ⟨⟨.fn f, qa, qr, y⟩ :: L', fun q' hq' => ?_, fun c' hc' q' hq' => ?_⟩
        · rcases List.mem_cons.1 hq' with rfl | hq'
          · exact hy
          · exact h1 q' hq'
        · rcases List.mem_cons.1 hq' with rfl | hq'
          · have := hc' _ List.mem_cons_self
            show (c' (.fn f) qa qr).map _ = _
            rw [show c' (.fn f) qa qr = some y from this, Option.map_some, e]
          · exact h2 c' (fun q hq => hc' q (List.mem_cons_of_mem _ hq)) q' hq'
  obtain ⟨L', h1, h2⟩ := this
  exact ⟨L', h1, fun c' hc' => b _ (h2 c' hc')⟩
theorem Fs.evalPar : ∀ (l : List AIt) (s : St), Fs (fun c => evalPar P c l s)
  | [], s => Fs.const _
  | it :: r, s => by
    simp only [Go.Sim.evalPar]
    cases hd : it.d with
    | none => exact Fs.const _
    | some d =>
      simp only
      refine Fs.ite _ (Fs.bind (Fs.via (Fs.evalIt it s)) fun s1 => Fs.ite _ (Fs.evalPar r _) (Fs.const _)) (Fs.const _)
theorem Fs.evalTree (ks : List Nat) : ∀ (t : ATree) (s : St), Fs (fun c => evalTree P c ks t s)
  | .done, s => Fs.const _
  | .tell it t, s => Fs.bind (Fs.evalOps [it] s) fun s1 => Fs.evalTree ks t s1
  | .again it t, s => Fs.bind (Fs.evalOps [it] s) fun s1 => Fs.ite _ (Fs.evalTree ks t s) (Fs.const _)
  | .turn it t, s => Fs.bind (Fs.evalOps [it] s) fun s1 => Fs.evalTree ks t s1
  | .both t u, s => by
    have e : ∀ c, Go.Sim.evalTree P c ks (.both t u) s = (Go.Sim.evalTree P c ks t s).bind fun a => (Go.Sim.evalTree P c ks u s).bind fun b => if stB a b = true then some a else none := fun c => by
      rw [Go.Sim.evalTree]
      cases Go.Sim.evalTree P c ks t s <;> cases Go.Sim.evalTree P c ks u s <;> rfl
    have := Fs.bind (F := fun a c => (Go.Sim.evalTree P c ks u s).bind fun b => if stB a b = true then some a else none) (Fs.evalTree ks t s) fun a => Fs.bind (Fs.evalTree ks u s) fun b => Fs.const _
    intro c x h
    obtain ⟨L, a, b⟩ := this c x ((e c).symm.trans h)
    exact ⟨L, a, fun c' hc' => (e c').trans (b c' hc')⟩
end

/-! ### Limits -/
open Classical in
noncomputable def lim {β : Type} (g : Nat → Option β) : Option β := if h : ∃ x, ∃ n, g n = some x then some (Classical.choose h) else none
theorem lim_some {β : Type} {g : Nat → Option β} (hm : ∀ n x, g n = some x → g (n + 1) = some x) {x : β} : lim g = some x ↔ ∃ n, g n = some x := by
  have hle : ∀ k n x, g n = some x → g (n + k) = some x := by
    intro k
    induction k with
    | zero => exact fun n x h => h
    | succ k ih => exact fun n x h => hm _ _ (ih n x h)
  have huniq : ∀ n m x y, g n = some x → g m = some y → x = y := by
    intro n m x y h1 h2
    have e1 := hle m n x h1
    have e2 := hle n m y h2
    rw [Nat.add_comm] at e2
    rw [e1] at e2
    exact Option.some.inj e2
  unfold lim
  split
  · rename_i h
    obtain ⟨m, hm'⟩ := Classical.choose_spec h
    constructor
    · intro e
      exact ⟨m, by rw [← e]; exact hm'⟩
    · rintro ⟨n, hn⟩
      rw [huniq _ _ _ _ hm' hn]
  · rename_i h
    constructor
    · intro e
      cases e
    · rintro ⟨n, hn⟩
      exact absurd ⟨x, n, hn⟩ h

theorem loopE_mono {body : St → Option (Exit × St)} : ∀ {n : Nat} {s : St} {x : Exit × St}, loopE body n s = some x → loopE body (n + 1) s = some x
  | 0, s, x, h => by cases h
  | n + 1, s, x, h => by
    rw [loopE] at h ⊢
    split at h
    · exact loopE_mono h
    · exact h
/-- A loop without fuel. -/
noncomputable def loopR (body : St → Option (Exit × St)) (s : St) : Option (Exit × St) := lim fun n => loopE body n s
theorem loopR_some {body : St → Option (Exit × St)} {s : St} {x : Exit × St} : loopR body s = some x ↔ ∃ n, loopE body n s = some x := lim_some (g := fun n => loopE body n s) fun _ _ h => loopE_mono h
theorem loopR_next {body : St → Option (Exit × St)} {s s1 : St} (h : body s = some (.normal, s1)) : loopR body s = loopR body s1 := by
  apply Option.ext
  intro x
  show loopR body s = some x ↔ loopR body s1 = some x
  rw [loopR_some, loopR_some]
  constructor
  · rintro ⟨n, hn⟩
    cases n with
    | zero => cases hn
    | succ n =>
      rw [loopE, h] at hn
      exact ⟨n, hn⟩
  · rintro ⟨n, hn⟩
    refine ⟨n + 1, ?_⟩
    rw [loopE, h]
    exact hn
theorem loopR_end {body : St → Option (Exit × St)} {s s1 : St} {e : Exit} (h : body s = some (e, s1)) (he : e ≠ .normal) : loopR body s = some (e, s1) := by
  rw [loopR_some]
  refine ⟨1, ?_⟩
  rw [loopE, h]
  cases e <;> first | rfl | exact absurd rfl he

/-! ### Rows that become values, at a region's end -/
/-- Rows id, id + 1 .. (k of them) become values. -/
def frzIds : Nat → Nat → AV × List Reg → AV × List Reg
  | _, 0, p => p
  | n, k + 1, p => frzIds (n + 1) k (frz1 n p)
theorem frzIds_weak (m : Nat) : ∀ (k n : Nat) (p : AV × List Reg), Weak P m ⟨[(0, p.1)], p.2⟩ ⟨[(0, (frzIds n k p).1)], (frzIds n k p).2⟩
  | 0, _, _ => Weak.refl _ _
  | k + 1, n, p => (frz1_weak m n p).trans (frzIds_weak m k (n + 1) (frz1 n p))
/-! ### Rows that died go -/
def dnR (id x : Nat) : Nat := if id < x then x - 1 else x
def faNe (n id : Nat) : FA → Bool
  | .p _ => true
  | .ptr x _ => decide (x ≠ id) && decide (x < n)
def acNe (n id : Nat) : AC → Bool
  | .own x _ _ _ _ | .ptr x _ | .ept x _ _ _ | .hnd _ x => decide (x ≠ id) && decide (x < n)
  | .fn _ a b => a.all (faNe n id) && b.all (faNe n id)
  | _ => true
mutual
def avNe (n id : Nat) : AV → Bool
  | .c x => acNe n id x
  | .agg l => l.all (acNe n id)
  | .tup l => avsNe n id l
def avsNe (n id : Nat) : List AV → Bool
  | [] => true
  | v :: r => avNe n id v && avsNe n id r
end
def slNe (n id : Nat) : List (Nat × AV) → Bool
  | [] => true
  | p :: r => avNe n id p.2 && slNe n id r
def regNe (n id : Nat) : Reg → Bool
  | .ac l => l.all (acNe n id)
  | .es _ l => l.all (fun k => k.all (acNe n id))
  | .lp _ _ sl _ _ => slNe n id sl
  | _ => true
section
variable {ρ : Nat → Nat} {n id : Nat} (hρ : ∀ x, x ≠ id → x < n → ρ (dnR id x) = x)
include hρ
theorem backFA {x : FA} (h : faNe n id x = true) : renFA ρ (renFA (dnR id) x) = x := by
  cases x with
  | p x => rfl
  | ptr y off => simp only [faNe, Bool.and_eq_true, decide_eq_true_eq] at h; simp [renFA, hρ y h.1 h.2]
theorem backL {α : Type} {f g : α → α} {p : α → Bool} (hf : ∀ x, p x = true → f (g x) = x) : ∀ {l : List α}, l.all p = true → (l.map g).map f = l
  | [], _ => rfl
  | a :: l, h => by
    simp only [List.all_cons, Bool.and_eq_true] at h
    rw [List.map_cons, List.map_cons, hf a h.1, backL hf h.2]
theorem backAC {x : AC} (h : acNe n id x = true) : renAC ρ (renAC (dnR id) x) = x := by
  cases x with
  | own y off sz len cap => simp only [acNe, Bool.and_eq_true, decide_eq_true_eq] at h; simp [renAC, hρ y h.1 h.2]
  | ptr y off => simp only [acNe, Bool.and_eq_true, decide_eq_true_eq] at h; simp [renAC, hρ y h.1 h.2]
  | ept y sz i j => simp only [acNe, Bool.and_eq_true, decide_eq_true_eq] at h; simp [renAC, hρ y h.1 h.2]
  | hnd k y => simp only [acNe, Bool.and_eq_true, decide_eq_true_eq] at h; simp [renAC, hρ y h.1 h.2]
  | fn f a b =>
    simp only [acNe, Bool.and_eq_true] at h
    simp only [renAC]
    rw [backL hρ (fun x hx => backFA hρ hx) h.1, backL hρ (fun x hx => backFA hρ hx) h.2]
  | _ => rfl
end
mutual
theorem backAV {ρ : Nat → Nat} {n id : Nat} (hρ : ∀ x, x ≠ id → x < n → ρ (dnR id x) = x) : ∀ {v : AV}, avNe n id v = true → renAV ρ (renAV (dnR id) v) = v
  | .c x, h => by
    simp only [avNe] at h
    simp only [renAV, backAC hρ h]
  | .agg l, h => by
    simp only [avNe] at h
    simp only [renAV]
    rw [backL hρ (fun x hx => backAC hρ hx) h]
  | .tup l, h => by
    simp only [avNe] at h
    simp only [renAV, backAVs hρ h]
theorem backAVs {ρ : Nat → Nat} {n id : Nat} (hρ : ∀ x, x ≠ id → x < n → ρ (dnR id x) = x) : ∀ {l : List AV}, avsNe n id l = true → renAVs ρ (renAVs (dnR id) l) = l
  | [], _ => rfl
  | v :: r, h => by
    simp only [avsNe, Bool.and_eq_true] at h
    simp only [renAVs, backAV hρ h.1, backAVs hρ h.2]
end
theorem backSl {ρ : Nat → Nat} {n id : Nat} (hρ : ∀ x, x ≠ id → x < n → ρ (dnR id x) = x) : ∀ {l : List (Nat × AV)}, slNe n id l = true → renSl ρ (renSl (dnR id) l) = l
  | [], _ => rfl
  | (k, v) :: r, h => by
    simp only [slNe, Bool.and_eq_true] at h
    simp only [renSl, backAV hρ h.1, backSl hρ h.2]
theorem backReg {ρ : Nat → Nat} {n id : Nat} (hρ : ∀ x, x ≠ id → x < n → ρ (dnR id x) = x) {r : Reg} (h : regNe n id r = true) : renReg ρ (renReg (dnR id) r) = r := by
  cases r with
  | ac l =>
    simp only [regNe] at h
    simp only [renReg]
    rw [backL hρ (fun x hx => backAC hρ hx) h]
  | es sz l =>
    simp only [regNe] at h
    simp only [renReg]
    rw [backL hρ (fun k hk => backL hρ (fun x hx => backAC hρ hx) hk) h]
  | lp f j sl st pe =>
    simp only [regNe] at h
    simp only [renReg, backSl hρ h]
  | _ => rfl
def isDead : Option Reg → Bool
  | some .dead => true
  | _ => false
def dropSl (id : Nat) (sl : List (Nat × AV)) : List (Nat × AV) → List (Nat × AV)
  | [] => []
  | (k, v) :: r => (k, renAV (dnR id) (lkF sl k)) :: dropSl id sl r
theorem lk_ne {n id k : Nat} : ∀ {l : List (Nat × AV)}, slNe n id l = true → avNe n id (lk l k) = true
  | [], _ => by simp [lk, avNe, acNe]
  | (k', v) :: r, h => by
    simp only [slNe, Bool.and_eq_true] at h
    simp only [lk]
    split
    · exact h.1
    · exact lk_ne h.2
/-- A dead row that nothing names goes; those behind it move up. -/
def dropRow (id : Nat) (s : St) : St :=
  if (isDead s.regs[id]? && (slNe s.regs.length id s.slots && s.regs.all (regNe s.regs.length id))) = true then ⟨dropSl id s.slots s.slots, (s.regs.eraseIdx id).map (renReg (dnR id))⟩ else s
theorem dropRow_weak {n0 id : Nat} (h0 : n0 ≤ id) (s : St) : Weak P n0 s (dropRow id s) := by
  unfold dropRow
  split
  rotate_left
  · exact Weak.refl _ _
  rename_i h
  simp only [Bool.and_eq_true, List.all_eq_true] at h
  obtain ⟨hd, hs, hr⟩ := h
  have hlt : id < s.regs.length := by
    rcases Nat.lt_or_ge id s.regs.length with h | h
    · exact h
    · rw [List.getElem?_eq_none h] at hd; cases hd
  have hget : ∀ i, ((List.range s.regs.length).eraseIdx id)[i]? = if i < id then some i else if i + 1 < s.regs.length then some (i + 1) else none := by
    intro i
    rw [List.getElem?_eraseIdx]
    split
    · rw [List.getElem?_range (by omega)]
    · split
      · rename_i h; rw [List.getElem?_range h]
      · rename_i h; rw [List.getElem?_eq_none (by simpa using h)]
  have hρ : ∀ x, x ≠ id → x < s.regs.length → rhoF ((List.range s.regs.length).eraseIdx id) s.regs.length (dnR id x) = x := by
    intro x hx hx2
    simp only [rhoF, List.getD_eq_getElem?_getD, dnR, hget]
    split
    · rw [if_neg (by omega), if_pos (by omega)]
      simp; omega
    · rw [if_pos (by omega)]
      rfl
  refine Weak.ren ((List.range s.regs.length).eraseIdx id) ?_ (List.nodup_range.sublist (List.eraseIdx_sublist _ _)) (RegsOk.of_get ?_ fun i j r hi hm => ?_) ?_
  · apply List.ext_getElem?
    intro i
    rw [List.getElem?_take]
    split
    · rename_i h
      rw [hget, if_pos (by omega), List.getElem?_range h]
    · rename_i h
      rw [List.getElem?_eq_none (by simpa using h)]
  · simp [List.length_eraseIdx]
  · rw [hget] at hi
    rw [List.getElem?_map] at hm
    obtain ⟨r0, hr0, rfl⟩ := Option.map_eq_some_iff.1 hm
    rw [List.getElem?_eraseIdx] at hr0
    have hj : s.regs[j]? = some r0 := by
      split at hi
      · rename_i h
        cases hi
        rwa [if_pos h] at hr0
      · rename_i h
        split at hi
        · cases hi
          rwa [if_neg h] at hr0
        · cases hi
    rw [hj, backReg hρ (hr r0 (List.mem_of_getElem? hj))]
  · have : ∀ l : List (Nat × AV), SlotsOk s (rhoF ((List.range s.regs.length).eraseIdx id) s.regs.length) (dropSl id s.slots l) := by
      intro l
      induction l with
      | nil => trivial
      | cons p r ih => exact ⟨by rw [lkF_eq, backAV hρ (lk_ne hs)], ih⟩
    exact this s.slots
/-- All dead rows from n0 on go, the last one first. -/
def cmpS (n0 : Nat) : Nat → St → St
  | 0, s => s
  | k + 1, s => cmpS n0 k (dropRow (n0 + k) s)
theorem cmpS_weak (n0 : Nat) : ∀ (k : Nat) (s : St), Weak P n0 s (cmpS n0 k s)
  | 0, _ => Weak.refl _ _
  | k + 1, s => (dropRow_weak (Nat.le_add_right _ _) s).trans (cmpS_weak n0 k _)
def cmpP (n0 : Nat) (p : AV × List Reg) : AV × List Reg := (lkF (cmpS n0 (p.2.length - n0) ⟨[(0, p.1)], p.2⟩).slots 0, (cmpS n0 (p.2.length - n0) ⟨[(0, p.1)], p.2⟩).regs)
theorem Weak.only {n0 : Nat} (s : St) : Weak P n0 s ⟨[(0, lkF s.slots 0)], s.regs⟩ := by
  intro N w0 env0 bad0 fps base a w hn hR
  obtain ⟨⟨env, hrs, hsl, hev⟩, hsz, hdf⟩ := hR
  refine ⟨⟨env, hrs, fun n => ?_, hev⟩, hsz, hdf⟩
  rw [lkF_eq]
  simp only [lk]
  split
  · rename_i h; rw [← h]; exact hsl 0
  · exact .c trivial
theorem cmpP_weak (n : Nat) (p : AV × List Reg) : Weak P n ⟨[(0, p.1)], p.2⟩ ⟨[(0, (cmpP n p).1)], (cmpP n p).2⟩ := (cmpS_weak n _ _).trans (Weak.only _)
/-- What a function hands over: its new rows become values, or not; those that nothing points to go. -/
def finQ (n : Nat) (q : AV × List Reg) : AV × List Reg := if q.2.length = n then q else cmpP n q
theorem finQ_weak (n : Nat) (q : AV × List Reg) : Weak P n ⟨[(0, q.1)], q.2⟩ ⟨[(0, (finQ n q).1)], (finQ n q).2⟩ := by
  unfold finQ
  split
  · exact Weak.refl _ _
  · exact cmpP_weak n q
def finR (z : Bool) (n : Nat) (p : AV × List Reg) : AV × List Reg := finQ n (gcF n (bif z then frzIds n (p.2.length - n) p else p))
theorem finR_weak (z : Bool) (n : Nat) (p : AV × List Reg) : Weak P n ⟨[(0, p.1)], p.2⟩ ⟨[(0, (finR z n p).1)], (finR z n p).2⟩ := by
  unfold finR
  refine Weak.trans ?_ (finQ_weak n _)
  cases z with
  | true => exact (frzIds_weak n _ n p).trans (gcF_weak n _ _)
  | false => exact gcF_weak n _ _
def frzSl (id sz : Nat) (ls : List (List PV)) (sl : List (Nat × AV)) : List (Nat × AV) → List (Nat × AV)
  | [] => []
  | (k, v) :: r => (k, frzV id sz ls (lkF sl k)) :: frzSl id sz ls sl r
theorem frzSl_ok {id sz : Nat} {ls : List (List PV)} {s : St} : ∀ (l : List (Nat × AV)), FrzSlots id sz ls s (frzSl id sz ls s.slots l)
  | [] => trivial
  | (k, v) :: r => ⟨by rw [lkF_eq]; exact frzV_ok _, frzSl_ok r⟩
def frzSt (id : Nat) (s : St) : St :=
  match s.regs[id]? with
  | some (.pc sz ls) => if ls.length ≤ 140737488351232 then ⟨frzSl id sz ls s.slots s.slots, frzRs id sz ls 0 s.regs⟩ else s
  | _ => s
theorem frzSt_weak (n id : Nat) (s : St) : Weak P n s (frzSt id s) := by
  unfold frzSt
  split
  · rename_i sz ls hr
    split
    · rename_i hm
      exact Weak.freeze id sz ls hr hm (frzSl_ok s.slots) (frzRs_ok 0 s.regs)
    · exact Weak.refl _ _
  · exact Weak.refl _ _
def frzSlot (t : Nat) (s : St) : St :=
  match lkF s.slots t with
  | .c (.own id _ _ _ _) => frzSt id s
  | _ => s
theorem frzSlot_weak (n t : Nat) (s : St) : Weak P n s (frzSlot t s) := by
  unfold frzSlot
  split
  · exact frzSt_weak n _ s
  · exact Weak.refl _ _
def frzS : List Nat → St → St
  | [], s => s
  | t :: r, s => frzS r (frzSlot t s)
theorem frzS_weak (n : Nat) : ∀ (l : List Nat) (s : St), Weak P n s (frzS l s)
  | [], _ => Weak.refl _ _
  | t :: r, s => (frzSlot_weak n t s).trans (frzS_weak n r _)
/-- The slots that a region's end keeps; those whose rows become values. -/
def KT.ks : KT → List Nat
  | .l ks => ks
  | .n (.l ks) _ => ks
  | _ => []
def KT.fz : KT → List Nat
  | .n (.l _) (.l fz) => fz
  | .n (.l _) (.n (.l fz) _) => fz
  | _ => []
def KT.a : KT → KT
  | .n a _ => a
  | k => k
def KT.b : KT → KT
  | .n _ b => b
  | k => k
/-- Are dead rows to go? -/
def KT.cp : KT → Bool
  | .n (.l _) (.n _ _) => true
  | _ => false
def cmpK (k : KT) (n : Nat) (s : St) : St := bif k.cp then cmpS n (s.regs.length - n) s else s
theorem cmpK_weak {n : Nat} (k : KT) (s : St) : Weak P n s (cmpK k n s) := by
  unfold cmpK
  cases k.cp with
  | true => exact cmpS_weak n _ s
  | false => exact Weak.refl _ _
def endS (n : Nat) (k : KT) (s : St) : St := cmpK k n (frzS k.fz (keepS k.ks s))
theorem endS_weak {n : Nat} (k : KT) (s : St) : Weak P n s (endS n k s) := ((Weak.keep k.ks).trans (frzS_weak n _ _)).trans (cmpK_weak k _)

/-- How a loop over a function ends. -/
def lpEnd (f j : Nat) (s : St) (rg : List Reg) : Option (Exit × St) :=
  match rg[s.regs.length]? with
  | some (.lp f' j' _ st pe) => if f' = f ∧ j' = j ∧ st ≠ .busy then (match pe with
      | none => some (.normal, ⟨s.slots, rg.set s.regs.length .dead⟩)
      | some .ret => some (.ret, ⟨s.slots, rg.set s.regs.length .dead⟩)
      | some (.exit i) => some (.exit i, ⟨s.slots, rg.set s.regs.length .dead⟩)) else none
  | _ => none
/-- A loop over a function: whom it calls, with what. -/
def lpCall (call : CallF) (f j : Nat) (s : St) : AV → Option (AV × List Reg)
  | .c (.fn (.func gf) fa ca) => call (.fn gf) (fa.map avFA ++ [.c (.hnd .yl s.regs.length)] ++ ca.map avFA) (s.regs ++ [.lp f j s.slots .ready none])
  | _ => none
abbrev LoopF := (St → Option (Exit × St)) → St → Option (Exit × St)
/-- A text's run; lp: how a loop is run; rd: in a round. -/
def evalG (P : Program) (lp : LoopF) (call : CallF) (rd : Bool) (n0 : Nat) : ACode → KT → St → Option (Exit × St)
  | .skip, _, s => some (.normal, s)
  | .reg l, k, s => (evalOps P call l s).map fun s1 => (.normal, endS n0 k s1)
  | .any t, k, s => (evalTree P call k.ks t s).map fun s1 => (.normal, cmpK k n0 (frzS k.fz s1))
  | .par a b, k, s => ((evalPar P call a s).bind (evalOps P call b)).map fun s1 => (.normal, endS n0 k s1)
  | .seq a b, k, s => (evalG P lp call rd n0 a k.a s).bind fun x => match x.1 with
    | .normal => evalG P lp call rd n0 b k.b x.2
    | e => some (e, x.2)
  | .cond c a b, k, s => (boolOf (evF s c)).bind fun t => if t = true then evalG P lp call rd n0 a k.a s else evalG P lp call rd n0 b k.b s
  | .block id c, k, s => (evalG P lp call rd n0 c k s).map fun x => match x.1 with
    | .exit i => if i = id then (.normal, x.2) else (.exit i, x.2)
    | e => (e, x.2)
  | .loop c, k, s => lp (evalG P lp call rd n0 c k) s
  | .rfun g f j, k, s => if rd = true then none else (lpCall call f j s (evF s g)).bind fun p => lpEnd f j s p.2
  | .exit id, _, s => some (.exit id, s)
  | .ret, _, s => some (.ret, s)
  | .stuck, _, _ => none

section
variable {P : Program} {call : CallF} {rd : Bool} {n0 : Nat}
theorem Fs.loopE {B : CallF → St → Option (Exit × St)} (hB : ∀ s, Fs fun c => B c s) : ∀ (n : Nat) (s : St), Fs fun c => loopE (B c) n s
  | 0, s => Fs.const _
  | n + 1, s => by
    have := Fs.bind (F := fun x c => match x.1 with | .normal => Go.Sim.loopE (B c) n x.2 | e => some (e, x.2)) (hB s) fun x => by
      obtain ⟨e, s1⟩ := x
      cases e with
      | normal => exact Fs.loopE hB n s1
      | _ => exact Fs.const _
    have e : ∀ c, Go.Sim.loopE (B c) (n + 1) s = (B c s).bind fun x => match x.1 with | .normal => Go.Sim.loopE (B c) n x.2 | e => some (e, x.2) := by
      intro c
      rw [Go.Sim.loopE]
      cases hb : B c s with
      | none => rfl
      | some x =>
        obtain ⟨e, s1⟩ := x
        cases e <;> rfl
    intro c x h
    obtain ⟨L, a, b⟩ := this c x ((e c).symm.trans h)
    exact ⟨L, a, fun c' hc' => (e c').trans (b c' hc')⟩
theorem Fs.lpCall (f j : Nat) (s : St) (v : AV) : Fs fun c => lpCall c f j s v := by
  unfold Go.Sim.lpCall
  split
  · exact Fs.call _ _ _
  · exact Fs.const _
theorem Fs.evalG : ∀ (c : ACode) (k : KT) (s : St), Fs fun call => evalG P loopR call rd n0 c k s
  | .skip, _, s => Fs.const _
  | .reg l, k, s => Fs.map _ (Fs.evalOps l s)
  | .any t, k, s => Fs.map _ (Fs.evalTree _ t s)
  | .par a b, k, s => Fs.map _ (Fs.bind (Fs.evalPar a s) fun s1 => Fs.evalOps b s1)
  | .seq a b, k, s => Fs.bind (Fs.evalG a k.a s) fun x => by
    obtain ⟨e, s1⟩ := x
    cases e with
    | normal => exact Fs.evalG b k.b s1
    | _ => exact Fs.const _
  | .cond c a b, k, s => by
    simp only [Go.Sim.evalG]
    cases boolOf (evF s c) with
    | none => exact Fs.const _
    | some t => exact Fs.ite _ (Fs.evalG a k.a s) (Fs.evalG b k.b s)
  | .block id c, k, s => Fs.map _ (Fs.evalG c k s)
  | .loop c, k, s => by
    intro call x h
    simp only [Go.Sim.evalG] at h ⊢
    obtain ⟨n, hn⟩ := loopR_some.1 h
    obtain ⟨L, a, b⟩ := Fs.loopE (B := fun call s => Go.Sim.evalG P loopR call rd n0 c k s) (fun s => Fs.evalG c k s) n s call x hn
    exact ⟨L, a, fun c' hc' => loopR_some.2 ⟨n, b c' hc'⟩⟩
  | .rfun g f j, k, s => by
    simp only [Go.Sim.evalG]
    exact Fs.ite _ (Fs.const _) (Fs.bind (Fs.lpCall f j s _) fun p => Fs.const _)
  | .exit id, _, s => Fs.const _
  | .ret, _, s => Fs.const _
  | .stuck, _, s => Fs.const _

/-- Loops are run as loops. -/
def LpOk (lp : LoopF) : Prop := ∀ (body : St → Option (Exit × St)) (s : St) (x : Exit × St), lp body s = some x → ∃ n, loopE body n s = some x
theorem LpOk.R : LpOk loopR := fun _ _ _ h => loopR_some.1 h
theorem LpOk.E (n : Nat) : LpOk fun b s => loopE b n s := fun _ _ _ h => ⟨n, h⟩

theorem evalG_W {lp : LoopF} (hlp : LpOk lp) (hcall : CallOk P call) {ro : Option Nat} (hrd : rd = false → ro = none) : ∀ (ac : ACode) (k : KT) (s s' : St) (e : Exit), evalG P lp call rd n0 ac k s = some (e, s') → codeW P n0 ro ac (fun e1 s1 => e1 = e ∧ Weak P n0 s1 s') s := by
  intro ac
  induction ac with
  | skip =>
    intro k s s' e h
    simp only [evalG] at h
    cases h
    exact codeW_skip ⟨rfl, Weak.refl _ _⟩
  | reg l =>
    intro k s s' e h
    simp only [evalG] at h
    obtain ⟨s1, h1, h2⟩ := Option.map_eq_some_iff.1 h
    cases h2
    exact codeW_reg (evalOps_W hcall h1 ⟨rfl, endS_weak k s1⟩)
  | any t =>
    intro k s s' e h
    simp only [evalG] at h
    obtain ⟨s1, h1, h2⟩ := Option.map_eq_some_iff.1 h
    cases h2
    refine codeW_mono (Q := fun e1 s2 => e1 = .normal ∧ Weak P n0 s2 s1) (codeW_any fun ho => ?_) fun e1 s2 hs => ⟨hs.1, (hs.2.trans (frzS_weak n0 _ _)).trans (cmpK_weak k _)⟩
    have := evalTree_W (n0 := n0) hcall ho h1
    simpa using this
  | par a b =>
    intro k s s' e h
    simp only [evalG] at h
    obtain ⟨s2, h1, h2⟩ := Option.map_eq_some_iff.1 h
    cases h2
    obtain ⟨s1, h3, h4⟩ := Option.bind_eq_some_iff.1 h1
    exact codeW_par (evalPar_W hcall h3 (evalOps_W hcall h4 ⟨rfl, endS_weak k s2⟩))
  | seq a b iha ihb =>
    intro k s s' e h
    simp only [evalG] at h
    obtain ⟨⟨e1, s1⟩, h1, h2⟩ := Option.bind_eq_some_iff.1 h
    refine codeW_seq fun K hK => codeW_mono (iha _ _ _ _ h1) fun e2 t ht => ?_
    obtain ⟨rfl, hw⟩ := ht
    cases e2 with
    | normal => exact hK t (codeW_weak hw (ihb _ _ _ _ h2))
    | _ => cases h2; exact ⟨rfl, hw⟩
  | cond c a b iha ihb =>
    intro k s s' e h
    simp only [evalG, evF_eq] at h
    obtain ⟨t, ht, h2⟩ := Option.bind_eq_some_iff.1 h
    split at h2
    · rename_i hc
      subst hc
      exact codeW_cond ht (fun _ => iha _ _ _ _ h2) (fun h => by cases h)
    · rename_i hc
      have : t = false := by simpa using hc
      subst this
      exact codeW_cond ht (fun h => by cases h) (fun _ => ihb _ _ _ _ h2)
  | block id c ih =>
    intro k s s' e h
    simp only [evalG] at h
    obtain ⟨⟨e1, s1⟩, h1, h2⟩ := Option.map_eq_some_iff.1 h
    refine codeW_block (codeW_mono (ih _ _ _ _ h1) fun e2 t ht => ?_)
    obtain ⟨rfl, hw⟩ := ht
    cases e2 with
    | exit i =>
      simp only [AIn]
      by_cases hi : i = id
      · simp only [if_pos hi] at h2 ⊢
        cases h2
        exact ⟨rfl, hw⟩
      · simp only [if_neg hi] at h2 ⊢
        cases h2
        exact ⟨rfl, hw⟩
    | _ => cases h2; exact ⟨rfl, hw⟩
  | loop c ih =>
    intro k s s' e h
    simp only [evalG] at h
    obtain ⟨n, hn⟩ := hlp _ _ _ h
    refine codeW_loop (fun m s => loopE (evalG P lp call rd n0 c k) m s = some (e, s')) n hn fun n s hn K hK => ?_
    cases n with
    | zero => cases hn
    | succ n =>
      simp only [loopE] at hn
      split at hn
      · rename_i s1 h1
        refine codeW_mono (ih _ _ _ _ h1) fun e1 t ht => ?_
        obtain ⟨rfl, hw⟩ := ht
        exact hK t ⟨n, s1, Nat.lt_succ_self _, hw, hn⟩
      · rename_i r hne
        refine codeW_mono (ih _ _ _ _ hn) fun e1 t ht => ?_
        obtain ⟨rfl, hw⟩ := ht
        cases e1 with
        | normal => exact absurd hn (hne s')
        | _ => exact ⟨rfl, hw⟩
  | rfun g f j =>
    intro k s s' e h
    simp only [evalG, evF_eq] at h
    split at h
    · cases h
    · rename_i hr
      have : ro = none := hrd (by simpa using hr)
      subst this
      obtain ⟨⟨r, rg⟩, h1, h2⟩ := Option.bind_eq_some_iff.1 h
      unfold lpCall at h1
      split at h1
      · rename_i gf fa ca hg
        refine codeW_rfun hg ((hcall.fn _ _ _ _ _ h1).mono fun r' rg' hrr => ?_)
        obtain ⟨rfl, rfl⟩ := hrr
        unfold lpEnd at h2
        split at h2
        · rename_i f' j' sl st pe hl
          split at h2
          · rename_i hc
            obtain ⟨rfl, rfl, hst⟩ := hc
            refine ⟨sl, st, pe, hl, hst, ?_⟩
            split at h2
            · cases h2; exact ⟨rfl, Weak.refl _ _⟩
            · cases h2; exact ⟨rfl, Weak.refl _ _⟩
            · cases h2; exact ⟨rfl, Weak.refl _ _⟩
          · cases h2
        · cases h2
      · cases h1
  | exit id =>
    intro k s s' e h
    simp only [evalG] at h
    cases h
    exact codeW_exit ⟨rfl, Weak.refl _ _⟩
  | ret =>
    intro k s s' e h
    simp only [evalG] at h
    cases h
    exact codeW_ret ⟨rfl, Weak.refl _ _⟩
  | stuck =>
    intro k s s' e h
    simp only [evalG, reduceCtorEq] at h
end

/-! ### A program's functions -/
/-- A program, its codes' table, its loops', functions that are told apart, and whose new rows become values. -/
structure Book where
  P : Program
  T : List (Option (FnT × KT))
  L : Nat → Nat → Option LpT
  O : CallF
  Z : Nat → Bool
structure Book.Ok (B : Book) : Prop where
  tab : TabOk B.P 0 B.T
  lps : ∀ f j q, B.L f j = some q → trLp B.P f j = some (q.N, q.ps, q.as, q.bd)
  orc : CallOk B.P B.O

/-- How a text ends. -/
def endR (z : Bool) (n : Nat) (res : List RV) (x : Exit × St) : Option (AV × List Reg) :=
  match x.1 with
  | .normal | .ret => (allOf (resOne x.2) res).map fun vs => finR z n (packR vs, x.2.regs)
  | _ => none
/-- How a round ends. -/
def roundEnd (id f j : Nat) (x : Exit × St) : Option (AV × List Reg) :=
  match x.2.regs[id]? with
  | some (.lp f' j' sl .busy none) => if f' = f ∧ j' = j then (match x.1 with
      | .normal => some (.c (.p (.v (.bool true))), x.2.regs.set id (.lp f j sl .ready none))
      | .ret => some (.c (.p (.v (.bool false))), x.2.regs.set id (.lp f j sl .done (some .ret)))
      | .exit i => some (.c (.p (.v (.bool false))), x.2.regs.set id (.lp f j sl .done (some (.exit i))))
      | _ => none) else none
  | _ => none
def roundMid (id f j : Nat) (x : Exit × St) : Option St :=
  match x.1, x.2.regs[id]? with
  | .normal, some (.lp f' j' sl .ready none) => if f' = f ∧ j' = j then some ⟨x.2.slots, x.2.regs.set id (.lp f j sl .busy none)⟩ else none
  | _, _ => none
/-- A round. -/
def Book.round (B : Book) (lp : LoopF) (call : CallF) (id : Nat) (args : List AV) (regs : List Reg) : Option Reg → Option (AV × List Reg)
  | some (.lp f j sl .ready none) => (B.L f j).bind fun q => if q.ps.length = args.length then ((evalG B.P lp call true regs.length q.as q.ka ⟨parSl q.ps args sl, regs⟩).bind (roundMid id f j)).bind fun s => (evalG B.P lp call true regs.length q.bd q.kb s).bind (roundEnd id f j) else none
  | _ => none
def Book.body (B : Book) (lp : LoopF) (call : CallF) : CallF := fun k args regs => match B.O k args regs with
  | some r => some r
  | none => match k with
    | .fn f => match B.T[f]? with
      | some (some (t, kt)) => if args.length ≤ t.nt then (evalG B.P lp call false regs.length t.code kt ⟨argSlots 0 args, regs⟩).bind (endR (B.Z f) regs.length t.res) else none
      | _ => none
    | .yl id => B.round lp call id args regs regs[id]?
noncomputable def Book.lvl (B : Book) : Nat → CallF
  | 0 => fun _ _ _ => none
  | n + 1 => B.body loopR (B.lvl n)
/-- The same with fuel: to be reckoned. -/
def Book.evalK (B : Book) (fuel : Nat) : Nat → CallF
  | 0 => fun _ _ _ => none
  | n + 1 => B.body (fun b s => loopE b fuel s) (B.evalK fuel n)
/-- WHAT A FUNCTION TELLS. -/
noncomputable def Book.run (B : Book) : CallF := fun k args regs => lim fun n => B.lvl n k args regs

variable {B : Book}
theorem Fs.body (k : CK) (args : List AV) (regs : List Reg) : Fs fun call => B.body loopR call k args regs := by
  unfold Book.body
  cases B.O k args regs with
  | some r => exact Fs.const _
  | none =>
    cases k with
    | fn f =>
      simp only
      split
      · exact Fs.ite _ (Fs.bind (Fs.evalG _ _ _) fun x => Fs.const _) (Fs.const _)
      · exact Fs.const _
    | yl id =>
      simp only
      unfold Book.round
      split
      · rename_i f j sl hr
        cases B.L f j with
        | none => exact Fs.const _
        | some q => exact Fs.ite _ (Fs.bind (Fs.bind (Fs.evalG _ _ _) fun x => Fs.const _) fun s => Fs.bind (Fs.evalG _ _ _) fun x => Fs.const _) (Fs.const _)
      · exact Fs.const _
theorem Book.lvl_mono : ∀ (n : Nat) (k : CK) (args : List AV) (regs : List Reg) (x : AV × List Reg), B.lvl n k args regs = some x → B.lvl (n + 1) k args regs = some x
  | 0, k, args, regs, x, h => by cases h
  | n + 1, k, args, regs, x, h => Fs.mono (Fs.body k args regs) (fun f a r x h => Book.lvl_mono n f a r x h) h
theorem Book.run_some {k : CK} {args : List AV} {regs : List Reg} {x : AV × List Reg} : B.run k args regs = some x ↔ ∃ n, B.lvl n k args regs = some x := lim_some fun n x h => Book.lvl_mono n k args regs x h
theorem Book.lvl_le {n m : Nat} {k : CK} {args : List AV} {regs : List Reg} {x : AV × List Reg} (h : B.lvl n k args regs = some x) : B.lvl (n + m) k args regs = some x := by
  induction m with
  | zero => exact h
  | succ m ih => exact Book.lvl_mono _ _ _ _ _ ih
theorem Book.run_eq (k : CK) (args : List AV) (regs : List Reg) : B.run k args regs = B.body loopR B.run k args regs := by
  apply Option.ext
  intro x
  show B.run k args regs = some x ↔ B.body loopR B.run k args regs = some x
  constructor
  · intro h
    obtain ⟨n, hn⟩ := Book.run_some.1 h
    cases n with
    | zero => cases hn
    | succ n => exact Fs.mono (Fs.body k args regs) (fun f a r x h => Book.run_some.2 ⟨n, h⟩) hn
  · intro h
    obtain ⟨L, a, b⟩ := Fs.body k args regs B.run x h
    have : ∃ n, ∀ q ∈ L, q.ok (B.lvl n) := by
      clear b h
      induction L with
      | nil => exact ⟨0, fun q hq => by simp at hq⟩
      | cons q L ih =>
        obtain ⟨n, hn⟩ := ih fun q hq => a q (List.mem_cons_of_mem _ hq)
        obtain ⟨m, hm⟩ := Book.run_some.1 (a q List.mem_cons_self)
        refine ⟨n + m, fun q' hq' => ?_⟩
        rcases List.mem_cons.1 hq' with rfl | hq'
        · rw [Nat.add_comm]; exact Book.lvl_le hm
        · exact Book.lvl_le (hn q' hq')
    obtain ⟨n, hn⟩ := this
    exact Book.run_some.2 ⟨n + 1, b _ hn⟩
/-- A function's own equation. -/
theorem Book.run_fn {f : Nat} {t : FnT} {kt : KT} (hT : B.T[f]? = some (some (t, kt))) {args : List AV} {regs : List Reg} (hO : B.O (.fn f) args regs = none) (hl : args.length ≤ t.nt) :
    B.run (.fn f) args regs = (evalG B.P loopR B.run false regs.length t.code kt ⟨argSlots 0 args, regs⟩).bind (endR (B.Z f) regs.length t.res) := by
  rw [Book.run_eq]
  unfold Book.body
  simp only [hO, hT, if_pos hl]
theorem Book.run_or {k : CK} {args : List AV} {regs : List Reg} {x : AV × List Reg} (hO : B.O k args regs = some x) : B.run k args regs = some x := by
  rw [Book.run_eq]
  unfold Book.body
  simp only [hO]
/-- A round's own equation. -/
theorem Book.run_yl {id f j : Nat} {sl : List (Nat × AV)} {q : LpT} {args : List AV} {regs : List Reg} (hr : regs[id]? = some (.lp f j sl .ready none)) (hL : B.L f j = some q) (hO : B.O (.yl id) args regs = none) (hl : q.ps.length = args.length) :
    B.run (.yl id) args regs = ((evalG B.P loopR B.run true regs.length q.as q.ka ⟨parSl q.ps args sl, regs⟩).bind (roundMid id f j)).bind fun s => (evalG B.P loopR B.run true regs.length q.bd q.kb s).bind (roundEnd id f j) := by
  rw [Book.run_eq]
  unfold Book.body
  simp only [hO, hr, Book.round, hL, Option.bind_some, if_pos hl]

theorem Book.body_ok (hB : B.Ok) {lp : LoopF} (hlp : LpOk lp) {call : CallF} (hcall : CallOk B.P call) : CallOk B.P (B.body lp call) := by
  refine ⟨fun f args regs r rg h => ?_, fun id args regs r rg h => ?_⟩
  · simp only [Book.body] at h
    split at h
    · rename_i p hp
      cases h
      exact hB.orc.fn _ _ _ _ _ hp
    · split at h
      rotate_left
      · cases h
      rename_i t kt ht
      have hf := hB.tab.get ht
      rw [Nat.zero_add] at hf
      obtain ⟨fn, hfn, hf2⟩ := Option.bind_eq_some_iff.1 hf
      split at hf2
      rotate_left
      · cases hf2
      rename_i hname
      obtain ⟨c, hb, hf3⟩ := Option.bind_eq_some_iff.1 hf2
      obtain ⟨ac, htr, hf4⟩ := Option.bind_eq_some_iff.1 hf3
      obtain ⟨rs, hrs, rfl⟩ := Option.map_eq_some_iff.1 hf4
      split at h
      rotate_left
      · cases h
      rename_i hc
      obtain ⟨⟨e, s'⟩, he, h⟩ := Option.bind_eq_some_iff.1 h
      have hex : (e = .normal ∨ e = .ret) ∧ ∃ vs, allOf (resOne s') rs = some vs ∧ finR (B.Z f) regs.length (packR vs, s'.regs) = (r, rg) := by
        cases e with
        | normal => exact ⟨.inl rfl, Option.map_eq_some_iff.1 h⟩
        | ret => exact ⟨.inr rfl, Option.map_eq_some_iff.1 h⟩
        | _ => cases h
      obtain ⟨hne, vs, hvs, hg⟩ := hex
      have h1 : FS B.P f args regs fun r' rg' => r' = packR vs ∧ rg' = s'.regs := by
        refine FS_of2 hfn hname hb rs hrs htr hc (codeW_mono (evalG_W hlp hcall (fun _ => rfl) ac kt _ s' e he) fun e1 s1 hs => ?_)
        obtain ⟨rfl, hw⟩ := hs
        exact Fin2.weak hne hw hvs ⟨rfl, rfl⟩
      refine h1.post fun res rg' hr => ?_
      obtain ⟨rfl, rfl⟩ := hr
      have hw := finR_weak (P := B.P) (B.Z f) regs.length (packR vs, s'.regs)
      rw [hg] at hw
      exact ⟨r, rg, hw, rfl, rfl⟩
  · simp only [Book.body] at h
    split at h
    · rename_i p hp
      cases h
      exact hB.orc.yl _ _ _ _ _ hp
    · unfold Book.round at h
      split at h
      rotate_left
      · cases h
      rename_i f j sl hr
      obtain ⟨q, hq, h⟩ := Option.bind_eq_some_iff.1 h
      have htl := hB.lps f j q hq
      obtain ⟨⟨L, N⟩, hL, htl⟩ := Option.bind_eq_some_iff.1 htl
      obtain ⟨x, hx, htl⟩ := Option.bind_eq_some_iff.1 htl
      obtain ⟨y, hy, htl⟩ := Option.bind_eq_some_iff.1 htl
      split at htl
      rotate_left
      · cases htl
      rename_i hc
      simp only [Bool.and_eq_true, List.all_eq_true, decide_eq_true_eq] at hc
      obtain ⟨c1, c2, c3⟩ := hc
      injection htl with htl
      injection htl with e1 htl
      injection htl with e2 htl
      injection htl with e3 e4
      split at h
      rotate_left
      · cases h
      rename_i hlen
      obtain ⟨s2, h1, h2⟩ := Option.bind_eq_some_iff.1 h
      obtain ⟨⟨ex1, s1⟩, h3, h4⟩ := Option.bind_eq_some_iff.1 h1
      obtain ⟨⟨ex2, s3⟩, h5, h6⟩ := Option.bind_eq_some_iff.1 h2
      refine YS_of hr hL (by rw [e2]; exact hlen) c3 hx c1 hy c2 fun l => ?_
      rw [e2, e3]
      refine codeW_mono (evalG_W hlp hcall (ro := some l) (fun h => by cases h) _ _ _ _ _ h3) fun e t ht => ?_
      obtain ⟨rfl, hw⟩ := ht
      refine ⟨s1, hw, ?_⟩
      unfold roundMid at h4
      split at h4
      rotate_left
      · cases h4
      rename_i he hsl1
      split at h4
      rotate_left
      · cases h4
      rename_i hfj
      obtain ⟨rfl, rfl⟩ := hfj
      injection h4 with h4
      simp only at he hsl1
      subst he
      refine ⟨_, hsl1, ?_⟩
      simp only at h4
      rw [h4, e4]
      refine codeW_mono (evalG_W hlp hcall (ro := some l) (fun h => by cases h) _ _ _ _ _ h5) fun e t2 ht2 => ?_
      obtain ⟨rfl, hw2⟩ := ht2
      refine ⟨s3, hw2, ?_⟩
      unfold roundEnd at h6
      split at h6
      rotate_left
      · cases h6
      rename_i hsl2
      split at h6
      rotate_left
      · cases h6
      rename_i hfj
      obtain ⟨rfl, rfl⟩ := hfj
      simp only at h6 hsl2
      cases e with
      | normal => cases h6; exact ⟨_, hsl2, rfl, rfl⟩
      | ret => cases h6; exact ⟨_, hsl2, rfl, rfl⟩
      | exit i => cases h6; exact ⟨_, hsl2, rfl, rfl⟩
      | _ => cases h6
theorem Book.lvl_ok (hB : B.Ok) : ∀ n, CallOk B.P (B.lvl n)
  | 0 => ⟨fun _ _ _ _ _ h => (by cases h), fun _ _ _ _ _ h => (by cases h)⟩
  | n + 1 => Book.body_ok hB LpOk.R (Book.lvl_ok hB n)
theorem Book.evalK_ok (hB : B.Ok) (fuel : Nat) : ∀ n, CallOk B.P (B.evalK fuel n)
  | 0 => ⟨fun _ _ _ _ _ h => (by cases h), fun _ _ _ _ _ h => (by cases h)⟩
  | n + 1 => Book.body_ok hB (LpOk.E fuel) (Book.evalK_ok hB fuel n)
theorem Book.run_FS (hB : B.Ok) {f : Nat} {args : List AV} {regs : List Reg} {r : AV} {rg : List Reg} (h : B.run (.fn f) args regs = some (r, rg)) : FS B.P f args regs fun r' rg' => r' = r ∧ rg' = rg := by
  obtain ⟨n, hn⟩ := Book.run_some.1 h
  exact (Book.lvl_ok hB n).fn f args regs r rg hn
end Go.Sim
