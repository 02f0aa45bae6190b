/- A program's functions, run over the picture. Of no program. -/
import Derived.Test.YtahoelmjfgoedaaGreatSimX
namespace Go.Sim
open Go.RowKit Go.Proofs.YtahoelmjfgoedaaGreat.B
variable {P : Program}
set_option linter.unusedVariables false
set_option linter.unusedSectionVars false
set_option linter.unusedVariables false
set_option linter.unusedSectionVars false

/-- Which slots are kept behind each region. -/
inductive KT where
  | l (ks : List Nat)
  | n (a b : KT)
def fN {α : Type} (m : Nat) (K : Nat → α) : α := Nat.casesOn m (K 0) fun m' => K (m' + 1)
theorem fN_eq {α : Type} (m : Nat) (K : Nat → α) : fN m K = K m := by cases m <;> rfl
def fI {α : Type} (n : Int) (K : Int → α) : α := Int.casesOn n (fun m => fN m fun m => K (.ofNat m)) (fun m => fN m fun m => K (.negSucc m))
theorem fI_eq {α : Type} (n : Int) (K : Int → α) : fI n K = K n := by
  cases n with
  | ofNat m => exact fN_eq m fun m => K (.ofNat m)
  | negSucc m => exact fN_eq m fun m => K (.negSucc m)
/-- A value, reckoned. -/
def fV {α : Type} (v : AV) (K : AV → α) : α :=
  match v with
  | .c (.p (.v (.int k n))) => fI n fun n => K (.c (.p (.v (.int k n))))
  | .c x => K (.c x)
  | .agg l => K (.agg l)
  | .tup l => K (.tup l)
theorem fV_eq {α : Type} (v : AV) (K : AV → α) : fV v K = K v := by
  unfold fV
  split
  · exact fI_eq _ _
  · rfl
  · rfl
  · rfl
def keepGo (s : St) : List Nat → List (Nat × AV) → St
  | [], acc => ⟨acc, s.regs⟩
  | k :: r, acc => fV (lkF s.slots k) fun v => keepGo s r ((k, v) :: acc)
def keepS (ks : List Nat) (s : St) : St := keepGo s ks []
theorem keepGo_ok {s : St} : ∀ {ks : List Nat} {acc : List (Nat × AV)}, (∀ n, lk acc n = lk s.slots n ∨ lk acc n = .c .any) → (keepGo s ks acc).regs = s.regs ∧ ∀ n, lk (keepGo s ks acc).slots n = lk s.slots n ∨ lk (keepGo s ks acc).slots n = .c .any
  | [], acc, h => ⟨rfl, h⟩
  | k :: r, acc, h => by
    simp only [keepGo, fV_eq, lkF_eq]
    refine keepGo_ok fun n => ?_
    rw [show lk ((k, lk s.slots k) :: acc) n = if k = n then lk s.slots k else lk acc n from rfl]
    by_cases e : k = n
    · rw [if_pos e, e]
      exact .inl rfl
    · rw [if_neg e]
      exact h n
theorem Weak.keep {n0 : Nat} {s : St} (ks : List Nat) : Weak P n0 s (keepS ks s) := by
  intro N w0 env0 bad0 fps base a w _ hR
  obtain ⟨h1, h2⟩ := keepGo_ok (s := s) (ks := ks) (acc := []) fun n => .inr rfl
  obtain ⟨⟨env, hrs, hsl, hev⟩, hsz, hdf⟩ := hR
  refine ⟨⟨env, by rw [keepS, h1]; exact hrs, fun n => ?_, by rw [keepS, h1]; exact hev⟩, hsz, hdf⟩
  rw [keepS, h1]
  rcases h2 n with e | e
  · rw [e]; exact hsl n
  · rw [e]; exact .c trivial

def valB : Value → Value → Bool
  | .bool a, .bool b => a == b
  | .int k a, .int k' b => decide (k = k') && decide (a = b)
  | .string a, .string b => a.data.toList == b.data.toList
  | .nilFunc, .nilFunc | .nilIface, .nilIface => true
  | .pointer none, .pointer none | .slice none 0 0, .slice none 0 0 | .map none, .map none | .chan none, .chan none => true
  | _, _ => false
theorem valB_eq {a b : Value} (h : valB a b = true) : a = b := by
  unfold valB at h
  split at h
  · simp at h; rw [h]
  · simp at h; rw [h.1, h.2]
  · rename_i x y
    obtain ⟨⟨x⟩⟩ := x
    obtain ⟨⟨y⟩⟩ := y
    have : x = y := by simpa using h
    rw [this]
  all_goals first | rfl | cases h
mutual
def pvB : PV → PV → Bool
  | .v a, .v b => valB a b
  | .sl n l, .sl m k => (n == m) && rowsB l k
  | _, _ => false
def rowsB : List (List PV) → List (List PV) → Bool
  | [], [] => true
  | a :: l, b :: m => rowB a b && rowsB l m
  | _, _ => false
def rowB : List PV → List PV → Bool
  | [], [] => true
  | a :: l, b :: m => pvB a b && rowB l m
  | _, _ => false
end
mutual
theorem pvB_eq : ∀ {a b : PV}, pvB a b = true → a = b
  | .v a, .v b, h => by
    simp only [pvB] at h
    rw [valB_eq h]
  | .sl n l, .sl m k, h => by
    simp only [pvB, Bool.and_eq_true, beq_iff_eq] at h
    rw [h.1, rowsB_eq h.2]
  | .v _, .sl _ _, h => by simp [pvB] at h
  | .sl _ _, .v _, h => by simp [pvB] at h
theorem rowsB_eq : ∀ {a b : List (List PV)}, rowsB a b = true → a = b
  | [], [], _ => rfl
  | a :: l, b :: m, h => by
    simp only [rowsB, Bool.and_eq_true] at h
    rw [rowB_eq h.1, rowsB_eq h.2]
  | [], _ :: _, h => by simp [rowsB] at h
  | _ :: _, [], h => by simp [rowsB] at h
theorem rowB_eq : ∀ {a b : List PV}, rowB a b = true → a = b
  | [], [], _ => rfl
  | a :: l, b :: m, h => by
    simp only [rowB, Bool.and_eq_true] at h
    rw [pvB_eq h.1, rowB_eq h.2]
  | [], _ :: _, h => by simp [rowB] at h
  | _ :: _, [], h => by simp [rowB] at h
end
def capB : Cap → Cap → Bool
  | .free, .free => true
  | .ex a, .ex b => a == b
  | .unk, .unk => true
  | _, _ => false
theorem capB_eq {a b : Cap} (h : capB a b = true) : a = b := by
  cases a <;> cases b <;> simp_all [capB]
def faB : FA → FA → Bool
  | .p a, .p b => pvB a b
  | .ptr a b, .ptr a' b' => (a == a') && (b == b')
  | _, _ => false
theorem faB_eq {a b : FA} (h : faB a b = true) : a = b := by
  cases a <;> cases b <;> simp only [faB, Bool.and_eq_true, beq_iff_eq, Bool.false_eq_true] at h
  · rw [pvB_eq h]
  · obtain ⟨rfl, rfl⟩ := h
    rfl
def listB {α : Type} (f : α → α → Bool) : List α → List α → Bool
  | [], [] => true
  | a :: l, b :: m => f a b && listB f l m
  | _, _ => false
theorem listB_eq {α : Type} {f : α → α → Bool} (hf : ∀ {a b}, f a b = true → a = b) : ∀ {l m : List α}, listB f l m = true → l = m
  | [], [], _ => rfl
  | a :: l, b :: m, h => by
    simp only [listB, Bool.and_eq_true] at h
    rw [hf h.1, listB_eq hf h.2]
  | [], _ :: _, h => by simp [listB] at h
  | _ :: _, [], h => by simp [listB] at h
def fnB : Fn → Fn → Bool
  | .func a, .func b => a == b
  | _, _ => false
theorem fnB_eq {a b : Fn} (h : fnB a b = true) : a = b := by
  cases a <;> cases b <;> simp_all [fnB]
def acB : AC → AC → Bool
  | .fn f a b, .fn f' a' b' => fnB f f' && (listB faB a a' && listB faB b b')
  | .hnd a b, .hnd a' b' => (decide (a = a')) && (b == b')
  | .p a, .p b => pvB a b
  | .tight n l, .tight m k => (n == m) && rowsB l k
  | .own a b c d e, .own a' b' c' d' e' => (a == a') && ((b == b') && ((c == c') && ((d == d') && capB e e')))
  | .ptr a b, .ptr a' b' => (a == a') && (b == b')
  | .ept a b c d, .ept a' b' c' d' => (a == a') && ((b == b') && ((c == c') && (d == d')))
  | .rp l, .rp k => rowB l k
  | .any, .any => true
  | _, _ => false
theorem acB_eq {a b : AC} (h : acB a b = true) : a = b := by
  cases a <;> cases b <;> simp only [acB, Bool.and_eq_true, beq_iff_eq, Bool.false_eq_true] at h
  · rw [pvB_eq h]
  · rw [h.1, rowsB_eq h.2]
  · obtain ⟨rfl, rfl, rfl, rfl, h⟩ := h
    rw [capB_eq h]
  · obtain ⟨rfl, rfl⟩ := h
    rfl
  · obtain ⟨rfl, rfl, rfl, rfl⟩ := h
    rfl
  · rw [rowB_eq h]
  · rw [fnB_eq h.1, listB_eq faB_eq h.2.1, listB_eq faB_eq h.2.2]
  · obtain ⟨h1, rfl⟩ := h
    rw [of_decide_eq_true h1]
  · rfl
def pwB (a b : PW) : Bool := (a.1 == b.1) && rowB a.2 b.2
theorem pwB_eq {a b : PW} (h : pwB a b = true) : a = b := by
  simp only [pwB, Bool.and_eq_true, beq_iff_eq] at h
  exact Prod.ext h.1 (rowB_eq h.2)
def obB : Ob → Ob → Bool
  | .mp l, .mp k => listB (fun (p q : PW × PW) => pwB p.1 q.1 && pwB p.2 q.2) l k
  | .ch a q, .ch b r => (a == b) && listB pwB q r
  | _, _ => false
theorem obB_eq {a b : Ob} (h : obB a b = true) : a = b := by
  cases a <;> cases b <;> simp only [obB, Bool.and_eq_true, beq_iff_eq, Bool.false_eq_true] at h
  · rw [listB_eq (fun {p q} h => by
      simp only [Bool.and_eq_true] at h
      exact Prod.ext (pwB_eq h.1) (pwB_eq h.2)) h]
  · rw [h.1, listB_eq pwB_eq h.2]
mutual
def avB : AV → AV → Bool
  | .c a, .c b => acB a b
  | .agg l, .agg k => listB acB l k
  | .tup l, .tup k => avsB l k
  | _, _ => false
def avsB : List AV → List AV → Bool
  | [], [] => true
  | a :: l, b :: m => avB a b && avsB l m
  | _, _ => false
end
mutual
theorem avB_eq : ∀ {a b : AV}, avB a b = true → a = b
  | .c a, .c b, h => by
    simp only [avB] at h
    rw [acB_eq h]
  | .agg l, .agg k, h => by
    simp only [avB] at h
    rw [listB_eq acB_eq h]
  | .tup l, .tup k, h => by
    simp only [avB] at h
    rw [avsB_eq h]
  | .c _, .agg _, h => by simp [avB] at h
  | .c _, .tup _, h => by simp [avB] at h
  | .agg _, .c _, h => by simp [avB] at h
  | .agg _, .tup _, h => by simp [avB] at h
  | .tup _, .c _, h => by simp [avB] at h
  | .tup _, .agg _, h => by simp [avB] at h
theorem avsB_eq : ∀ {a b : List AV}, avsB a b = true → a = b
  | [], [], _ => rfl
  | a :: l, b :: m, h => by
    simp only [avsB, Bool.and_eq_true] at h
    rw [avB_eq h.1, avsB_eq h.2]
  | [], _ :: _, h => by simp [avsB] at h
  | _ :: _, [], h => by simp [avsB] at h
end
def slB (a b : List (Nat × AV)) : Bool := listB (fun (p q : Nat × AV) => (p.1 == q.1) && avB p.2 q.2) a b
theorem slB_eq {a b : List (Nat × AV)} (h : slB a b = true) : a = b := listB_eq (fun {p q} h => by
    simp only [Bool.and_eq_true, beq_iff_eq] at h
    exact Prod.ext h.1 (avB_eq h.2)) h
def regB : Reg → Reg → Bool
  | .pc n l, .pc m k => (n == m) && rowsB l k
  | .ac l, .ac k => listB acB l k
  | .es n l, .es m k => (n == m) && listB (listB acB) l k
  | .ob a, .ob b => obB a b
  | .lp f j sl st pe, .lp f' j' sl' st' pe' => (f == f') && ((j == j') && ((decide (st = st')) && ((decide (pe = pe')) && slB sl sl')))
  | .dead, .dead => true
  | _, _ => false
theorem regB_eq {a b : Reg} (h : regB a b = true) : a = b := by
  cases a <;> cases b <;> simp only [regB, Bool.and_eq_true, beq_iff_eq, Bool.false_eq_true] at h
  · rw [h.1, rowsB_eq h.2]
  · rw [listB_eq acB_eq h]
  · rw [h.1, listB_eq (listB_eq acB_eq) h.2]
  · rw [obB_eq h]
  · obtain ⟨rfl, rfl, h1, h2, h3⟩ := h
    rw [of_decide_eq_true h1, of_decide_eq_true h2, slB_eq h3]
  · rfl
def stB (a b : St) : Bool := listB regB a.regs b.regs && listB (fun (p q : Nat × AV) => (p.1 == q.1) && avB p.2 q.2) a.slots b.slots
theorem stB_eq {a b : St} (h : stB a b = true) : a = b := by
  simp only [stB, Bool.and_eq_true] at h
  obtain ⟨s, r⟩ := a
  obtain ⟨s', r'⟩ := b
  have e1 : r = r' := listB_eq regB_eq h.1
  have e2 : s = s' := listB_eq (fun {p q} h => by
    simp only [Bool.and_eq_true, beq_iff_eq] at h
    exact Prod.ext h.1 (avB_eq h.2)) h.2
  rw [e1, e2]

/-! ### Rows that nothing points to go -/
def faLt (n : Nat) : FA → Bool
  | .p _ => true
  | .ptr id _ => decide (id < n)
def acLt (n : Nat) : AC → Bool
  | .own id _ _ _ _ | .ptr id _ | .ept id _ _ _ | .hnd _ id => decide (id < n)
  | .fn _ a b => a.all (faLt n) && b.all (faLt n)
  | _ => true
mutual
def avLt (n : Nat) : AV → Bool
  | .c x => acLt n x
  | .agg l => l.all (acLt n)
  | .tup l => avsLt n l
def avsLt (n : Nat) : List AV → Bool
  | [] => true
  | v :: r => avLt n v && avsLt n r
end
def slLt (n : Nat) : List (Nat × AV) → Bool
  | [] => true
  | p :: r => avLt n p.2 && slLt n r
def regLt (n : Nat) : Reg → Bool
  | .ac l => l.all (acLt n)
  | .es _ l => l.all (fun k => k.all (acLt n))
  | .lp _ _ sl _ _ => slLt n sl
  | _ => true
section
variable {ρ : Nat → Nat} {n : Nat} (hρ : ∀ i, i < n → ρ i = i)
include hρ
theorem renFA_id {x : FA} (h : faLt n x = true) : renFA ρ x = x := by
  cases x with
  | p x => rfl
  | ptr id off => simp only [faLt, decide_eq_true_eq] at h; simp [renFA, hρ id h]
theorem map_id_of {α : Type} {f : α → α} {p : α → Bool} (hf : ∀ x, p x = true → f x = x) : ∀ {l : List α}, l.all p = true → l.map f = l
  | [], _ => rfl
  | a :: l, h => by
    simp only [List.all_cons, Bool.and_eq_true] at h
    rw [List.map_cons, hf a h.1, map_id_of hf h.2]
theorem renAC_id {x : AC} (h : acLt n x = true) : renAC ρ x = x := by
  cases x with
  | own id off sz len cap => simp only [acLt, decide_eq_true_eq] at h; simp [renAC, hρ id h]
  | ptr id off => simp only [acLt, decide_eq_true_eq] at h; simp [renAC, hρ id h]
  | ept id sz i j => simp only [acLt, decide_eq_true_eq] at h; simp [renAC, hρ id h]
  | hnd k id => simp only [acLt, decide_eq_true_eq] at h; simp [renAC, hρ id h]
  | fn f a b =>
    simp only [acLt, Bool.and_eq_true] at h
    simp only [renAC]
    rw [map_id_of hρ (fun x hx => renFA_id hρ hx) h.1, map_id_of hρ (fun x hx => renFA_id hρ hx) h.2]
  | _ => rfl
end
mutual
theorem renAV_id {ρ : Nat → Nat} {n : Nat} (hρ : ∀ i, i < n → ρ i = i) : ∀ {v : AV}, avLt n v = true → renAV ρ v = v
  | .c x, h => by
    simp only [avLt] at h
    simp only [renAV, renAC_id hρ h]
  | .agg l, h => by
    simp only [avLt] at h
    simp only [renAV]
    rw [map_id_of hρ (fun x hx => renAC_id hρ hx) h]
  | .tup l, h => by
    simp only [avLt] at h
    simp only [renAV, renAVs_id hρ h]
theorem renAVs_id {ρ : Nat → Nat} {n : Nat} (hρ : ∀ i, i < n → ρ i = i) : ∀ {l : List AV}, avsLt n l = true → renAVs ρ l = l
  | [], _ => rfl
  | v :: r, h => by
    simp only [avsLt, Bool.and_eq_true] at h
    simp only [renAVs, renAV_id hρ h.1, renAVs_id hρ h.2]
end
theorem renSl_id {ρ : Nat → Nat} {n : Nat} (hρ : ∀ i, i < n → ρ i = i) : ∀ {l : List (Nat × AV)}, slLt n l = true → renSl ρ l = l
  | [], _ => rfl
  | (k, v) :: r, h => by
    simp only [slLt, Bool.and_eq_true] at h
    simp only [renSl, renAV_id hρ h.1, renSl_id hρ h.2]
theorem renReg_id {ρ : Nat → Nat} {n : Nat} (hρ : ∀ i, i < n → ρ i = i) {r : Reg} (h : regLt n r = true) : renReg ρ r = r := by
  cases r with
  | ac l =>
    simp only [regLt] at h
    simp only [renReg]
    rw [map_id_of hρ (fun x hx => renAC_id hρ hx) h]
  | es sz l =>
    simp only [regLt] at h
    simp only [renReg]
    rw [map_id_of hρ (fun k hk => map_id_of hρ (fun x hx => renAC_id hρ hx) hk) h]
  | lp f j sl st pe =>
    simp only [regLt] at h
    simp only [renReg, renSl_id hρ h]
  | _ => rfl
theorem RegsOk.of_get {s : St} {ρ : Nat → Nat} : ∀ {l : List Nat} {m : List Reg}, l.length = m.length → (∀ (i j : Nat) (r : Reg), l[i]? = some j → m[i]? = some r → s.regs[j]? = some (renReg ρ r)) → RegsOk s ρ l m
  | [], [], _, _ => trivial
  | j :: l, r :: m, hl, h => ⟨.inr (h 0 j r rfl rfl), RegsOk.of_get (by simpa using hl) fun i j r h1 h2 => h (i + 1) j r (by simpa using h1) (by simpa using h2)⟩
  | [], _ :: _, hl, _ => by simp at hl
  | _ :: _, [], hl, _ => by simp at hl
def gcF (n : Nat) (p : AV × List Reg) : AV × List Reg := if (decide (n ≤ p.2.length) && (avLt n p.1 && (p.2.take n).all (regLt n))) = true then (p.1, p.2.take n) else p
theorem gcF_weak (n : Nat) (v : AV) (rg : List Reg) : Weak P n ⟨[(0, v)], rg⟩ ⟨[(0, (gcF n (v, rg)).1)], (gcF n (v, rg)).2⟩ := by
  unfold gcF
  split
  · rename_i h
    simp only [Bool.and_eq_true, decide_eq_true_eq, List.all_eq_true] at h
    obtain ⟨h1, h2, h3⟩ := h
    have hρ : ∀ i, i < n → rhoF (List.range n) rg.length i = i := fun i hi => by simp [rhoF, List.getD, hi]
    refine Weak.ren (List.range n) (List.take_of_length_le (by simp)) List.nodup_range (RegsOk.of_get (by simp; omega) fun i j r hi hr => ?_) ⟨?_, trivial⟩
    · rw [List.getElem?_range (by
        have := (List.getElem?_eq_some_iff.1 hi).1
        simpa using this)] at hi
      cases hi
      have hr2 : rg[i]? = some r := by
        rw [List.getElem?_take] at hr
        split at hr
        · exact hr
        · cases hr
      rw [renReg_id hρ (h3 r (List.mem_of_getElem? hr))]
      exact hr2
    · rw [renAV_id hρ h2]
      rfl
  · exact Weak.refl _ _

/-! ### Rows that become values -/
def frzC (id sz : Nat) (ls : List (List PV)) : AC → AC
  | .own id' off sz' len cap => if id' = id ∧ sz' = sz ∧ off + len ≤ ls.length then .p (.sl sz ((ls.drop off).take len)) else .own id' off sz' len cap
  | x => x
theorem frzC_ok {id sz : Nat} {ls : List (List PV)} (x : AC) : frzAC id sz ls x (frzC id sz ls x) := by
  unfold frzC
  split
  · rename_i id' off sz' len cap
    split
    · rename_i h
      obtain ⟨rfl, rfl, h⟩ := h
      exact .inr ⟨off, len, cap, rfl, h, rfl⟩
    · exact .inl rfl
  · exact .inl rfl
theorem All2.of_map {α : Type} {R : α → α → Prop} {f : α → α} (h : ∀ x, R x (f x)) : ∀ (l : List α), All2 R l (l.map f)
  | [] => trivial
  | x :: l => ⟨h x, All2.of_map h l⟩
def frzV (id sz : Nat) (ls : List (List PV)) : AV → AV
  | .c x => .c (frzC id sz ls x)
  | .agg l => .agg (l.map (frzC id sz ls))
  | .tup l => .tup l
theorem frzV_ok {id sz : Nat} {ls : List (List PV)} (v : AV) : frzAV id sz ls v (frzV id sz ls v) := by
  cases v with
  | c x => exact frzC_ok x
  | agg l => exact All2.of_map frzC_ok l
  | tup l => rfl
def frzR (id sz : Nat) (ls : List (List PV)) : Reg → Reg
  | .ac l => .ac (l.map (frzC id sz ls))
  | .es n l => .es n (l.map fun k => k.map (frzC id sz ls))
  | r => r
theorem frzR_ok {id sz : Nat} {ls : List (List PV)} (r : Reg) : frzReg id sz ls r (frzR id sz ls r) := by
  cases r with
  | ac l => exact All2.of_map frzC_ok l
  | es n l => exact ⟨rfl, All2.of_map (fun k => All2.of_map frzC_ok k) l⟩
  | _ => rfl
def frzRs (id sz : Nat) (ls : List (List PV)) : Nat → List Reg → List Reg
  | _, [] => []
  | k, r :: l => (if k = id then .dead else frzR id sz ls r) :: frzRs id sz ls (k + 1) l
theorem frzRs_ok {id sz : Nat} {ls : List (List PV)} : ∀ (k : Nat) (l : List Reg), FrzRegs id sz ls k l (frzRs id sz ls k l)
  | _, [] => trivial
  | k, r :: l => by
    refine ⟨?_, frzRs_ok (k + 1) l⟩
    by_cases h : k = id
    · rw [if_pos h, if_pos h]
    · rw [if_neg h, if_neg h]
      exact frzR_ok r
def frz1 (id : Nat) (p : AV × List Reg) : AV × List Reg :=
  match p.2[id]? with
  | some (.pc sz ls) => if ls.length ≤ 140737488351232 then (frzV id sz ls p.1, frzRs id sz ls 0 p.2) else p
  | _ => p
theorem frz1_weak (n id : Nat) (p : AV × List Reg) : Weak P n ⟨[(0, p.1)], p.2⟩ ⟨[(0, (frz1 id p).1)], (frz1 id p).2⟩ := by
  unfold frz1
  split
  · rename_i sz ls hr
    split
    · rename_i hm
      exact Weak.freeze id sz ls hr hm ⟨frzV_ok p.1, trivial⟩ (frzRs_ok 0 p.2)
    · exact Weak.refl _ _
  · exact Weak.refl _ _
def frzAll : List Nat → AV × List Reg → AV × List Reg
  | [], p => p
  | id :: r, p => frzAll r (frz1 id p)
theorem frzAll_weak (n : Nat) : ∀ (l : List Nat) (p : AV × List Reg), Weak P n ⟨[(0, p.1)], p.2⟩ ⟨[(0, (frzAll l p).1)], (frzAll l p).2⟩
  | [], _ => Weak.refl _ _
  | id :: r, p => (frz1_weak n id p).trans (frzAll_weak n r (frz1 id p))
def frzF (n : Nat) (p : AV × List Reg) : AV × List Reg := gcF n (frzAll ((List.range p.2.length).drop n) p)
theorem frzF_weak (n : Nat) (p : AV × List Reg) : Weak P n ⟨[(0, p.1)], p.2⟩ ⟨[(0, (frzF n p).1)], (frzF n p).2⟩ :=
  (frzAll_weak n _ p).trans (gcF_weak n _ _)
def frzCall (call : CallF) : CallF := fun k a r => match k with
  | .fn f => (call (.fn f) a r).map (frzF r.length)
  | .yl _ => none
theorem frz_call {P : Program} {call : CallF} (hcall : CallOk P call) : CallOk P (frzCall call) := by
  refine ⟨fun f args regs r rg h => ?_, fun id args regs r rg h => by cases h⟩
  obtain ⟨p, hp, h2⟩ := Option.map_eq_some_iff.1 h
  refine (hcall.fn f args regs p.1 p.2 hp).post fun res rg' hr => ?_
  obtain ⟨rfl, rfl⟩ := hr
  have hw := frzF_weak (P := P) regs.length p
  rw [h2] at hw
  exact ⟨r, rg, hw, rfl, rfl⟩

section
variable {P : Program} {call : CallF}
theorem evalOp_putr {o : AOp} {s s' : St} (hl : o.loc.isSome = true) (h : evalOp P call o s = some s') : ∃ v rg, s' = s.putr o.dst v rg := by
  cases o <;> simp only [AOp.loc, Option.isSome_none, Bool.false_eq_true] at hl <;> simp only [evalOp, evF_eq, ev_x, ev_mv, ev_bin, ev_eqs, ev_beq, ev_pick, ev_un, ev_cvi, ev_nilc, ev_fad, ev_fld, ev_load, ev_ixs, ev_ixa, ev_len, ev_build, ev_ixv, ev_ixt, ev_mm, ev_sls, ev_b2s, ev_lens, ev_ext, ev_mkf, ev_call, ev_callv] at h
  all_goals (repeat' split at h)
  all_goals first
    | (cases h; done)
    | (cases h; exact ⟨_, s.regs, rfl⟩)
    | (obtain ⟨v, _, rfl⟩ := Option.map_eq_some_iff.1 h; exact ⟨_, s.regs, rfl⟩)
    | (obtain ⟨v, _, h⟩ := Option.bind_eq_some_iff.1 h; obtain ⟨v, _, rfl⟩ := Option.map_eq_some_iff.1 h; exact ⟨_, s.regs, rfl⟩)
    | (obtain ⟨v, _, rfl⟩ := Option.map_eq_some_iff.1 h; exact ⟨_, _, rfl⟩)
def AOp.isCall : AOp → Bool
  | .call .. | .callv .. | .cally .. => true
  | _ => false
theorem xE_pure {k : XOp} {args : List AV} {regs : List Reg} {p : AV × List Reg} (hk : k.pure = true) (h : xE k args regs = some p) : p.2 = regs := by
  unfold xE at h
  repeat' split at h
  all_goals first
    | (cases h; done)
    | (cases h; rfl)
    | (cases hk; done)
theorem put_regs {s : St} {d : Option Nat} {v : AV} : (s.put d v).regs = s.regs := by cases d <;> rfl
theorem evalOp_regs {o : AOp} {s s' : St} (hl : o.loc.isSome = true) (hc : o.isCall = false) (h : evalOp P call o s = some s') : s'.regs = s.regs := by
  cases o with
  | x d k args =>
    simp only [evalOp, evF_eq, ev_x] at h
    obtain ⟨p, hp, rfl⟩ := Option.map_eq_some_iff.1 h
    have hk : k.pure = true := by
      simp only [AOp.loc] at hl
      split at hl
      · assumption
      · cases hl
    rw [show (s.putr d p.1 p.2).regs = p.2 from put_regs]
    exact xE_pure hk hp
  | call d f args => cases hc
  | callv d f args => cases hc
  | _ =>
    first
    | (simp only [AOp.loc, Option.isSome_none, Bool.false_eq_true] at hl; done)
    | (simp only [evalOp, evF_eq, ev_mv, ev_bin, ev_eqs, ev_beq, ev_pick, ev_un, ev_cvi, ev_nilc, ev_fad, ev_fld, ev_load, ev_ixs, ev_ixa, ev_len, ev_build, ev_ixv, ev_ixt, ev_mm, ev_sls, ev_b2s, ev_lens, ev_ext, ev_mkf] at h
       (repeat' split at h)
       all_goals first
        | (cases h; done)
        | (cases h; exact put_regs)
        | (obtain ⟨v, _, rfl⟩ := Option.map_eq_some_iff.1 h; exact put_regs)
        | (obtain ⟨v, _, h⟩ := Option.bind_eq_some_iff.1 h; obtain ⟨v, _, rfl⟩ := Option.map_eq_some_iff.1 h; exact put_regs))
theorem evalIt_regs {it : AIt} {s s' : St} (hl : it.op.loc.isSome = true) (hc : it.op.isCall = false) (h : evalIt P call it s = some s') : s'.regs = s.regs := by
  unfold evalIt at h
  split at h
  · exact evalOp_regs hl hc h
  · split at h
    · split at h
      · exact evalOp_regs hl hc h
      · cases h
        exact put_regs
    · cases h
      exact put_regs
    · cases h
theorem evalIt_putr {it : AIt} {s s' : St} (hl : it.op.loc.isSome = true) (hd : it.op.dst = it.d) (h : evalIt P call it s = some s') : ∃ v rg, s' = s.putr it.d v rg := by
  rw [← hd]
  unfold evalIt at h
  split at h
  · exact evalOp_putr hl h
  · split at h
    · split at h
      · exact evalOp_putr hl h
      · cases h
        rw [← hd]
        exact ⟨_, s.regs, rfl⟩
    · cases h
      rw [← hd]
      exact ⟨_, s.regs, rfl⟩
    · cases h

def evalPar (P : Program) (call : CallF) : List AIt → St → Option St
  | [], s => some s
  | it :: r, s => match it.d with
    | some d => if it.op.loc.isSome = true ∧ it.op.dst = some d then (evalIt P (frzCall call) it s).bind fun s1 => if (!it.op.isCall || listB regB s1.regs s.regs) = true then evalPar P call r ⟨(d, lk s1.slots d) :: s.slots, s.regs⟩ else none else none
    | none => none
theorem evalPar_W (hcall : CallOk P call) {C : St → Prop} : ∀ {l : List AIt} {s s' : St}, evalPar P call l s = some s' → C s' → parW P l s C
  | [], s, s', h, hC => by cases h; exact hC
  | it :: r, s, s', h, hC => by
    simp only [evalPar] at h
    split at h
    · rename_i d hd
      split at h
      · rename_i hc
        obtain ⟨s1, h1, h2⟩ := Option.bind_eq_some_iff.1 h
        split at h2
        · rename_i hr
          obtain ⟨v, rg, e⟩ := evalIt_putr hc.1 (hc.2.trans hd.symm) h1
          rw [hd] at e
          have hrg : s1.regs = s.regs := by
            cases hcl : it.op.isCall with
            | true => rw [hcl] at hr; exact listB_eq regB_eq (by simpa using hr)
            | false => exact evalIt_regs hc.1 hcl h1
          refine ⟨d, lk s1.slots d, hd, fun K hK => evalIt_W (frz_call hcall) h1 ?_, evalPar_W hcall h2 hC⟩
          subst e
          simp only [St.putr, St.put, lk, if_true] at hrg hK ⊢
          rw [hrg]
          exact hK
        · cases h2
      · cases h
    · cases h

/-- The same again: its slot holds what it held. -/
def sameD (it : AIt) (s s1 : St) : Bool := match it.d with
  | some d => avB (lk s1.slots d) (lk s.slots d)
  | none => false
def evalTree (P : Program) (call : CallF) (ks : List Nat) : ATree → St → Option St
  | .done, s => some (keepS ks s)
  | .tell it t, s => (evalOps P call [it] s).bind (evalTree P call ks t)
  | .again it t, s => (evalOps P call [it] s).bind fun s1 => if sameD it s s1 = true then evalTree P call ks t s else none
  | .turn it t, s => (evalOps P call [it] s).bind (evalTree P call ks t)
  | .both t u, s => match evalTree P call ks t s, evalTree P call ks u s with
    | some a, some b => if stB a b = true then some a else none
    | _, _ => none
theorem evalOps_one {it : AIt} {s s1 : St} (h : evalOps P call [it] s = some s1) : evalIt P call it s = some s1 := by
  simp only [evalOps] at h
  obtain ⟨s2, h1, h2⟩ := Option.bind_eq_some_iff.1 h
  cases h2
  exact h1
theorem isC_eq (op : AOp) : op.isC = op.isCall := by cases op <;> rfl
theorem tell_form {it : AIt} {s s1 : St} (ho : TellOk it) (h : evalIt P call it s = some s1) : ∃ d, it.d = some d ∧ s1 = ⟨(d, lk s1.slots d) :: s.slots, s.regs⟩ := by
  obtain ⟨h1, h2, h3, h4⟩ := ho
  obtain ⟨d, hd⟩ := Option.isSome_iff_exists.1 h3
  obtain ⟨v, rg, e⟩ := evalIt_putr h1 h2 h
  have hrg := evalIt_regs h1 (by rw [← isC_eq]; exact h4) h
  rw [hd] at e
  subst e
  have : rg = s.regs := hrg
  subst this
  refine ⟨d, hd, ?_⟩
  simp [St.putr, St.put, lk]
theorem evalTree_W (hcall : CallOk P call) {n0 : Nat} {ks : List Nat} : ∀ {t : ATree} {s s' : St}, TreeOk t → evalTree P call ks t s = some s' → treeW P (fun s1 => Weak P n0 s1 s') t s
  | .done, s, s', _, h => by cases h; exact Weak.keep ks
  | .tell it t, s, s', ho, h => by
    obtain ⟨s1, h1, h2⟩ := Option.bind_eq_some_iff.1 h
    have h1 := evalOps_one h1
    obtain ⟨d, hd, e⟩ := tell_form ho.1 h1
    refine ⟨d, lk s1.slots d, hd, fun K hK => evalIt_W hcall h1 (by rw [e]; exact hK), ?_⟩
    rw [← e]
    exact evalTree_W hcall ho.2 h2
  | .again it t, s, s', ho, h => by
    obtain ⟨s1, h1, h2⟩ := Option.bind_eq_some_iff.1 h
    have h1 := evalOps_one h1
    obtain ⟨d, hd, e⟩ := tell_form ho.1 h1
    split at h2
    · rename_i hs
      unfold sameD at hs
      rw [hd] at hs
      have hv := avB_eq hs
      refine ⟨⟨d, hd, fun K hK => evalIt_W hcall h1 (by rw [e, hv]; exact hK)⟩, evalTree_W hcall ho.2 h2⟩
    · cases h2
  | .turn it t, s, s', ho, h => by
    obtain ⟨s1, h1, h2⟩ := Option.bind_eq_some_iff.1 h
    exact ⟨s1, fun K hK => evalIt_W hcall (evalOps_one h1) hK, evalTree_W hcall ho h2⟩
  | .both t u, s, s', ho, h => by
    simp only [evalTree] at h
    split at h
    · rename_i a b ha hb
      split at h
      · rename_i hab
        cases h
        have e := stB_eq hab
        exact ⟨evalTree_W hcall ho.1 ha, evalTree_W hcall ho.2 (by rw [e]; exact hb)⟩
      · cases h
    · cases h

def loopE (body : St → Option (Exit × St)) : Nat → St → Option (Exit × St)
  | 0, _ => none
  | n + 1, s => match body s with
    | some (.normal, s1) => loopE body n s1
    | r => r
end
end Go.Sim
