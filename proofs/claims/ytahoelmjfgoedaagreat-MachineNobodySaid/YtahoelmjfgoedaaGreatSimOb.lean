/- Code over the plain picture. Of no program. -/
import Derived.Test.YtahoelmjfgoedaaGreatSimOa
namespace Go.Sim
open Go.RowKit Go.Proofs.YtahoelmjfgoedaaGreat.B

def parIts (P : Program) (N : Nat) (ops : Array Oper) : Option (List AIt × List AIt) := (allOf (trIt P N ops) ops.toList).bind fun its =>
  if (parOk ops its (its.takeWhile fun it => it.op.loc.isSome).length && its.all noCv) = true then some (its.take (its.takeWhile fun it => it.op.loc.isSome).length, its.drop (its.takeWhile fun it => it.op.loc.isSome).length) else none

/-- One order. -/
def ATree.one : ATree → Bool
  | .done => true
  | .tell _ t | .again _ t | .turn _ t => t.one
  | .both _ _ => false
/-- How a region that draws is read. -/
def trAny (P : Program) (N : Nat) (ops : Array Oper) : Option (ATree ⊕ (List AIt × List AIt)) := match tree2Of P N ops with
  | some t => if t.one = true then some (.inl t) else (match parIts P N ops with
    | some p => some (.inr p)
    | none => some (.inl t))
  | none => (parIts P N ops).map .inr
theorem trAny_inl {P : Program} {N : Nat} {ops : Array Oper} {t : ATree} (h : trAny P N ops = some (.inl t)) : tree2Of P N ops = some t := by
  unfold trAny at h
  split at h
  · rename_i t' e
    split at h
    · cases h; exact e
    · split at h
      · cases h
      · cases h; exact e
  · cases hp : parIts P N ops with
    | none => rw [hp] at h; cases h
    | some p => rw [hp] at h; cases h
theorem trAny_inr {P : Program} {N : Nat} {ops : Array Oper} {p : List AIt × List AIt} (h : trAny P N ops = some (.inr p)) : parIts P N ops = some p := by
  unfold trAny at h
  split at h
  · split at h
    · cases h
    · split at h
      · rename_i e; cases h; exact e
      · cases h
  · cases hp : parIts P N ops with
    | none => rw [hp] at h; cases h
    | some p => rw [hp] at h; cases h; rfl

inductive ACode where
  | skip
  | reg (l : List AIt)
  | any (t : ATree)
  | par (a b : List AIt)
  | seq (a b : ACode)
  | cond (c : AX) (a b : ACode)
  | block (id : Nat) (c : ACode)
  | loop (c : ACode)
  | rfun (g : AX) (f j : Nat)
  | exit (id : Nat)
  | ret
  | stuck

/-- A text in the picture; f: whose it is; j: how many loops over functions lie ahead of it. -/
def trCode (P : Program) (N f : Nat) : Nat → Code → Option ACode
  | _, .skip => some .skip
  | _, .region _ ops draw => match trReg P N ops draw with
    | some l => some (.reg l)
    | none => some (((guardO (draw && (P.follows .mixedOrders && (Region.noSelect ops && ops.toList.all noDef)))).bind fun _ => (trAny P N ops).map fun x => match x with
      | .inl t => .any t
      | .inr p => .par p.1 p.2).getD .stuck)
  | j, .seq a b => (trCode P N f j a).bind fun x => (trCode P N f (j + (codeLoops a).length) b).map fun y => .seq x y
  | j, .cond c a b => (trX c).bind fun z => (trCode P N f j a).bind fun x => (trCode P N f (j + (codeLoops a).length) b).map fun y => .cond z x y
  | j, .block id c => (trCode P N f j c).map (.block id)
  | j, .loop c => (trCode P N f j c).map .loop
  | j, .rangeFunc g _ _ _ => (trX g).map fun z => .rfun z f j
  | _, .exit id => some (.exit id)
  | _, .ret => some .ret
  | _, _ => none

/-- The loops of a text are the program's from the number j on. -/
def Seg (P : Program) (N f j : Nat) (c : Code) : Prop := ∀ i L, (codeLoops c)[i]? = some L → lpOf P f (j + i) = some (L, N)
theorem Seg.left {P : Program} {N f j : Nat} {a b : List LoopT} (h : ∀ i L, (a ++ b)[i]? = some L → lpOf P f (j + i) = some (L, N)) : ∀ i L, a[i]? = some L → lpOf P f (j + i) = some (L, N) := fun i L hi =>
  h i L (by rw [List.getElem?_append_left (List.getElem?_eq_some_iff.1 hi).1]; exact hi)
theorem Seg.right {P : Program} {N f j : Nat} {a b : List LoopT} (h : ∀ i L, (a ++ b)[i]? = some L → lpOf P f (j + i) = some (L, N)) : ∀ i L, b[i]? = some L → lpOf P f (j + a.length + i) = some (L, N) := fun i L hi => by
  have := h (a.length + i) L (by rw [List.getElem?_append_right (Nat.le_add_right _ _), Nat.add_sub_cancel_left]; exact hi)
  rwa [← Nat.add_assoc] at this

def Inv (P : Program) (N f j : Nat) (c : Code) : ACode → Prop
  | .skip => c = .skip
  | .reg l => ∃ id ops d, c = .region id ops d ∧ trReg P N ops d = some l
  | .any t => ∃ id ops, c = .region id ops true ∧ P.follows .mixedOrders = true ∧ ops.toList.all noDef = true ∧ tree2Of P N ops = some t
  | .par x y => ∃ id ops, c = .region id ops true ∧ P.follows .mixedOrders = true ∧ ops.toList.all noDef = true ∧ parIts P N ops = some (x, y)
  | .seq x y => ∃ a b, c = .seq a b ∧ trCode P N f j a = some x ∧ Seg P N f j a ∧ trCode P N f (j + (codeLoops a).length) b = some y ∧ Seg P N f (j + (codeLoops a).length) b
  | .cond z x y => ∃ o a b, c = .cond o a b ∧ trX o = some z ∧ trCode P N f j a = some x ∧ Seg P N f j a ∧ trCode P N f (j + (codeLoops a).length) b = some y ∧ Seg P N f (j + (codeLoops a).length) b
  | .block id x => ∃ a, c = .block id a ∧ trCode P N f j a = some x ∧ Seg P N f j a
  | .loop x => ∃ a, c = .loop a ∧ trCode P N f j a = some x ∧ Seg P N f j a
  | .rfun z f' j' => ∃ g ps a b, c = .rangeFunc g ps a b ∧ trX g = some z ∧ f' = f ∧ j' = j ∧ lpOf P f j = some (⟨ps, a, b⟩, N)
  | .exit id => c = .exit id
  | .ret => c = .ret
  | .stuck => True
theorem trCode_inv {P : Program} {N f j : Nat} {c : Code} {ac : ACode} (h : trCode P N f j c = some ac) (hs : Seg P N f j c) : Inv P N f j c ac := by
  cases c with
  | skip => cases h; rfl
  | region id ops d =>
    simp only [trCode] at h
    split at h
    · rename_i l hl
      cases h
      exact ⟨id, ops, d, rfl, hl⟩
    · injection h with h
      cases hx : ((guardO (d && (P.follows .mixedOrders && (Region.noSelect ops && ops.toList.all noDef)))).bind fun _ => (trAny P N ops).map fun x => match x with
        | .inl t => .any t
        | .inr p => .par p.1 p.2 : Option ACode) with
      | none => rw [hx] at h; subst h; trivial
      | some z =>
        rw [hx] at h
        simp only [Option.getD_some] at h
        subst h
        rw [Option.bind_eq_some_iff] at hx
        obtain ⟨u, hu, h⟩ := hx
        have := guardO_eq.1 hu
        simp only [Bool.and_eq_true] at this
        obtain ⟨rfl, h2, h3, h4⟩ := this
        obtain ⟨q, hq, e⟩ := Option.map_eq_some_iff.1 h
        cases q with
        | inl t => cases e; exact ⟨id, ops, rfl, h2, h4, trAny_inl hq⟩
        | inr p => cases e; exact ⟨id, ops, rfl, h2, h4, trAny_inr hq⟩
  | seq a b =>
    simp only [trCode, Option.bind_eq_some_iff, Option.map_eq_some_iff] at h
    obtain ⟨x, hx, y, hy, rfl⟩ := h
    exact ⟨a, b, rfl, hx, Seg.left hs, hy, Seg.right hs⟩
  | cond o a b =>
    simp only [trCode, Option.bind_eq_some_iff, Option.map_eq_some_iff] at h
    obtain ⟨z, hz, x, hx, y, hy, rfl⟩ := h
    exact ⟨o, a, b, rfl, hz, hx, Seg.left hs, hy, Seg.right hs⟩
  | block id a =>
    obtain ⟨l, hl, rfl⟩ := Option.map_eq_some_iff.1 h
    exact ⟨a, rfl, hl, hs⟩
  | loop a =>
    obtain ⟨l, hl, rfl⟩ := Option.map_eq_some_iff.1 h
    exact ⟨a, rfl, hl, hs⟩
  | exit id => cases h; rfl
  | ret => cases h; rfl
  | rangeFunc g ps a b =>
    obtain ⟨z, hz, rfl⟩ := Option.map_eq_some_iff.1 h
    exact ⟨g, ps, a, b, rfl, hz, rfl, rfl, hs 0 _ rfl⟩
  | scope => cases h
  | label => cases h
  | goto => cases h
  | refuse => cases h

/-- What a text leans on later. -/
def Later (env0 : Env) (bad0 : Bs) (env1 : Env) (bad1 : Bs) : Prop := Ev bad0.w env0 bad0.bad bad1.w env1 bad1.bad ∧ env1.n = env0.n ∧ bad1.lo = bad0.lo
theorem Later.refl (env0 : Env) (bad0 : Bs) : Later env0 bad0 env0 bad0 := ⟨Ev.refl _ _ _, rfl, rfl⟩
theorem Later.trans {e0 e1 e2 : Env} {b0 b1 b2 : Bs} (h : Later e0 b0 e1 b1) (k : Later e1 b1 e2 b2) : Later e0 b0 e2 b2 := ⟨h.1.trans k.1, k.2.1.trans h.2.1, k.2.2.trans h.2.2⟩

/-- What a text tells over the picture; n0: how many rows there were at the start; ro: the round that it is in. -/
def codeW (P : Program) (n0 : Nat) (ro : Option Nat) (ac : ACode) (Q : Exit → St → Prop) (s : St) : Prop :=
  ∀ (c : Code) (N f j : Nat), trCode P N f j c = some ac → Seg P N f j c → ∀ (n : Nat) (w0 : World) (env0 : Env) (bad0 : Bs) (fps : List Nat) (base : Nat → Prop) (a : Act) (w : World) (Q' : Exit → Act → World → Prop), env0.n = n0 → R P w0 env0 bad0 fps base N s a w →
    (∀ e s' env1 bad1 a' w', Later env0 bad0 env1 bad1 → Q e s' → R P w0 env1 bad1 fps base N s' a' w' → Q' e a' w') → c.wpIn (Fw ro) n P Q' a w

/-- One picture tells less than another. -/
def Weak (P : Program) (n0 : Nat) (s s' : St) : Prop :=
  ∀ (N : Nat) (w0 : World) (env0 : Env) (bad0 : Bs) (fps : List Nat) (base : Nat → Prop) (a : Act) (w : World), env0.n = n0 → R P w0 env0 bad0 fps base N s a w → R P w0 env0 bad0 fps base N s' a w

theorem Weak.refl {P : Program} (n0 : Nat) (s : St) : Weak P n0 s s := fun _ _ _ _ _ _ _ _ _ h => h
theorem Weak.trans {P : Program} {n0 : Nat} {s s' s'' : St} (h : Weak P n0 s s') (k : Weak P n0 s' s'') : Weak P n0 s s'' := fun N w0 env0 bad0 fps base a w e r => k N w0 env0 bad0 fps base a w e (h N w0 env0 bad0 fps base a w e r)

def AThen (K : St → Prop) (Q : Exit → St → Prop) : Exit → St → Prop
  | .normal, s => K s
  | e, s => Q e s
def AIn (id : Nat) (Q : Exit → St → Prop) : Exit → St → Prop
  | .exit id', s => if id' = id then Q .normal s else Q (.exit id') s
  | e, s => Q e s

section
variable {P : Program} {n0 : Nat} {ro : Option Nat} {x y : ACode} {Q : Exit → St → Prop} {s s' : St}

theorem codeW_weak (h : Weak P n0 s s') (k : codeW P n0 ro x Q s') : codeW P n0 ro x Q s :=
  fun c N f j htr hs n w0 env0 bad0 fps base a w Q' e r hQ => k c N f j htr hs n w0 env0 bad0 fps base a w Q' e (h N w0 env0 bad0 fps base a w e r) hQ

theorem codeW_skip (h : Q .normal s) : codeW P n0 ro .skip Q s := by
  intro c N f j htr hs n w0 env0 bad0 fps base a w Q' e r hQ
  obtain rfl := trCode_inv htr hs
  exact wpIn_skip (hQ _ _ _ _ _ _ (Later.refl _ _) h r)
theorem codeW_ret (h : Q .ret s) : codeW P n0 ro .ret Q s := by
  intro c N f j htr hs n w0 env0 bad0 fps base a w Q' e r hQ
  obtain rfl := trCode_inv htr hs
  exact wpIn_ret (hQ _ _ _ _ _ _ (Later.refl _ _) h r)
theorem codeW_exit {id : Nat} (h : Q (.exit id) s) : codeW P n0 ro (.exit id) Q s := by
  intro c N f j htr hs n w0 env0 bad0 fps base a w Q' e r hQ
  obtain rfl := trCode_inv htr hs
  exact wpIn_exit (hQ _ _ _ _ _ _ (Later.refl _ _) h r)
theorem codeW_reg {l : List AIt} (h : opsW P (Q .normal) l s) : codeW P n0 ro (.reg l) Q s := by
  intro c N f j htr hs n w0 env0 bad0 fps base a w Q' e r hQ
  obtain ⟨id, ops, d, rfl, hi⟩ := trCode_inv htr hs
  exact reg_sound hi h r fun s' a' w' k r' => hQ _ _ _ _ _ _ (Later.refl _ _) k r'
theorem codeW_any {t : ATree} (h : TreeOk t → treeW P (Q .normal) t s) : codeW P n0 ro (.any t) Q s := by
  intro c N f j htr hs n w0 env0 bad0 fps base a w Q' e r hQ
  obtain ⟨id, ops, rfl, hm, hnd, ht⟩ := trCode_inv htr hs
  exact any_sound2 hm ht (h (tree2Of_ok ht)) r fun s' a' w' k r' => hQ _ _ _ _ _ _ (Later.refl _ _) k r'
theorem codeW_par {l m : List AIt} (h : parW P l s (opsW P (Q .normal) m)) : codeW P n0 ro (.par l m) Q s := by
  intro c N f j htr hs n w0 env0 bad0 fps base a w Q' e r hQ
  obtain ⟨id, ops, rfl, hm, hnd, hp⟩ := trCode_inv htr hs
  unfold parIts at hp
  rw [Option.bind_eq_some_iff] at hp
  obtain ⟨its, hits, hp⟩ := hp
  split at hp
  · rename_i hok'
    have hok := ((Bool.and_eq_true _ _).mp hok').1
    cases hp
    have hlen : its.length = ops.size := by have := (allOf_all2 (R := fun _ _ => True) (fun _ _ _ => trivial) hits).len; simpa using this
    exact par_sound hm hnd hits hok (by rw [← hlen]; exact (List.takeWhile_sublist _).length_le) h r fun s' a' w' k r' => hQ _ _ _ _ _ _ (Later.refl _ _) k r'
  · cases hp
theorem codeW_seq (h : ∀ K : St → Prop, (∀ s, codeW P n0 ro y Q s → K s) → codeW P n0 ro x (AThen K Q) s) : codeW P n0 ro (.seq x y) Q s := by
  intro c N f j htr hs n w0 env0 bad0 fps base a w Q' e r hQ
  obtain ⟨ca, cb, rfl, h1, s1, h2, s2⟩ := trCode_inv htr hs
  refine wpIn_seq (h _ (fun _ k => k) ca N f j h1 s1 n w0 env0 bad0 fps base a w _ e r fun ex s' env1 bad1 a' w' hl q r' => ?_)
  cases ex with
  | normal => exact q cb N f _ h2 s2 n w0 env1 bad1 fps base a' w' Q' (hl.2.1.trans e) r' fun e2 s2 env2 bad2 a2 w2 hl2 q2 r2 => hQ _ _ _ _ _ _ (hl.trans hl2) q2 r2
  | _ => exact hQ _ _ _ _ _ _ hl q r'
/-- A region whose orders meet again. -/
theorem codeW_seq_any {t : ATree} (s1 : St) (h : TreeOk t → treeW P (fun s' => Weak P n0 s' s1) t s) (k : codeW P n0 ro y Q s1) : codeW P n0 ro (.seq (.any t) y) Q s := by
  intro c N f j htr hs n w0 env0 bad0 fps base a w Q' e r hQ
  obtain ⟨ca, cb, rfl, h1, z1, h2, z2⟩ := trCode_inv htr hs
  refine wpIn_seq (codeW_any (Q := fun e s' => e = .normal ∧ Weak P n0 s' s1) (by simpa using h) ca N f j h1 z1 n w0 env0 bad0 fps base a w _ e r fun ex s' env1 bad1 a' w' hl q r' => ?_)
  obtain ⟨rfl, hw⟩ := q
  exact k cb N f _ h2 z2 n w0 env1 bad1 fps base a' w' Q' (hl.2.1.trans e) (hw _ _ _ _ _ _ _ _ (hl.2.1.trans e) r') fun e2 s2 env2 bad2 a2 w2 hl2 q2 r2 => hQ _ _ _ _ _ _ (hl.trans hl2) q2 r2
theorem codeW_cond {c : AX} {t : Bool} (hc : boolOf (s.ev c) = some t) (ht : t = true → codeW P n0 ro x Q s) (hf : t = false → codeW P n0 ro y Q s) : codeW P n0 ro (.cond c x y) Q s := by
  intro c N f j htr hs n w0 env0 bad0 fps base a w Q' e r hQ
  obtain ⟨cx, ca, cb, rfl, hx, h1, z1, h2, z2⟩ := trCode_inv htr hs
  obtain ⟨env, hrs, hsl, hev⟩ := r.ex
  exact wpIn_cond_split (bool_of (ev_sound hsl hx) hc) (fun ht' => ht ht' ca N f j h1 z1 n w0 env0 bad0 fps base a w Q' e r hQ) (fun ht' => hf ht' cb N f _ h2 z2 n w0 env0 bad0 fps base a w Q' e r hQ)
theorem codeW_block {id : Nat} (h : codeW P n0 ro x (AIn id Q) s) : codeW P n0 ro (.block id x) Q s := by
  intro c N f j htr hs n w0 env0 bad0 fps base a w Q' e r hQ
  obtain ⟨ca, rfl, h1, z1⟩ := trCode_inv htr hs
  refine wpIn_block (h ca N f j h1 z1 n w0 env0 bad0 fps base a w _ e r fun ex s' env1 bad1 a' w' hl q r' => ?_)
  cases ex with
  | exit i =>
    simp only [AIn] at q
    simp only [Exit.inBlock]
    split
    · rename_i hi; rw [if_pos hi] at q; exact hQ _ _ _ _ _ _ hl q r'
    · rename_i hi; rw [if_neg hi] at q; exact hQ _ _ _ _ _ _ hl q r'
  | _ => exact hQ _ _ _ _ _ _ hl q r'

/-- A loop: I tells the pictures at its head, with how many rounds at most are left. -/
theorem codeW_loop (I : Nat → St → Prop) (n : Nat) (h0 : I n s) (h : ∀ n s, I n s → ∀ K : St → Prop, (∀ s', (∃ m s'', m < n ∧ Weak P n0 s' s'' ∧ I m s'') → K s') → codeW P n0 ro x (AThen K Q) s) : codeW P n0 ro (.loop x) Q s := by
  intro c N f j htr hs n' w0 env0 bad0 fps base a w Q' e r hQ
  obtain ⟨ca, rfl, hi, z1⟩ := trCode_inv htr hs
  have key : ∀ k n s env1 bad1 a w, n ≤ k → I n s → Later env0 bad0 env1 bad1 → R P w0 env1 bad1 fps base N s a w → Code.roundsIn (Fw ro) n' P ca Q' (k + 1) a w := by
    intro k
    induction k with
    | zero =>
      intro n s env1 bad1 a w hn hI hl r
      refine h n s hI _ (fun _ h => h) ca N f j hi z1 n' w0 env1 bad1 fps base a w _ (hl.2.1.trans e) r fun ex s' env2 bad2 a' w' hl2 q r' => ?_
      cases ex with
      | normal => obtain ⟨m, s'', hm, _⟩ := q; omega
      | _ => exact hQ _ _ _ _ _ _ (hl.trans hl2) q r'
    | succ k ih =>
      intro n s env1 bad1 a w hn hI hl r
      refine h n s hI _ (fun _ h => h) ca N f j hi z1 n' w0 env1 bad1 fps base a w _ (hl.2.1.trans e) r fun ex s' env2 bad2 a' w' hl2 q r' => ?_
      cases ex with
      | normal =>
        obtain ⟨m, s'', hm, hw, hI'⟩ := q
        exact ih m s'' env2 bad2 a' w' (by omega) hI' (hl.trans hl2) (hw _ _ _ _ _ _ _ _ ((hl.trans hl2).2.1.trans e) r')
      | _ => exact hQ _ _ _ _ _ _ (hl.trans hl2) q r'
  exact wpIn_loop_rounds (n + 1) (key n n s env0 bad0 a w (Nat.le_refl _) h0 (Later.refl _ _) r)
end
end Go.Sim
