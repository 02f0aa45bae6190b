/- Regions and code over the plain picture. Of no program. -/
import Derived.Test.YtahoelmjfgoedaaGreatSimNs
import Derived.LoopN
namespace Go.Sim
open Go.RowKit Go.Proofs.YtahoelmjfgoedaaGreat.B

/-- An operation of a region, with its guard: the slot that must hold what. -/
structure AIt where
  guard : Option (Nat × Bool)
  d : Option Nat
  op : AOp

def itW (P : Program) (it : AIt) (s : St) (K : St → Prop) : Prop :=
  match it.guard with
  | none => opW P it.op s K
  | some (t, want) => match lk s.slots t with
    | .c (.p (.v (.bool b))) => (b = want → opW P it.op s K) ∧ (b ≠ want → K (s.put it.d (.tup [])))
    | .tup [] => K (s.put it.d (.tup []))
    | _ => False

def opsW (P : Program) (K : St → Prop) : List AIt → St → Prop
  | [], s => K s
  | it :: r, s => itW P it s (opsW P K r)

/-- A dynamic call may be one of a loop's yield. -/
def trOpY (P : Program) (o : Oper) : Option AOp := match o.op with
  | .call ⟨.value (.tmp t), as, _⟩ => (allOf trX as.toList).map fun l => .cally o.dst (.t t) l
  | _ => trOp P o
def noDef (o : Oper) : Bool := match o.op with
  | .defer _ => false
  | _ => true
theorem noDef_eq {o : Oper} (h : noDef o = true) : ∀ c, o.op ≠ .defer c := by
  intro c e
  unfold noDef at h
  rw [e] at h
  cases h
theorem trOp_noDef {P : Program} {o : Oper} {ao : AOp} (h : trOp P o = some ao) : ∀ c, o.op ≠ .defer c := by
  intro c e
  unfold trOp at h
  rw [e] at h
  cases h

def okDst (N : Nat) : Option Nat → Bool
  | none => true
  | some d => decide (d < N)

def trIt (P : Program) (N : Nat) (ops : Array Oper) (o : Oper) : Option AIt :=
  (guardO (okDst N o.dst)).bind fun _ => (trOp P o).bind fun ao => match o.guard with
  | none => some ⟨none, o.dst, ao⟩
  | some (j, want) => ((ops[j]?).bind (·.dst)).map fun t => ⟨some (t, want), o.dst, ao⟩

def trItY (P : Program) (N : Nat) (ops : Array Oper) (o : Oper) : Option AIt :=
  (guardO (okDst N o.dst)).bind fun _ => (trOpY P o).bind fun ao => match o.guard with
  | none => some ⟨none, o.dst, ao⟩
  | some (j, want) => ((ops[j]?).bind (·.dst)).map fun t => ⟨some (t, want), o.dst, ao⟩

section
variable {P : Program} {w0 w w' : World} {env0 env : Env} {bad0 : Bs} {fps : List Nat} {base : Nat → Prop} {N : Nat} {s : St} {a : Act} {o : Oper} {ops : Array Oper} {rest : List Oper}
  {Q : Exit → Act → World → Prop} {K : St → Prop}

theorem okDst_eq {d : Option Nat} (h : okDst N d = true) : ∀ n, d = some n → n < N := by
  intro n e
  subst e
  simpa [okDst] using h

theorem undef_rel {bad : Nat → Prop} : VRel w env bad (.tup []) undef := .tup (vs := []) rfl (fun i h => by simp at h)

theorem tup0_of {bad : Nat → Prop} {v : AV} {u : Value} (h : VRel w env bad v u) (hv : v = .tup []) : u = undef := by
  subst hv
  cases h with
  | @tup _ vs hn _ =>
    have : vs = [] := List.eq_nil_of_length_eq_zero (by simpa using hn.symm)
    rw [this]
    rfl

theorem R.skip (hR : R P w0 env0 bad0 fps base N s a w) {d : Option Nat} (hd : ∀ n, d = some n → n < N) : R P w0 env0 bad0 fps base N (s.put d (.tup [])) (a.put d undef) w := by
  obtain ⟨⟨env, hrs, hsl, hev⟩, hsz, hdf⟩ := hR
  exact R.put' (regs' := s.regs) hsz hdf hsl hev hrs (Ev.refl _ _ _) hd undef_rel

/-- What the guard's slot holds is what is yielded. -/
theorem yields_bool {j t : Nat} {b : Bool} (hj : (ops[j]?).bind (·.dst) = some t) (hR : R P w0 env0 bad0 fps base N s a w) (h : lk s.slots t = .c (.p (.v (.bool b)))) : yielded ops a.tmps j = some b := by
  obtain ⟨⟨env, hrs, hsl, hev⟩, hsz, hdf⟩ := hR
  have hv := (val_of (hsl t) (x := .bool b) (by rw [h]; rfl)).1
  have hx : a.tmps[t]? = some (.bool b) := by
    rw [Array.getD_eq_getD_getElem?] at hv
    cases hg : a.tmps[t]? with
    | none => rw [hg] at hv; cases hv
    | some x => rw [hg] at hv; exact congrArg some hv
  simp only [yielded, hj, Option.bind_some, hx]
theorem yields_none {j t : Nat} (hj : (ops[j]?).bind (·.dst) = some t) (hR : R P w0 env0 bad0 fps base N s a w) (h : lk s.slots t = .tup []) : yielded ops a.tmps j = none := by
  obtain ⟨⟨env, hrs, hsl, hev⟩, hsz, hdf⟩ := hR
  have hv : a.tmps.getD t undef = undef := tup0_of (hsl t) h
  rw [Array.getD_eq_getD_getElem?] at hv
  cases hg : a.tmps[t]? with
  | none => simp only [yielded, hj, Option.bind_some, hg]
  | some x =>
    rw [hg] at hv
    have : x = undef := hv
    subst this
    simp only [yielded, hj, Option.bind_some, hg, undef]

theorem it_if {next : Act → World → Prop} {it : AIt} (htr : trIt P N ops o = some it) (h : itW P it s K) (hR : R P w0 env0 bad0 fps base N s a w)
    (hK : ∀ s' a' w', K s' → R P w0 env0 bad0 fps base N s' a' w' → next a' w') : if Region.wanted o (yielded ops a.tmps) then o.wp P a w next Q else next (a.put o.dst undef) w := by
  simp only [trIt, Option.bind_eq_some_iff] at htr
  obtain ⟨u, hu, ao, hao, htr⟩ := htr
  have hd := okDst_eq (guardO_eq.1 hu)
  have hs : SndW P o ao := (trOp_snd hao).wp
  cases hg : o.guard with
  | none =>
    rw [hg] at htr
    cases htr
    simp only [Region.wanted, hg, if_true]
    exact hs hd h hR fun s' a' w' k r => hK s' a' w' k r
  | some q =>
    obtain ⟨j, want⟩ := q
    rw [hg] at htr
    obtain ⟨t, ht, e⟩ := Option.map_eq_some_iff.1 htr
    subst e
    simp only [itW] at h
    split at h
    · rename_i b hb
      have hy := yields_bool ht hR hb
      simp only [Region.wanted, hg, hy]
      by_cases hbw : b = want
      · subst hbw
        rw [if_pos (by simp)]
        exact hs hd (h.1 rfl) hR fun s' a' w' k r => hK s' a' w' k r
      · rw [if_neg (by simpa using hbw)]
        exact hK _ _ _ (h.2 hbw) (hR.skip hd)
    · rename_i hb
      have hy := yields_none ht hR hb
      simp only [Region.wanted, hg, hy]
      rw [if_neg (by simp)]
      exact hK _ _ _ h (hR.skip hd)
    · exact h.elim

theorem trOpY_snd {ao : AOp} (h : trOpY P o = some ao) {ro : Option Nat} {n : Nat} {next : Act → World → Prop} {K : St → Prop} (hd : ∀ n, o.dst = some n → n < N) (hw : opW P ao s K) (hR : R P w0 env0 bad0 fps base N s a w)
    (hK : ∀ s' a' w', K s' → R P w0 env0 bad0 fps base N s' a' w' → next a' w') : o.wpIn (Fw ro) n P a w next Q := by
  unfold trOpY at h
  split at h
  · rename_i t as ts he
    obtain ⟨l, hl, rfl⟩ := Option.map_eq_some_iff.1 h
    exact sound_cally he rfl hl hd hw hR hK
  · exact wp_in (trOp_noDef h) ((trOp_snd h).wp hd hw hR hK)

theorem it_ifY {ro : Option Nat} {n : Nat} {next : Act → World → Prop} {it : AIt} (htr : trItY P N ops o = some it) (h : itW P it s K) (hR : R P w0 env0 bad0 fps base N s a w)
    (hK : ∀ s' a' w', K s' → R P w0 env0 bad0 fps base N s' a' w' → next a' w') : if Region.wanted o (yielded ops a.tmps) then o.wpIn (Fw ro) n P a w next Q else (∀ f, o.about P w a.eval = some f → (Fw ro).fn f) ∧ next (a.put o.dst undef) w := by
  simp only [trItY, Option.bind_eq_some_iff] at htr
  obtain ⟨u, hu, ao, hao, htr⟩ := htr
  have hd := okDst_eq (guardO_eq.1 hu)
  cases hg : o.guard with
  | none =>
    rw [hg] at htr
    cases htr
    simp only [Region.wanted, hg, if_true]
    exact trOpY_snd hao hd h hR fun s' a' w' k r => hK s' a' w' k r
  | some q =>
    obtain ⟨j, want⟩ := q
    rw [hg] at htr
    obtain ⟨t, ht, e⟩ := Option.map_eq_some_iff.1 htr
    subst e
    simp only [itW] at h
    split at h
    · rename_i b hb
      have hy := yields_bool ht hR hb
      simp only [Region.wanted, hg, hy]
      by_cases hbw : b = want
      · subst hbw
        rw [if_pos (by simp)]
        exact trOpY_snd hao hd (h.1 rfl) hR fun s' a' w' k r => hK s' a' w' k r
      · rw [if_neg (by simpa using hbw)]
        exact ⟨fun _ _ => trivial, hK _ _ _ (h.2 hbw) (hR.skip hd)⟩
    · rename_i hb
      have hy := yields_none ht hR hb
      simp only [Region.wanted, hg, hy]
      rw [if_neg (by simp)]
      exact ⟨fun _ _ => trivial, hK _ _ _ h (hR.skip hd)⟩
    · exact h.elim

theorem it_sound {it : AIt} (htr : trIt P N ops o = some it) (h : itW P it s K) (hR : R P w0 env0 bad0 fps base N s a w)
    (hK : ∀ s' a' w', K s' → R P w0 env0 bad0 fps base N s' a' w' → wpList P ops Q rest a' w') : wpList P ops Q (o :: rest) a w :=
  wpList_step fun _ hK' => it_if htr h hR fun s' a' w' k r => hK' _ _ (hK s' a' w' k r)

theorem it_op {next : Act → World → Prop} {it : AIt} {i : Nat} (hi : ops[i]? = some o) (htr : trIt P N ops o = some it) (h : itW P it s K) (hR : R P w0 env0 bad0 fps base N s a w)
    (hK : ∀ s' a' w', K s' → R P w0 env0 bad0 fps base N s' a' w' → next a' w') : wpOp P ops Q i next a w := by
  have := it_if (Q := Q) htr h hR hK
  unfold wpOp
  simp only [hi]
  split
  · rename_i hw; rw [if_pos hw] at this; exact .inl this
  · rename_i hw; rw [if_neg hw] at this; exact this

theorem upon_put {o : Oper} {a : Act} {next : Act → World → Prop} {Q : Exit → Act → World → Prop} {r : Result Next} (h : o.upon P a next Q r) : o.upon P a (fun a' w' => next a' w' ∧ ∃ v, a'.tmps = (a.put o.dst v).tmps) Q r := by
  unfold Oper.upon at h ⊢
  split at h
  · exact ⟨h, _, rfl⟩
  · exact ⟨h, _, rfl⟩
  · exact ⟨h, undef, by cases o.dst <;> rfl⟩
  · refine Calls.mono h fun e w' k => ?_
    cases e with
    | returned v => exact ⟨k, _, rfl⟩
    | panicked c => exact k
    | outgrown => exact k
  · exact Rows.mono h fun v w' k => ⟨k, _, rfl⟩
  · exact h
  · exact h.elim
/-- An operation turns its own slot alone. -/
theorem wpOp_put {next : Act → World → Prop} {i : Nat} (hi : ops[i]? = some o) (h : wpOp P ops Q i next a w) : wpOp P ops Q i (fun a' w' => next a' w' ∧ ∃ v, a'.tmps = (a.put o.dst v).tmps) a w := by
  unfold wpOp at h ⊢
  simp only [hi] at h ⊢
  split
  · rename_i hw
    rw [if_pos hw] at h
    exact h.imp (fun h => upon_put h) fun h => h
  · rename_i hw
    rw [if_neg hw] at h
    exact ⟨h, _, rfl⟩

theorem it_time {nx : Act → Prop} {it : AIt} (hp : it.op.timeless = true) (htr : trIt P N ops o = some it) (h : itW P it s K) (hR : R P w0 env0 bad0 fps base N s a w)
    (hK : ∀ s' a', K s' → R P w0 env0 bad0 fps base N s' a' w → nx a') : ∃ v, Yields P ops o v a ∧ nx (a.put o.dst v) := by
  simp only [trIt, Option.bind_eq_some_iff] at htr
  obtain ⟨u, hu, ao, hao, htr⟩ := htr
  have hd := okDst_eq (guardO_eq.1 hu)
  cases hg : o.guard with
  | none =>
    rw [hg] at htr
    cases htr
    obtain ⟨v, hv, hn⟩ := (trOp_snd hao).time hp hd h hR hK
    exact ⟨v, .inl ⟨by simp only [Region.wanted, hg], hv⟩, hn⟩
  | some q =>
    obtain ⟨j, want⟩ := q
    rw [hg] at htr
    obtain ⟨t, ht, e⟩ := Option.map_eq_some_iff.1 htr
    subst e
    simp only [itW] at h
    split at h
    · rename_i b hb
      have hy := yields_bool ht hR hb
      by_cases hbw : b = want
      · subst hbw
        obtain ⟨v, hv, hn⟩ := (trOp_snd hao).time hp hd (h.1 rfl) hR hK
        exact ⟨v, .inl ⟨by simp only [Region.wanted, hg, hy]; simp, hv⟩, hn⟩
      · exact ⟨undef, .inr ⟨by simp only [Region.wanted, hg, hy]; simpa using hbw, rfl⟩, hK _ _ (h.2 hbw) (hR.skip hd)⟩
    · rename_i hb
      have hy := yields_none ht hR hb
      exact ⟨undef, .inr ⟨by simp only [Region.wanted, hg, hy]; rfl, rfl⟩, hK _ _ h (hR.skip hd)⟩
    · exact h.elim

theorem it_still {it : AIt} {nx : Act → Prop} (hp : it.op.pure = true) (htr : trIt P N ops o = some it) (h : itW P it s K) (hR : R P w0 env0 bad0 fps base N s a w)
    (hK : ∀ s' a', K s' → R P w0 env0 bad0 fps base N s' a' w → wpStill P ops w nx rest a') : wpStill P ops w nx (o :: rest) a := by
  simp only [trIt, Option.bind_eq_some_iff] at htr
  obtain ⟨u, hu, ao, hao, htr⟩ := htr
  have hd := okDst_eq (guardO_eq.1 hu)
  refine wpStill_step fun K' hK' => ?_
  cases hg : o.guard with
  | none =>
    rw [hg] at htr
    cases htr
    simp only [Region.wanted, hg, if_true]
    exact pure_still ((trOp_snd hao).still hp hd h hR fun s' a' k r => hK' _ (hK s' a' k r))
  | some q =>
    obtain ⟨j, want⟩ := q
    rw [hg] at htr
    obtain ⟨t, ht, e⟩ := Option.map_eq_some_iff.1 htr
    subst e
    simp only [itW] at h
    split at h
    · rename_i b hb
      have hy := yields_bool ht hR hb
      simp only [Region.wanted, hg, hy]
      by_cases hbw : b = want
      · subst hbw
        rw [if_pos (by simp)]
        exact pure_still ((trOp_snd hao).still hp hd (h.1 rfl) hR fun s' a' k r => hK' _ (hK s' a' k r))
      · rw [if_neg (by simpa using hbw)]
        exact hK' _ (hK _ _ (h.2 hbw) (hR.skip hd))
    · rename_i hb
      have hy := yields_none ht hR hb
      simp only [Region.wanted, hg, hy]
      rw [if_neg (by simp)]
      exact hK' _ (hK _ _ h (hR.skip hd))
    · exact h.elim

theorem ops_sound (hK : ∀ s' a' w', K s' → R P w0 env0 bad0 fps base N s' a' w' → Q .normal a' w') : ∀ {l : List Oper} {its : List AIt} {s : St} {a : Act} {w : World}, allOf (trIt P N ops) l = some its → opsW P K its s → R P w0 env0 bad0 fps base N s a w → wpList P ops Q l a w
  | [], its, s, a, w, htr, h, hR => by cases htr; exact wpList_nil (hK _ _ _ h hR)
  | o :: l, its, s, a, w, htr, h, hR => by
    simp only [allOf, Option.bind_eq_some_iff, Option.map_eq_some_iff] at htr
    obtain ⟨it, h1, its', h2, rfl⟩ := htr
    exact it_sound h1 h hR fun s' a' w' k r => ops_sound hK h2 k r

theorem ops_soundY {ro : Option Nat} {n : Nat} (hK : ∀ s' a' w', K s' → R P w0 env0 bad0 fps base N s' a' w' → Q .normal a' w') : ∀ {l : List Oper} {its : List AIt} {s : St} {a : Act} {w : World}, allOf (trItY P N ops) l = some its → opsW P K its s → R P w0 env0 bad0 fps base N s a w → wpListIn (Fw ro) n P ops Q l a w
  | [], its, s, a, w, htr, h, hR => by cases htr; exact wpListIn_nil (hK _ _ _ h hR)
  | o :: l, its, s, a, w, htr, h, hR => by
    simp only [allOf, Option.bind_eq_some_iff, Option.map_eq_some_iff] at htr
    obtain ⟨it, h1, its', h2, rfl⟩ := htr
    exact wpListIn_step fun _ hK' => it_ifY h1 h hR fun s' a' w' k r => hK' _ _ (ops_soundY hK h2 k r)

theorem ops_still {nx : Act → Prop} (hK : ∀ s' a', K s' → R P w0 env0 bad0 fps base N s' a' w → nx a') : ∀ {l : List Oper} {its : List AIt} {s : St} {a : Act}, its.all (·.op.pure) = true → allOf (trIt P N ops) l = some its → opsW P K its s → R P w0 env0 bad0 fps base N s a w → wpStill P ops w nx l a
  | [], its, s, a, _, htr, h, hR => by cases htr; exact wpStill_nil (hK _ _ h hR)
  | o :: l, its, s, a, hp, htr, h, hR => by
    simp only [allOf, Option.bind_eq_some_iff, Option.map_eq_some_iff] at htr
    obtain ⟨it, h1, its', h2, rfl⟩ := htr
    rw [List.all_cons, Bool.and_eq_true] at hp
    exact it_still hp.1 h1 h hR fun s' a' k r => ops_still hK hp.2 h2 k r

theorem opsW_append : ∀ {l m : List AIt} {s : St}, opsW P K (l ++ m) s ↔ opsW P (opsW P K m) l s
  | [], _, _ => Iff.rfl
  | it :: l, m, s => by
    have : opsW P K (l ++ m) = opsW P (opsW P K m) l := funext fun s' => propext opsW_append
    simp only [List.cons_append, opsW, this]

theorem allOf_split {α β : Type} {f : α → Option β} : ∀ {l : List α} {m : List β} (n : Nat), allOf f l = some m → allOf f (l.take n) = some (m.take n) ∧ allOf f (l.drop n) = some (m.drop n)
  | l, m, 0, h => ⟨by simp [allOf], by simpa using h⟩
  | [], m, n + 1, h => by cases h; exact ⟨rfl, rfl⟩
  | x :: l, m, n + 1, h => by
    simp only [allOf, Option.bind_eq_some_iff, Option.map_eq_some_iff] at h
    obtain ⟨b, h1, m', h2, rfl⟩ := h
    obtain ⟨k1, k2⟩ := allOf_split n h2
    exact ⟨by simp [allOf, h1, k1], by simpa using k2⟩

theorem R.draw (hR : R P w0 env0 bad0 fps base N s a w) : R P w0 env0 bad0 fps base N s a { w with drawn := w.drawn + 1 } := by
  obtain ⟨⟨env, hrs, hsl, hev⟩, hsz, hdf⟩ := hR
  have he : Ev w env (badOf base env s.regs) { w with drawn := w.drawn + 1 } env (badOf base env s.regs) := ⟨⟨Nat.le_refl _, fun _ _ _ => rfl⟩, fun _ _ h => h, Env.le_refl _⟩
  exact ⟨⟨env, hrs.draw rfl rfl rfl rfl, fun n => (hsl n).ev he, hev.trans he⟩, hsz, hdf⟩

/-- A dynamic call that may be a loop's yield. -/
def noCv (it : AIt) : Bool := match it.op with
  | .callv _ (.t _) _ => false
  | _ => true
def drawOk (P : Program) (ops : Array Oper) (its : List AIt) : Bool :=
  P.follows .mixedOrders && (ops.toList.all noDef && ((Region.lexB .any ops && its.all (·.op.pure)) || (List.range ops.size).any fun n => Region.lexTailB .any ops n && (its.take n).all (·.op.pure)))

def trReg (P : Program) (N : Nat) (ops : Array Oper) (draw : Bool) : Option (List AIt) :=
  if draw = true then (allOf (trIt P N ops) ops.toList).bind fun its => (guardO (drawOk P ops its && its.all noCv)).map fun _ => its else allOf (trItY P N ops) ops.toList

theorem still_any {l : List Oper} (hB : Region.lexB .any l.toArray = true) (h : wpStill P l.toArray w (fun a' => Q .normal a' w) l a) : wpAny P .any l.toArray Q l.toArray.size (Array.replicate l.toArray.size false) a w := by
  simp only [Region.lexB, Bool.and_eq_true] at hB
  refine wpAny_of_still (Q := fun a' => Q .normal a' w) (fun _ h => h) _ _ _ ?_
  have := wpAnyS_lex (md := .any) hB.1 l 0 (Array.replicate l.toArray.size false) a (by simp) (by simpa using hB.2) h
  simpa using this
theorem tail_any {l : List Oper} (n : Nat) (hB : Region.lexTailB .any l.toArray n = true) (h : wpStill P l.toArray w (fun a' => wpList P l.toArray Q (l.drop n) a' w) (l.take n) a) : wpAny P .any l.toArray Q l.toArray.size (Array.replicate l.toArray.size false) a w := by
  simp only [Region.lexTailB, Bool.and_eq_true, decide_eq_true_eq] at hB
  obtain ⟨⟨⟨⟨hsel, hn⟩, hs⟩, hc⟩, hlex⟩ := hB
  have hn' : n < l.length := by simpa using hn
  have htl : (l.take n).length = n := by simp; omega
  have hdl : (l.drop n).length = l.toArray.size - n := by simp
  have inv0 : HeadInv .any l.toArray n (Array.replicate l.toArray.size false) := ⟨by simp, fun j oj _ hl => (by rw [getD_replicate_false] at hl; cases hl), fun t _ ht => getD_in (by simpa using ht) (getD_replicate_false _ _)⟩
  have H := wpAnyL_lex (md := .any) (g := l.toArray.size - n) hsel hs hc hn (l.take n) 0 _ a (fun j hj => by
    have hj' : j < n := by rw [htl] at hj; exact hj
    simp [hj']) (by simpa using htl) inv0 (by rw [htl]; exact hlex) h
  have := wpAny_of_head (Q' := Q) (g := l.toArray.size - n) (fun listed a' hL => by
    have := wpAny_of_seq (md := .any) (Q' := Q) (l.drop n) n listed a' w (fun j => by simp [List.getElem?_drop]) (by rw [hdl]; exact hL.1) hL.2
    rwa [hdl] at this) _ _ _ H
  rw [htl, show n + (l.toArray.size - n) = l.toArray.size by omega] at this
  exact this
theorem all_noDef {ops : Array Oper} (h : ops.toList.all noDef = true) : ∀ (i : Nat) (o : Oper), ops[i]? = some o → ∀ c, o.op ≠ .defer c := fun i o hi => noDef_eq (by
  rw [List.all_eq_true] at h
  exact h o (List.mem_of_getElem? (i := i) (by simpa using hi)))
/-- A region that draws, by its orders. -/
theorem draw_in {ro : Option Nat} {n id : Nat} (hm : P.follows .mixedOrders = true) (hd : ops.toList.all noDef = true) (h : wpAny P .any ops (noOut Q) ops.size (Array.replicate ops.size false) a { w with drawn := w.drawn + 1 }) : (Code.region id ops true).wpIn (Fw ro) n P Q a w :=
  wpIn_mono (Q := noOut Q) (wpIn_region_any hm (any_in (all_noDef hd) noOut_lets _ _ _ _ h)) fun e a w q => by cases e <;> first | exact q | exact q.elim

theorem reg_sound {ro : Option Nat} {n id : Nat} {draw : Bool} {its : List AIt} (htr : trReg P N ops draw = some its) (h : opsW P K its s) (hR : R P w0 env0 bad0 fps base N s a w)
    (hK : ∀ s' a' w', K s' → R P w0 env0 bad0 fps base N s' a' w' → Q .normal a' w') : (Code.region id ops draw).wpIn (Fw ro) n P Q a w := by
  cases draw with
  | false =>
    simp only [trReg, Bool.false_eq_true, if_false] at htr
    exact wpIn_region_list (ops_soundY hK htr h hR)
  | true =>
    simp only [trReg, if_true, Option.bind_eq_some_iff, Option.map_eq_some_iff] at htr
    obtain ⟨its', h1, u, hu, e⟩ := htr
    subst e
    have hok : drawOk P ops its' = true := ((Bool.and_eq_true _ _).mp (guardO_eq.1 hu)).1
    simp only [drawOk, Bool.and_eq_true, Bool.or_eq_true, List.any_eq_true] at hok
    obtain ⟨hm, hnd, ⟨hl, hp⟩ | ⟨k, hk, hl, hp⟩⟩ := hok
    · refine draw_in hm hnd ?_
      cases ops with
      | mk l => exact still_any hl (ops_still (fun s' a' k r => hK s' a' _ k r) hp h1 h hR.draw)
    · obtain ⟨k1, k2⟩ := allOf_split k h1
      refine draw_in hm hnd ?_
      cases ops with
      | mk l =>
        refine tail_any k hl ?_
        rw [← List.take_append_drop k its', opsW_append] at h
        exact ops_still (fun s' a' k r => ops_sound (Q := noOut Q) hK k2 k r) hp k1 h hR.draw
end

/-- All but panics. -/
def noPanic (Q : Exit → Act → World → Prop) : Exit → Act → World → Prop
  | .panic _, _, _ => False
  | e, a, w => Q e a w

theorem opW_map {P : Program} {op : AOp} {l : List AX} {s s' : St} {K K' : St → Prop} (hl : op.loc = some l) (hr : s'.regs = s.regs) (hev : ∀ x ∈ l, s'.ev x = s.ev x)
    (hK : ∀ v rg, K (s.putr op.dst v rg) → K' (s'.putr op.dst v rg)) (h : opW P op s K) : opW P op s' K' := by
  have hK0 : ∀ v, K (s.put op.dst v) → K' (s'.put op.dst v) := fun v h => by
    have := hK v s.regs h
    rw [← hr] at this
    exact this
  cases op with
  | x d k args =>
    simp only [AOp.loc] at hl
    split at hl
    · cases hl
      simp only [opW] at h ⊢
      rw [map_ev hev, hr]
      exact xW_mono (fun v rg hk => hK v rg hk) h
    · cases hl
  | mv d x =>
    cases hl
    simp only [opW] at h ⊢
    rw [hev x (by simp)]
    exact hK0 _ h
  | bin d op x y =>
    cases hl
    simp only [opW] at h ⊢
    rw [hev x (by simp), hev y (by simp)]
    split at h
    · exact binW_mono (fun v hv => hK0 _ hv) h
    · exact h.elim
  | eqs d neg t ks x y =>
    cases hl
    simp only [opW] at h ⊢
    rw [hev x (by simp), hev y (by simp)]
    split at h
    · split at h
      · exact ⟨h.1, hK0 _ h.2⟩
      · exact h.elim
    · exact h.elim
  | beq d neg x y =>
    cases hl
    simp only [opW] at h ⊢
    rw [hev x (by simp), hev y (by simp)]
    split at h
    · exact hK0 _ h
    · exact h.elim
  | pick d c x y =>
    cases hl
    simp only [opW] at h ⊢
    rw [hev c (by simp), hev x (by simp), hev y (by simp)]
    split at h
    · exact ⟨fun e => hK0 _ (h.1 e), fun e => hK0 _ (h.2 e)⟩
    · exact h.elim
  | un d op x =>
    cases hl
    simp only [opW] at h ⊢
    rw [hev x (by simp)]
    split at h <;> first
      | exact hK0 _ h
      | exact h.elim
  | cvi d k x =>
    cases hl
    simp only [opW] at h ⊢
    rw [hev x (by simp)]
    split at h <;> first
      | exact hK0 _ h
      | exact h.elim
  | b2s d x =>
    cases hl
    simp only [opW] at h ⊢
    rw [hev x (by simp), hr]
    split at h
    · obtain ⟨h1, h2, bs, h3, h4⟩ := h
      exact ⟨h1, h2, bs, h3, hK0 _ h4⟩
    · exact h.elim
  | load d n agg x =>
    cases hl
    simp only [opW] at h ⊢
    rw [hev x (by simp), hr]
    split at h
    · split at h
      · obtain ⟨v, h1, h2, h3⟩ := h
        exact ⟨v, h1, h2, hK0 _ h3⟩
      · exact h.elim
    · split at h
      · obtain ⟨h0, c, v, h1, h2, h3, h4⟩ := h
        exact ⟨h0, c, v, h1, h2, h3, hK0 _ h4⟩
      · obtain ⟨h0, c, v, h1, h2, h3, h4⟩ := h
        exact ⟨h0, c, v, h1, h2, h3, hK0 _ h4⟩
      · exact h.elim
    · obtain ⟨v, h1, h2, h3⟩ := h
      exact ⟨v, h1, h2, hK0 _ h3⟩
    · exact h.elim
  | nilc d x =>
    cases hl
    simp only [opW] at h ⊢
    rw [hev x (by simp)]
    split at h <;> first
      | exact hK0 _ h
      | exact h.elim
  | fad d off x =>
    cases hl
    simp only [opW] at h ⊢
    rw [hev x (by simp)]
    split at h <;> first
      | exact hK0 _ h
      | exact h.elim
  | fld d off n agg x =>
    cases hl
    simp only [opW] at h ⊢
    rw [hev x (by simp)]
    split at h
    · obtain ⟨v, h1, h2, h3⟩ := h
      exact ⟨v, h1, h2, hK0 _ h3⟩
    · exact h.elim
  | ixs d sz x i =>
    cases hl
    simp only [opW] at h ⊢
    rw [hev x (by simp), hev i (by simp)]
    split at h
    · obtain ⟨h0, h1, c, h2, h3⟩ := h
      exact ⟨h0, h1, c, h2, hK0 _ h3⟩
    · obtain ⟨h0, h1, h2, h3⟩ := h
      exact ⟨h0, h1, h2, hK0 _ h3⟩
    · exact h.elim
  | ixa d len sz x i =>
    cases hl
    simp only [opW] at h ⊢
    rw [hev x (by simp), hev i (by simp)]
    split at h
    · obtain ⟨h0, h1, h2, h3⟩ := h
      exact ⟨h0, h1, h2, hK0 _ h3⟩
    · obtain ⟨h1, h2, h3⟩ := h
      exact ⟨h1, h2, hK0 _ h3⟩
    · obtain ⟨h1, h2, h3⟩ := h
      exact ⟨h1, h2, hK0 _ h3⟩
    · exact h.elim
  | ixv d len sz agg x i =>
    cases hl
    simp only [opW] at h ⊢
    rw [hev x (by simp), hev i (by simp)]
    split at h
    · obtain ⟨h0, h1, v, h2, h3, h4⟩ := h
      exact ⟨h0, h1, v, h2, h3, hK0 _ h4⟩
    · exact h.elim
  | ixt d x i =>
    cases hl
    simp only [opW] at h ⊢
    rw [hev x (by simp), hev i (by simp)]
    split at h
    · obtain ⟨h0, h1, h2⟩ := h
      exact ⟨h0, h1, hK0 _ h2⟩
    · exact h.elim
  | len d x =>
    cases hl
    simp only [opW] at h ⊢
    rw [hev x (by simp)]
    split at h <;> first
      | exact hK0 _ h
      | exact h.elim
  | lens d x =>
    cases hl
    simp only [opW] at h ⊢
    rw [hev x (by simp)]
    split at h <;> first
      | exact hK0 _ h
      | exact h.elim
  | mm d mx x y =>
    cases hl
    simp only [opW] at h ⊢
    rw [hev x (by simp), hev y (by simp)]
    split at h <;> first
      | exact hK0 _ h
      | exact h.elim
  | ext d x i =>
    cases hl
    simp only [opW] at h ⊢
    rw [hev x (by simp)]
    split at h
    · obtain ⟨v, h1, h2⟩ := h
      exact ⟨v, h1, hK0 _ h2⟩
    · exact h.elim
  | sls d sz x lo hi mx =>
    cases hl
    simp only [opW] at h ⊢
    have e1 := opt_ev (s := s) (s' := s') (o := lo) fun x hx => hev x (by simp [hx])
    have e2 := opt_ev (s := s) (s' := s') (o := hi) fun x hx => hev x (by simp [hx])
    have e3 := opt_ev (s := s) (s' := s') (o := mx) fun x hx => hev x (by simp [hx])
    rw [hev x (by simp), e1, e2, e3]
    split at h
    · split at h
      · obtain ⟨h0, h1, h2, h3, h4⟩ := h
        exact ⟨h0, h1, h2, h3, hK0 _ h4⟩
      · obtain ⟨h0, h1, h2, h3, h4, h5⟩ := h
        exact ⟨h0, h1, h2, h3, h4, hK0 _ h5⟩
      · exact h.elim
    · split at h
      · obtain ⟨h0, h1, h2, h3, h4, h5⟩ := h
        exact ⟨h0, h1, h2, h3, h4, hK0 _ h5⟩
      · obtain ⟨h0, h1, h2, h3, h4, h5, h6⟩ := h
        exact ⟨h0, h1, h2, h3, h4, h5, hK0 _ h6⟩
      · exact h.elim
    · split at h
      · exact ⟨h.1, h.2.1, hK0 _ h.2.2⟩
      · exact ⟨h.1, h.2.1, h.2.2.1, hK0 _ h.2.2.2⟩
      · exact h.elim
    · exact h.elim
  | build d zs parts =>
    cases hl
    simp only [opW] at h ⊢
    have e : (parts.map fun (off, sz, x) => (off, sz, s'.ev x)) = parts.map fun (off, sz, x) => (off, sz, s.ev x) :=
      List.map_congr_left fun p hp => by
        obtain ⟨off, sz, x⟩ := p
        simp only
        rw [hev x (List.mem_map.2 ⟨_, hp, rfl⟩)]
    split at h
    · rename_i l' hl'
      have hl2 : fillA (zs.map fun z => .p (.v z)) (parts.map fun (off, sz, x) => (off, sz, s'.ev x)) = some l' := by rw [e]; exact hl'
      simp only [hl2]
      exact hK0 _ h
    · exact h.elim
  | call d f args =>
    cases hl
    simp only [opW] at h ⊢
    rw [map_ev hev, hr]
    exact h.mono fun r rg hk => hK _ _ hk
  | callv d x args =>
    cases hl
    simp only [opW] at h ⊢
    rw [hev x (by simp), map_ev (l := args) fun y hy => hev y (by simp [hy]), hr]
    split at h
    · exact h.mono fun r rg hk => hK _ _ hk
    · exact h.elim
  | mkf d f a b =>
    cases hl
    simp only [opW] at h ⊢
    rw [allOf_congr (l := a) (f := fun x => faOf (s'.ev x)) (g := fun x => faOf (s.ev x)) fun y hy => by rw [hev y (by simp [hy])],
      allOf_congr (l := b) (f := fun x => faOf (s'.ev x)) (g := fun x => faOf (s.ev x)) fun y hy => by rw [hev y (by simp [hy])]]
    split at h <;> first
      | exact hK0 _ h
      | exact h.elim
  | _ => cases hl

def AIt.reads (it : AIt) : List AX := (match it.guard with | some (t, _) => [.t t] | none => []) ++ (it.op.loc.getD [])
theorem itW_map {P : Program} {it : AIt} {s s' : St} {K K' : St → Prop} (hl : it.op.loc.isSome = true) (hd : it.op.dst = it.d) (hr : s'.regs = s.regs) (hev : ∀ x ∈ it.reads, s'.ev x = s.ev x)
    (hK : ∀ v rg, K (s.putr it.d v rg) → K' (s'.putr it.d v rg)) (h : itW P it s K) : itW P it s' K' := by
  obtain ⟨l, hl⟩ := Option.isSome_iff_exists.1 hl
  have hev2 : ∀ x ∈ l, s'.ev x = s.ev x := fun x hx => hev x (by simp [AIt.reads, hl, hx])
  have ho : opW P it.op s K → opW P it.op s' K' := fun h => opW_map hl hr hev2 (by rw [hd]; exact hK) h
  have hK0 : ∀ v, K (s.put it.d v) → K' (s'.put it.d v) := fun v h => by
    have := hK v s.regs h
    rw [← hr] at this
    exact this
  unfold itW at h ⊢
  cases hg : it.guard with
  | none =>
    simp only [hg] at h ⊢
    exact ho h
  | some tw =>
    obtain ⟨t, w⟩ := tw
    simp only [hg] at h ⊢
    have e : lk s'.slots t = lk s.slots t := hev (.t t) (by simp [AIt.reads, hg])
    rw [e]
    split at h
    · exact ⟨fun e => ho (h.1 e), fun e => hK0 _ (h.2 e)⟩
    · exact hK0 _ h
    · exact h.elim

/-- Operations that leave the rows as they are, each with the one value that it tells. -/
def parW (P : Program) : List AIt → St → (St → Prop) → Prop
  | [], s, C => C s
  | it :: r, s, C => ∃ d v, it.d = some d ∧ (∀ K : St → Prop, K ⟨(d, v) :: s.slots, s.regs⟩ → itW P it s K) ∧ parW P r ⟨(d, v) :: s.slots, s.regs⟩ C
theorem V_nil {P : Program} {s : St} {C : St → Prop} (h : C s) : parW P [] s C := h
theorem V_cons {P : Program} {g : Option (Nat × Bool)} {d : Nat} {op : AOp} {r : List AIt} {sl : List (Nat × AV)} {rg : List Reg} {v : AV} {C : St → Prop} (h : ∀ K : St → Prop, K ⟨(d, v) :: sl, rg⟩ → itW P ⟨g, some d, op⟩ ⟨sl, rg⟩ K) (k : parW P r ⟨(d, v) :: sl, rg⟩ C) : parW P (⟨g, some d, op⟩ :: r) ⟨sl, rg⟩ C := ⟨d, v, rfl, h, k⟩

def dsts (its : List AIt) : List Nat := its.filterMap (·.d)
/-- No operation reads what it, or a later one, writes; each slot is written once. -/
def locOk : List AIt → Bool
  | [] => true
  | it :: r => it.op.loc.isSome && (it.op.dst == it.d) && (match it.d with
    | some d => !(dsts r).contains d
    | none => false) && it.reads.all (fun x => match x with
    | .t n => !(dsts (it :: r)).contains n
    | _ => true) && locOk r

theorem ev_lk {s s' : St} {x : AX} (h : ∀ n, x = .t n → lk s'.slots n = lk s.slots n) : s'.ev x = s.ev x := by
  cases x with
  | t n => exact h n rfl
  | k v => rfl
  | f i => rfl

theorem parW_spec {P : Program} {C : St → Prop} : ∀ (its : List AIt) (s : St), locOk its = true → parW P its s C → ∃ sF, C sF ∧ sF.regs = s.regs ∧ (∀ t, t ∉ dsts its → lk sF.slots t = lk s.slots t) ∧
    ∀ (k : Nat) (it : AIt), its[k]? = some it → ∃ d, it.d = some d ∧ ∀ s' : St, s'.regs = s.regs → (∀ x ∈ it.reads, s'.ev x = sF.ev x) → itW P it s' fun s1 => s1 = ⟨(d, lk sF.slots d) :: s'.slots, s'.regs⟩
  | [], s, _, h => ⟨s, h, rfl, fun _ _ => rfl, fun k it e => by simp at e⟩
  | it :: r, s, hok, ⟨d, v, hd, h1, h2⟩ => by
    simp only [locOk, hd, Bool.and_eq_true, Bool.not_eq_true', List.all_eq_true] at hok
    obtain ⟨⟨⟨⟨hl, hdst⟩, hnd⟩, hrd⟩, hr⟩ := hok
    obtain ⟨sF, hC, hregs, hlk, hall⟩ := parW_spec r _ hr h2
    have hdd : dsts (it :: r) = d :: dsts r := by simp [dsts, hd]
    have hnd' : d ∉ dsts r := by simpa using hnd
    have hv : lk sF.slots d = v := by
      rw [hlk d hnd']
      simp [lk]
    refine ⟨sF, hC, hregs, fun t ht => ?_, fun k it' e => ?_⟩
    · rw [hdd] at ht
      simp only [List.mem_cons, not_or] at ht
      rw [hlk t ht.2]
      simp [lk, Ne.symm ht.1]
    · cases k with
      | zero =>
        simp only [List.getElem?_cons_zero, Option.some.injEq] at e
        subst e
        refine ⟨d, hd, fun s' hs' hev => ?_⟩
        have hev2 : ∀ x ∈ it.reads, s'.ev x = s.ev x := fun x hx => by
          rw [hev x hx]
          refine ev_lk fun n e => ?_
          subst e
          have := hrd _ hx
          simp only [hdd, Bool.not_eq_true', List.contains_eq_mem, decide_eq_false_iff_not, List.mem_cons, not_or] at this
          rw [hlk n this.2]
          simp [lk, Ne.symm this.1]
        refine itW_map (s := s) (K := fun s1 => s1 = ⟨(d, v) :: s.slots, s.regs⟩) hl (by rw [hd]; simpa using hdst) hs' hev2 (fun v' rg e => ?_) (h1 _ rfl)
        rw [hd] at e ⊢
        simp only [St.putr, St.put, St.mk.injEq, List.cons.injEq, Prod.mk.injEq, true_and, and_true] at e ⊢
        exact ⟨by rw [hv]; exact e.1, by rw [hs']; exact e.2⟩
      | succ k =>
        exact hall k it' (by simpa using e)

/-- What must come up before an operation. -/
def bnd (ops : Array Oper) (k : Nat) : List Nat := match ops[k]? with
  | some o => (o.after.toList.filter (Region.binds .any)).map (·.on)
  | none => []
def clo (ops : Array Oper) (k : Nat) : List Nat := (List.range k).reverse.foldl (fun m i => if m.contains i then m ++ bnd ops i else m) (bnd ops k)
/-- A region whose first n operations leave the rows, and each other, as they are; each later one comes up behind all that stand before it. -/
def parOk (ops : Array Oper) (its : List AIt) (n : Nat) : Bool :=
  locOk (its.take n) && (List.range ops.size).all (fun k => (bnd ops k).all fun i => decide (i < k)) &&
  (List.range n).all (fun k => ((its[k]?).map fun it => it.reads.all fun x => match x with
    | .t t => (List.range n).all fun i => !(((its[i]?).bind (·.d)) == some t) || (bnd ops k).contains i
    | _ => true).getD false) &&
  (List.range ops.size).all (fun k => decide (k < n) || (List.range k).all fun i => (clo ops k).contains i)

theorem countP_lt {α : Type} {p q : α → Bool} : ∀ {l : List α} {a : α}, a ∈ l → (∀ x ∈ l, q x = true → p x = true) → p a = true → q a = false → l.countP q < l.countP p
  | b :: l, a, hm, hi, hp, hq => by
    rcases List.mem_cons.1 hm with rfl | hm'
    · have : l.countP q ≤ l.countP p := List.countP_mono_left fun x hx h => hi x (by simp [hx]) h
      rw [List.countP_cons, List.countP_cons, hp, hq]
      simp; omega
    · have h := countP_lt (l := l) hm' (fun x hx => hi x (by simp [hx])) hp hq
      have hb := hi b (by simp)
      rw [List.countP_cons, List.countP_cons]
      cases hqb : q b
      · simp; omega
      · rw [hb hqb]; simp; omega

theorem clo_sub {ops : Array Oper} {L : Nat → Prop} (hc : ∀ i, L i → ∀ j ∈ bnd ops i, L j) {k : Nat} (hk : ∀ j ∈ bnd ops k, L j) : ∀ j ∈ clo ops k, L j := by
  unfold clo
  generalize (List.range k).reverse = l
  have : ∀ (l : List Nat) (m : List Nat), (∀ j ∈ m, L j) → ∀ j ∈ l.foldl (fun m i => if m.contains i then m ++ bnd ops i else m) m, L j := by
    intro l
    induction l with
    | nil => intro m hm; exact hm
    | cons i l ih =>
      intro m hm
      rw [List.foldl_cons]
      refine ih _ ?_
      split
      · rename_i hi
        intro j hj
        rcases List.mem_append.1 hj with h | h
        · exact hm j h
        · exact hc i (hm i (by simpa using hi)) j h
      · exact hm
  exact this l _ hk

section
variable {P : Program} {w0 : World} {env0 : Env} {bad0 : Bs} {fps : List Nat} {base : Nat → Prop} {N : Nat} {ops : Array Oper} {Q : Exit → Act → World → Prop} {K : St → Prop}
def isL (listed : Array Bool) (i : Nat) : Prop := listed[i]? = some true
theorem ready_mem {listed : Array Bool} (hsz : listed.size = ops.size) {i : Nat} : i ∈ Region.ready .any ops listed ↔ i < ops.size ∧ ¬ isL listed i ∧ ∀ j ∈ bnd ops i, isL listed j := by
  unfold Region.ready
  rw [List.mem_filter, List.mem_range]
  constructor
  · rintro ⟨h1, h2⟩
    simp only [Bool.and_eq_true, Bool.not_eq_true'] at h2
    obtain ⟨h2, h3⟩ := h2
    have ho : ops[i]? = some ops[i] := Array.getElem?_eq_getElem h1
    refine ⟨h1, fun hl => ?_, fun j hj => ?_⟩
    · unfold isL at hl
      rw [Array.getD_eq_getD_getElem?, hl] at h2
      simp at h2
    · rw [ho] at h3
      simp only [Option.map_some, Option.getD_some, Array.all_eq_true_iff_forall_mem] at h3
      unfold bnd at hj
      rw [ho] at hj
      simp only [List.mem_map, List.mem_filter] at hj
      obtain ⟨e, ⟨he, hb⟩, rfl⟩ := hj
      have := h3 e (Array.mem_toList_iff.1 he)
      simp only [hb, Bool.not_true, Bool.false_or] at this
      unfold isL
      rw [Array.getD_eq_getD_getElem?] at this
      cases hx : listed[e.on]? with
      | none => rw [hx] at this; simp at this
      | some b => rw [hx] at this; simp at this; rw [this]
  · rintro ⟨h1, h2, h3⟩
    have ho : ops[i]? = some ops[i] := Array.getElem?_eq_getElem h1
    refine ⟨h1, ?_⟩
    simp only [Bool.and_eq_true, Bool.not_eq_true']
    refine ⟨?_, ?_⟩
    · unfold isL at h2
      rw [Array.getD_eq_getD_getElem?]
      have hlt : i < listed.size := by omega
      rw [Array.getElem?_eq_getElem hlt] at h2 ⊢
      cases hx : listed[i]
      · rfl
      · rw [hx] at h2; exact absurd rfl h2
    · rw [ho]
      simp only [Option.map_some, Option.getD_some, Array.all_eq_true_iff_forall_mem]
      intro e he
      cases hb : Region.binds .any e
      · rfl
      · have := h3 e.on (by unfold bnd; rw [ho]; exact List.mem_map.2 ⟨e, List.mem_filter.2 ⟨Array.mem_toList_iff.2 he, hb⟩, rfl⟩)
        unfold isL at this
        rw [Array.getD_eq_getD_getElem?, this]
        rfl

theorem isL_set {listed : Array Bool} {i j : Nat} (hi : i < listed.size) : isL (listed.setIfInBounds i true) j ↔ j = i ∨ isL listed j := by
  unfold isL
  rw [Array.getElem?_setIfInBounds]
  by_cases e : i = j
  · subst e; simp [hi]
  · simp [e, Ne.symm e]

theorem R.congr {s s' : St} {a : Act} {w : World} (hr : s'.regs = s.regs) (hl : ∀ t, lk s'.slots t = lk s.slots t) (h : R P w0 env0 bad0 fps base N s a w) : R P w0 env0 bad0 fps base N s' a w := by
  obtain ⟨⟨env, h1, h2, h3⟩, h4, h5⟩ := h
  exact ⟨⟨env, by rw [hr]; exact h1, fun n => by rw [hl, hr]; exact h2 n, by rw [hr]; exact h3⟩, h4, h5⟩

variable {its : List AIt} {n : Nat}
/-- The tail: one after the other. -/
theorem par_tail (hits : allOf (trIt P N ops) ops.toList = some its) (hdn : ∀ k i, i ∈ bnd ops k → i < k) (htl : ∀ k, n ≤ k → k < ops.size → ∀ i, i < k → i ∈ clo ops k) (hK : ∀ s' a' w', K s' → R P w0 env0 bad0 fps base N s' a' w' → Q .normal a' w') :
    ∀ (fuel m : Nat) (listed : Array Bool) (s : St) (a : Act) (w : World), n ≤ m → m ≤ ops.size → listed.size = ops.size → (∀ i, isL listed i ↔ i < m) → ops.size - m ≤ fuel → opsW P K (its.drop m) s → R P w0 env0 bad0 fps base N s a w → wpAny P .any ops Q fuel listed a w := by
  have hlen : its.length = ops.size := by have := (allOf_all2 (R := fun _ _ => True) (fun _ _ _ => trivial) hits).len; simpa using this
  intro fuel
  induction fuel with
  | zero =>
    intro m listed s a w hn hm hsz hL hf hw hR
    have e : m = ops.size := by omega
    subst e
    rw [List.drop_of_length_le (by omega)] at hw
    refine wpAny_done ?_ (hK _ _ _ hw hR) 0
    refine List.eq_nil_iff_forall_not_mem.2 fun i hi => ?_
    obtain ⟨h1, h2, _⟩ := (ready_mem hsz).1 hi
    exact h2 ((hL i).2 h1)
  | succ fuel ih =>
    intro m listed s a w hn hm hsz hL hf hw hR
    by_cases e : m = ops.size
    · subst e
      rw [List.drop_of_length_le (by omega)] at hw
      refine wpAny_done ?_ (hK _ _ _ hw hR) _
      refine List.eq_nil_iff_forall_not_mem.2 fun i hi => ?_
      obtain ⟨h1, h2, _⟩ := (ready_mem hsz).1 hi
      exact h2 ((hL i).2 h1)
    · have hlt : m < ops.size := by omega
      have hmr : m ∈ Region.ready .any ops listed := (ready_mem hsz).2 ⟨hlt, fun h => by have := (hL m).1 h; omega, fun j hj => (hL j).2 (hdn m j hj)⟩
      refine ⟨fun h0 => by rw [h0] at hmr; simp at hmr, fun i hi => ?_⟩
      obtain ⟨h1, h2, h3⟩ := (ready_mem hsz).1 hi
      have hge : m ≤ i := by
        rcases Nat.lt_or_ge i m with h | h
        · exact absurd ((hL i).2 h) h2
        · exact h
      have hle : i ≤ m := by
        rcases Nat.lt_or_ge m i with h | h
        · have hc := clo_sub (L := isL listed) (fun i hi j hj => (hL j).2 (Nat.lt_trans (hdn i j hj) ((hL i).1 hi))) h3 m (htl i (by omega) h1 m h)
          have := (hL m).1 hc
          omega
        · exact h
      obtain rfl : i = m := by omega
      have hd : its.drop i = its[i]'(by omega) :: its.drop (i + 1) := (List.drop_eq_getElem_cons (by omega))
      rw [hd] at hw
      have hti : trIt P N ops ops[i] = some (its[i]'(by omega)) := by
        have h := (allOf_all2 (R := fun it o => trIt P N ops o = some it) (fun _ _ h => h) hits).get i (by omega) (by simpa using h1)
        simpa using h
      refine it_op (Array.getElem?_eq_getElem h1) hti hw hR fun s' a' w' k r => ?_
      refine ih (i + 1) _ s' a' w' (by omega) (by omega) (by simpa using hsz) (fun j => ?_) (by omega) k r
      rw [isL_set (by omega), hL]
      omega

theorem par_head {s0 sF : St} (hits : allOf (trIt P N ops) ops.toList = some its) (hn : n ≤ ops.size) (hdn : ∀ k i, i ∈ bnd ops k → i < k) (htl : ∀ k, n ≤ k → k < ops.size → ∀ i, i < k → i ∈ clo ops k)
    (hrd : ∀ k it t, k < n → its[k]? = some it → AX.t t ∈ it.reads → ∀ i d, i < n → (its[i]?).bind (·.d) = some d → d = t → i ∈ bnd ops k)
    (hK : ∀ s' a' w', K s' → R P w0 env0 bad0 fps base N s' a' w' → Q .normal a' w') (hC : opsW P K (its.drop n) sF) (hregs : sF.regs = s0.regs) (hlk : ∀ t, t ∉ dsts (its.take n) → lk sF.slots t = lk s0.slots t)
    (hall : ∀ (k : Nat) (it : AIt), (its.take n)[k]? = some it → ∃ d, it.d = some d ∧ ∀ s' : St, s'.regs = s0.regs → (∀ x ∈ it.reads, s'.ev x = sF.ev x) → itW P it s' fun s1 => s1 = ⟨(d, lk sF.slots d) :: s'.slots, s'.regs⟩) :
    ∀ (fuel : Nat) (listed : Array Bool) (s : St) (a : Act) (w : World), listed.size = ops.size → (∀ i, isL listed i → i < n) → (∀ i, isL listed i → ∀ j ∈ bnd ops i, isL listed j) → (List.range ops.size).countP (fun i => !listed.getD i true) ≤ fuel →
      s.regs = s0.regs → (∀ t, (∃ i, isL listed i ∧ (its[i]?).bind (·.d) = some t) → lk s.slots t = lk sF.slots t) → (∀ t, (¬ ∃ i, isL listed i ∧ (its[i]?).bind (·.d) = some t) → lk s.slots t = lk s0.slots t) → R P w0 env0 bad0 fps base N s a w → wpAny P .any ops Q fuel listed a w := by
  have hlen : its.length = ops.size := by have := (allOf_all2 (R := fun _ _ => True) (fun _ _ _ => trivial) hits).len; simpa using this
  have hmemd : ∀ t, t ∈ dsts (its.take n) → ∃ i, i < n ∧ (its[i]?).bind (·.d) = some t := by
    intro t ht
    obtain ⟨it, h1, h2⟩ := List.mem_filterMap.1 ht
    obtain ⟨i, hi, e⟩ := List.getElem_of_mem h1
    have hi' : i < n := by simp at hi; omega
    refine ⟨i, hi', ?_⟩
    rw [List.getElem_take] at e
    rw [List.getElem?_eq_getElem (by omega), e]
    exact h2
  have hnl : ∀ (listed : Array Bool), listed.size = ops.size → ∀ i, i < ops.size → ((!listed.getD i true) = true ↔ ¬ isL listed i) := by
    intro listed hsz i hi
    unfold isL
    rw [Array.getD_eq_getD_getElem?, Array.getElem?_eq_getElem (by omega)]
    cases listed[i]'(by omega) <;> simp
  intro fuel
  induction fuel with
  | zero =>
    intro listed s a w hsz hLn hcl hcnt hsr hs1 hs2 hR
    -- nothing is left
    have hallL : ∀ i, i < ops.size → isL listed i := fun i hi => by
      have : (List.range ops.size).countP (fun i => !listed.getD i true) = 0 := by omega
      have := (List.countP_eq_zero.1 this) i (List.mem_range.2 hi)
      rw [hnl listed hsz i hi] at this
      exact Classical.not_not.1 this
    refine par_tail (n := n) hits hdn htl hK 0 n listed sF a w (Nat.le_refl _) hn hsz (fun i => ⟨hLn i, fun h => hallL i (by omega)⟩) ?_ hC (R.congr (by rw [hregs, hsr]) (fun t => ?_) hR)
    · rcases Nat.lt_or_ge n ops.size with h | h
      · have := hLn n (hallL n h)
        omega
      · omega
    · by_cases ht : ∃ i, isL listed i ∧ (its[i]?).bind (·.d) = some t
      · rw [hs1 t ht]
      · rw [hs2 t ht, hlk t fun hm => ht ?_]
        obtain ⟨i, hi, e⟩ := hmemd t hm
        exact ⟨i, hallL i (by omega), e⟩
  | succ fuel ih =>
    intro listed s a w hsz hLn hcl hcnt hsr hs1 hs2 hR
    by_cases hfull : ∀ i, i < n → isL listed i
    · have hcnt2 : ops.size - n ≤ fuel + 1 := by
        have : ops.size - n ≤ (List.range ops.size).countP (fun i => !listed.getD i true) := by
          have h1 : (List.range ops.size) = List.range n ++ (List.range (ops.size - n)).map (n + ·) := by
            rw [← List.range_add]
            congr 1
            omega
          rw [h1, List.countP_append]
          have h2 : ((List.range (ops.size - n)).map (n + ·)).countP (fun i => !listed.getD i true) = ((List.range (ops.size - n)).map (n + ·)).length := by
            rw [List.countP_eq_length]
            intro i hi
            obtain ⟨j, hj, rfl⟩ := List.mem_map.1 hi
            rw [List.mem_range] at hj
            rw [hnl listed hsz _ (by omega)]
            intro h
            have := hLn _ h
            omega
          rw [h2]
          simp
        omega
      refine par_tail (n := n) hits hdn htl hK (fuel + 1) n listed sF a w (Nat.le_refl _) hn hsz (fun i => ⟨hLn i, hfull i⟩) hcnt2 hC (R.congr (by rw [hregs, hsr]) (fun t => ?_) hR)
      by_cases ht : ∃ i, isL listed i ∧ (its[i]?).bind (·.d) = some t
      · rw [hs1 t ht]
      · rw [hs2 t ht, hlk t fun hm => ht ?_]
        obtain ⟨i, hi, e⟩ := hmemd t hm
        exact ⟨i, hfull i hi, e⟩
    · have hne : Region.ready .any ops listed ≠ [] := by
        have hex : ∃ i, i < n ∧ ¬ isL listed i := by
          refine Classical.byContradiction fun h => hfull fun i hi => Classical.byContradiction fun hl => h ⟨i, hi, hl⟩
        obtain ⟨i, ⟨hi, hl⟩, hmin⟩ : ∃ i, (i < n ∧ ¬ isL listed i) ∧ ∀ j, j < i → isL listed j := by
          obtain ⟨i, hi⟩ := hex
          have : ∀ m i, i ≤ m → (i < n ∧ ¬ isL listed i) → ∃ i, (i < n ∧ ¬ isL listed i) ∧ ∀ j, j < i → isL listed j := by
            intro m
            induction m with
            | zero =>
              intro i hm hi
              exact ⟨i, hi, fun j hj => by omega⟩
            | succ m ihm =>
              intro i hm hi
              by_cases h : ∀ j, j < i → isL listed j
              · exact ⟨i, hi, h⟩
              · obtain ⟨j, hj⟩ := Classical.not_forall.1 h
                obtain ⟨h1, h2⟩ := Classical.not_imp.1 hj
                exact ihm j (by omega) ⟨by omega, h2⟩
          exact this i i (Nat.le_refl _) hi
        intro h0
        have : i ∈ Region.ready .any ops listed := (ready_mem hsz).2 ⟨by omega, hl, fun j hj => hmin j (hdn i j hj)⟩
        rw [h0] at this
        simp at this
      refine ⟨fun h0 => absurd h0 hne, fun i hi => ?_⟩
      obtain ⟨h1, h2, h3⟩ := (ready_mem hsz).1 hi
      have hin : i < n := by
        rcases Nat.lt_or_ge i n with h | h
        · exact h
        · refine absurd (fun j (hj : j < n) => ?_) hfull
          exact clo_sub (L := isL listed) hcl h3 j (htl i h h1 j (by omega))
      have hit : its[i]? = some (its[i]'(by omega)) := List.getElem?_eq_getElem (by omega)
      have hti : trIt P N ops ops[i] = some (its[i]'(by omega)) := by
        have h := (allOf_all2 (R := fun it o => trIt P N ops o = some it) (fun _ _ h => h) hits).get i (by omega) (by simpa using h1)
        simpa using h
      obtain ⟨d, hd, hs⟩ := hall i (its[i]'(by omega)) (by rw [List.getElem?_take, if_pos hin]; exact hit)
      refine it_op (Array.getElem?_eq_getElem h1) hti (hs s hsr fun x hx => ev_lk fun t e => ?_) hR fun s' a' w' k r => ?_
      · subst e
        by_cases ht : ∃ j, j < n ∧ (its[j]?).bind (·.d) = some t
        · obtain ⟨j, hj, e⟩ := ht
          exact hs1 t ⟨j, h3 j (hrd i _ t hin hit hx j t hj e rfl), e⟩
        · rw [hs2 t fun ⟨j, hj, e⟩ => ht ⟨j, hLn j hj, e⟩, hlk t fun hm => ht (hmemd t hm)]
      · subst k
        have hbd : (its[i]?).bind (·.d) = some d := by rw [hit]; exact hd
        refine ih _ ⟨(d, lk sF.slots d) :: s.slots, s.regs⟩ a' w' (by simpa using hsz) (fun j hj => ?_) (fun j hj q hq => ?_) ?_ hsr (fun t ht => ?_) (fun t ht => ?_) r
        · rcases (isL_set (by omega)).1 hj with rfl | h
          · exact hin
          · exact hLn j h
        · rw [isL_set (by omega)]
          rcases (isL_set (by omega)).1 hj with rfl | h
          · exact .inr (h3 q hq)
          · exact .inr (hcl j h q hq)
        · have hlt := countP_lt (l := List.range ops.size) (p := fun i => !listed.getD i true) (q := fun j => !(listed.setIfInBounds i true).getD j true) (a := i) (List.mem_range.2 h1) (fun x hx hq => ?_) ?_ ?_
          · omega
          · have hx' := List.mem_range.1 hx
            have := (hnl (listed.setIfInBounds i true) (by simpa using hsz) x hx').1 hq
            rw [isL_set (by omega)] at this
            exact (hnl listed hsz x hx').2 fun h => this (.inr h)
          · exact (hnl listed hsz i h1).2 h2
          · cases hc : (!(listed.setIfInBounds i true).getD i true) with
            | false => rfl
            | true =>
              have := (hnl (listed.setIfInBounds i true) (by simpa using hsz) i h1).1 hc
              rw [isL_set (by omega)] at this
              exact absurd (.inl rfl) this
        · by_cases e : d = t
          · subst e; simp [lk]
          · obtain ⟨j, hj, e'⟩ := ht
            simp only [lk, e, if_false]
            refine hs1 t ⟨j, ?_, e'⟩
            rcases (isL_set (by omega)).1 hj with rfl | h
            · rw [hbd] at e'
              exact absurd (Option.some.inj e') e
            · exact h
        · have e : d ≠ t := fun e => ht ⟨i, (isL_set (by omega)).2 (.inl rfl), by rw [hbd, e]⟩
          simp only [lk, e, if_false]
          exact hs2 t fun ⟨j, hj, e'⟩ => ht ⟨j, (isL_set (by omega)).2 (.inr hj), e'⟩

theorem par_sound {ro : Option Nat} {n' id : Nat} {s : St} {a : Act} {w : World} (hm : P.follows .mixedOrders = true) (hnd : ops.toList.all noDef = true) (hits : allOf (trIt P N ops) ops.toList = some its) (hok : parOk ops its n = true) (hn : n ≤ ops.size) (h : parW P (its.take n) s (opsW P K (its.drop n)))
    (hR : R P w0 env0 bad0 fps base N s a w) (hK : ∀ s' a' w', K s' → R P w0 env0 bad0 fps base N s' a' w' → Q .normal a' w') : (Code.region id ops true).wpIn (Fw ro) n' P Q a w := by
  simp only [parOk, Bool.and_eq_true, List.all_eq_true, List.mem_range, decide_eq_true_eq, Bool.or_eq_true] at hok
  obtain ⟨⟨⟨h1, h2⟩, h3⟩, h4⟩ := hok
  obtain ⟨sF, hC, hregs, hlk, hall⟩ := parW_spec _ s h1 h
  have hdn : ∀ k i, i ∈ bnd ops k → i < k := fun k i hi => by
    rcases Nat.lt_or_ge k ops.size with hk | hk
    · exact h2 k hk i hi
    · unfold bnd at hi
      rw [Array.getElem?_eq_none hk] at hi
      simp at hi
  refine wpIn_mono (Q := noPanic Q) (draw_in hm hnd ?_) fun e a w q => ?_
  rotate_left
  · cases e <;> first | exact q | exact q.elim
  · have hg : ∀ i, ¬ isL (Array.replicate ops.size false) i := fun i hi => by
      unfold isL at hi
      rw [Array.getElem?_replicate] at hi
      split at hi <;> simp at hi
    exact par_head (Q := noOut (noPanic Q)) hits hn hdn (fun k hk hks i hi => by
        rcases h4 k hks with h | h
        · omega
        · exact by simpa using h i hi)
      (fun k it t hk hit ht i d hi hd e => by
        have := h3 k hk
        rw [hit] at this
        simp only [Option.map_some, Option.getD_some, List.all_eq_true] at this
        have := this _ ht
        simp only [List.all_eq_true, List.mem_range] at this
        have := this i hi
        subst e
        rw [hd] at this
        simpa using this)
      (fun s' a' w' k r => hK s' a' w' k r) hC hregs hlk hall _ _ s _ _ (by simp) (fun i hi => absurd hi (hg i)) (fun i hi => absurd hi (hg i)) (by
        exact Nat.le_trans List.countP_le_length (by simp)) rfl (fun t ⟨i, hi, _⟩ => absurd hi (hg i)) (fun _ _ => rfl) hR.draw
end

section
variable {P : Program} {w0 w : World} {env0 : Env} {bad0 : Bs} {fps : List Nat} {base : Nat → Prop} {N : Nat} {s : St} {a : Act} {o : Oper} {ops : Array Oper} {Q : Exit → Act → World → Prop} {K : St → Prop} {ro : Option Nat} {n : Nat}
theorem it_opIn {next : Act → World → Prop} {it : AIt} {i : Nat} (hi : ops[i]? = some o) (htr : trItY P N ops o = some it) (h : itW P it s K) (hR : R P w0 env0 bad0 fps base N s a w)
    (hK : ∀ s' a' w', K s' → R P w0 env0 bad0 fps base N s' a' w' → next a' w') : wpOpIn (Fw ro) n P ops Q i next a w := by
  have := it_ifY (Q := Q) (ro := ro) (n := n) htr h hR hK
  unfold wpOpIn
  simp only [hi]
  exact this
theorem uponIn_put {o : Oper} {a : Act} {next : Act → World → Prop} {Q : Exit → Act → World → Prop} {r : Result Next} (h : o.uponIn (Fw ro) n P a next Q r) : o.uponIn (Fw ro) n P a (fun a' w' => next a' w' ∧ ∃ v, a'.tmps = (a.put o.dst v).tmps) Q r := by
  unfold Oper.uponIn at h ⊢
  split at h
  · exact ⟨h, _, rfl⟩
  · exact ⟨h, _, rfl⟩
  · exact ⟨h, undef, by cases o.dst <;> rfl⟩
  · refine ⟨h.1, CallsIn.mono h.2 fun e w' k => ?_⟩
    cases e with
    | returned v => exact ⟨k, _, rfl⟩
    | panicked c => exact k
    | outgrown => exact k
  · exact ⟨h.1, RowsIn.mono h.2 fun v w' k => ⟨k, _, rfl⟩⟩
  · refine ⟨h.1, RoundIn.mono h.2 fun e w' k => ?_⟩
    cases e with
    | returned v => exact ⟨k, _, rfl⟩
    | panicked c => exact k
    | outgrown => exact k
  · exact h
  · exact h.elim
theorem wpOpIn_tmps {next : Act → World → Prop} {i : Nat} (hi : ops[i]? = some o) (h : wpOpIn (Fw ro) n P ops Q i next a w) : wpOpIn (Fw ro) n P ops Q i (fun a' w' => next a' w' ∧ ∃ v, a'.tmps = (a.put o.dst v).tmps) a w := by
  unfold wpOpIn at h ⊢
  simp only [hi] at h ⊢
  split
  · rename_i hw
    rw [if_pos hw] at h
    exact ⟨h.1, uponIn_put h.2⟩
  · rename_i hw
    rw [if_neg hw] at h
    exact ⟨h.1, h.2, _, rfl⟩
theorem wpAnyIn_done {listed : Array Bool} (h : Region.ready .any ops listed = []) (hq : Q .normal a w) : ∀ fw, wpAnyIn (Fw ro) n P .any ops Q fw listed a w
  | 0 => ⟨h, hq⟩
  | _ + 1 => ⟨fun _ => hq, fun i hi => by rw [h] at hi; simp at hi⟩
end
/-- Orders that a region may take, as far as they matter. -/
inductive ATree where
  | done
  | tell (it : AIt) (t : ATree)
  | again (it : AIt) (t : ATree)
  | turn (it : AIt) (t : ATree)
  | both (t u : ATree)

def AOp.isC : AOp → Bool
  | .call .. | .callv .. | .cally .. => true
  | _ => false
def TellOk (it : AIt) : Prop := it.op.loc.isSome = true ∧ it.op.dst = it.d ∧ it.d.isSome = true ∧ it.op.isC = false
def TreeOk : ATree → Prop
  | .done => True
  | .tell it t => TellOk it ∧ TreeOk t
  | .again it t => TellOk it ∧ TreeOk t
  | .turn _ t => TreeOk t
  | .both t u => TreeOk t ∧ TreeOk u
/-- An operation that leaves the rows tells this. -/
def Tells (P : Program) (it : AIt) (d : Nat) (v : AV) (s : St) : Prop := ∀ K : St → Prop, K ⟨(d, v) :: s.slots, s.regs⟩ → itW P it s K
def treeW (P : Program) (K : St → Prop) : ATree → St → Prop
  | .done, s => K s
  | .tell it t, s => ∃ d v, it.d = some d ∧ Tells P it d v s ∧ treeW P K t ⟨(d, v) :: s.slots, s.regs⟩
  | .again it t, s => (∃ d, it.d = some d ∧ Tells P it d (lk s.slots d) s) ∧ treeW P K t s
  | .turn it t, s => ∃ s1, (∀ K' : St → Prop, K' s1 → itW P it s K') ∧ treeW P K t s1
  | .both t u, s => treeW P K t s ∧ treeW P K u s

def AIt.rdsG (it : AIt) : List AX := (match it.guard with | some (t, _) => [.t t] | none => []) ++ it.op.rds.getD []
def readsT (it : AIt) (t : Nat) : Bool := it.rdsG.any fun x => match x with
  | .t n => n == t
  | _ => false
theorem readsT_mem {it : AIt} {t : Nat} (h : AX.t t ∈ it.rdsG) : readsT it t = true := List.any_eq_true.2 ⟨_, h, by simp⟩
def dOf (its : List AIt) (i : Nat) : Option Nat := (its[i]?).bind (·.d)
/-- Operations that turn the rows, or may; or that write what an earlier one reads. -/
def turnB (ops : Array Oper) (its : List AIt) (i : Nat) : Bool := match its[i]? with
  | none => true
  | some it => it.op.loc.isNone || (it.op.isC || (match it.d with
    | some t => (List.range its.length).any fun k => match its[k]? with
      | some kt => readsT kt t && !(bnd ops k).contains i
      | none => false
    | none => true))
def turnsOf (ops : Array Oper) (its : List AIt) : List Nat := (List.range its.length).filter (turnB ops its)
def addN (l : List Nat) (x : Nat) : List Nat := if l.contains x then l else x :: l
def ancStep (ops : Array Oper) (A : List (List Nat)) (k : Nat) : List Nat := (bnd ops k).foldl (fun m i => (i :: A.getD i []).foldl addN m) []
/-- What must have come up before each operation, in the end. -/
def ancs (ops : Array Oper) : Nat → List (List Nat)
  | 0 => []
  | k + 1 => ancs ops k ++ [ancStep ops (ancs ops k) k]
def ltOk (ops : Array Oper) (its : List AIt) (A : List (List Nat)) (T : List Nat) : Bool :=
  (List.range ops.size).all (fun k => (bnd ops k).all fun i => decide (i < k)) &&
  (List.range its.length).all (fun k => match its[k]? with
    | none => true
    | some it => it.op.rds.isSome && ((it.op.dst == it.d) && ((T.contains k || (it.d.isSome && it.op.loc.isSome)) &&
      (List.range its.length).all fun i => match dOf its i with
        | none => true
        | some t => (i == k || !(it.d == some t)) && (!readsT it t || ((bnd ops k).contains i || (T.contains i && (A.getD i []).contains k))))))
def subB (A : List (List Nat)) (T U : List Nat) (i : Nat) : Bool := (A.getD i []).all fun j => !T.contains j || U.contains j
def newOf (m : Nat) (A : List (List Nat)) (T U C : List Nat) : List Nat := (List.range m).filter fun i => !T.contains i && (!C.contains i && subB A T U i)
def candOf (m : Nat) (A : List (List Nat)) (T U : List Nat) : List Nat := (List.range m).filter fun i => T.contains i && (!U.contains i && subB A T U i)
def looksB (its : List AIt) (j : Nat) : Bool := match its[j]? with
  | some it => !it.op.blind
  | none => true
def agOf (its : List AIt) (A : List (List Nat)) (U C : List Nat) : List Nat := C.filter fun j => looksB its j && !(U.any fun i => (A.getD i []).contains j)
def alts (f : Nat → Option ATree) : List Nat → Option ATree
  | [] => none
  | [i] => f i
  | i :: r => (f i).bind fun t => (alts f r).map fun u => .both t u
def tellT (its : List AIt) : List Nat → Option ATree → Option ATree
  | [], t => t
  | i :: r, t => (its[i]?).bind fun it => (tellT its r t).map (.tell it)
def againT (its : List AIt) : List Nat → Option ATree → Option ATree
  | [], t => t
  | i :: r, t => (its[i]?).bind fun it => (againT its r t).map (.again it)
def mkTree (its : List AIt) (A : List (List Nat)) (T : List Nat) : Nat → List Nat → List Nat → Option ATree
  | 0, U, C => tellT its (newOf its.length A T U C) (match candOf its.length A T U with
    | [] => some .done
    | _ => none)
  | fuel + 1, U, C => tellT its (newOf its.length A T U C) (match candOf its.length A T U with
    | [] => some .done
    | l => alts (fun i => (its[i]?).bind fun it => (againT its (agOf its A (i :: U) (C ++ newOf its.length A T U C)) (mkTree its A T fuel (i :: U) (C ++ newOf its.length A T U C))).map (.turn it)) l)
def treeOf (P : Program) (N : Nat) (ops : Array Oper) : Option ATree := (allOf (trItY P N ops) ops.toList).bind fun its =>
  (guardO (ltOk ops its (ancs ops its.length) (turnsOf ops its))).bind fun _ => mkTree its (ancs ops its.length) (turnsOf ops its) its.length [] []

theorem alts_eq {P : Program} {K : St → Prop} {s : St} {f : Nat → Option ATree} : ∀ {l : List Nat} {t : ATree}, alts f l = some t → treeW P K t s → ∀ i ∈ l, ∃ u, f i = some u ∧ treeW P K u s
  | [i], t, h, hw, j, hj => by
    rw [List.mem_singleton] at hj
    subst hj
    exact ⟨t, h, hw⟩
  | i :: k :: r, t, h, hw, j, hj => by
    simp only [alts, Option.bind_eq_some_iff, Option.map_eq_some_iff] at h
    obtain ⟨t1, h1, u, h2, rfl⟩ := h
    rcases List.mem_cons.1 hj with rfl | hj
    · exact ⟨t1, h1, hw.1⟩
    · exact alts_eq (l := k :: r) h2 hw.2 j hj

theorem itW_turn {P : Program} {T : List Reg → List Reg} {it : AIt} {s s' : St} {K K' : St → Prop} (ht : Turn P T s.regs) (hT : s'.regs = T s.regs) (hX : (∃ d k a, it.op = .x d k a) → ∀ r, T r = r) (hl : it.op.rds.isSome = true) (hd : it.op.dst = it.d) (hev : ∀ x ∈ it.rdsG, s'.ev x = s.ev x)
    (hK : ∀ v rg, K (s.putr it.d v rg) → K' (s'.putr it.d v (T rg))) (h : itW P it s K) : itW P it s' K' := by
  obtain ⟨l, hl⟩ := Option.isSome_iff_exists.1 hl
  have hev2 : ∀ x ∈ l, s'.ev x = s.ev x := fun x hx => hev x (by simp [AIt.rdsG, hl, hx])
  have ho : opW P it.op s K → opW P it.op s' K' := fun h => opW_turn ht hT (fun _ => hX) hl hev2 (by rw [hd]; exact hK) h
  have hK0 : ∀ v, K (s.put it.d v) → K' (s'.put it.d v) := fun v h => by
    have := hK v s.regs h
    rw [← hT] at this
    exact this
  unfold itW at h ⊢
  cases hg : it.guard with
  | none =>
    simp only [hg] at h ⊢
    exact ho h
  | some tw =>
    obtain ⟨t, w⟩ := tw
    simp only [hg] at h ⊢
    have e : lk s'.slots t = lk s.slots t := hev (.t t) (by simp [AIt.rdsG, hg])
    rw [e]
    split at h
    · exact ⟨fun e => ho (h.1 e), fun e => hK0 _ (h.2 e)⟩
    · exact hK0 _ h
    · exact h.elim
theorem itW_blind {P : Program} {it : AIt} {s s' : St} {K K' : St → Prop} (hb : it.op.blind = true) (hl : it.op.rds.isSome = true) (hd : it.op.dst = it.d) (hev : ∀ x ∈ it.rdsG, s'.ev x = s.ev x)
    (hK0 : ∀ v, K (s.put it.d v) → K' (s'.put it.d v)) (h : itW P it s K) : itW P it s' K' := by
  obtain ⟨l, hl⟩ := Option.isSome_iff_exists.1 hl
  have hev2 : ∀ x ∈ l, s'.ev x = s.ev x := fun x hx => hev x (by simp [AIt.rdsG, hl, hx])
  have ho : opW P it.op s K → opW P it.op s' K' := fun h => opW_blind hb hl hev2 (by rw [hd]; exact hK0) h
  unfold itW at h ⊢
  cases hg : it.guard with
  | none =>
    simp only [hg] at h ⊢
    exact ho h
  | some tw =>
    obtain ⟨t, w⟩ := tw
    simp only [hg] at h ⊢
    have e : lk s'.slots t = lk s.slots t := hev (.t t) (by simp [AIt.rdsG, hg])
    rw [e]
    split at h
    · exact ⟨fun e => ho (h.1 e), fun e => hK0 _ (h.2 e)⟩
    · exact hK0 _ h
    · exact h.elim

theorem addN_mem {l : List Nat} {x y : Nat} : y ∈ addN l x ↔ y = x ∨ y ∈ l := by
  unfold addN
  split
  · rename_i h
    have : x ∈ l := by simpa using h
    constructor
    · exact .inr
    · rintro (rfl | h)
      · exact this
      · exact h
  · simp
theorem foldAdd_mem : ∀ {r l : List Nat} {y : Nat}, y ∈ r.foldl addN l ↔ y ∈ r ∨ y ∈ l
  | [], l, y => by simp
  | a :: r, l, y => by
    rw [List.foldl_cons, foldAdd_mem, addN_mem, List.mem_cons]
    constructor
    · rintro (h | h | h) <;> simp [h]
    · rintro ((h | h) | h) <;> simp [h]
theorem ancFold_mem {A : List (List Nat)} : ∀ {b m : List Nat} {y : Nat}, y ∈ b.foldl (fun m i => (i :: A.getD i []).foldl addN m) m ↔ (∃ i ∈ b, y = i ∨ y ∈ A.getD i []) ∨ y ∈ m
  | [], m, y => by simp
  | a :: r, m, y => by
    rw [List.foldl_cons, ancFold_mem, foldAdd_mem]
    simp only [List.mem_cons]
    constructor
    · rintro (⟨i, h, k⟩ | h | h)
      · exact .inl ⟨i, .inr h, k⟩
      · exact .inl ⟨a, .inl rfl, h⟩
      · exact .inr h
    · rintro (⟨i, rfl | h, k⟩ | h)
      · exact .inr (.inl k)
      · exact .inl ⟨i, h, k⟩
      · exact .inr (.inr h)
theorem ancs_len {ops : Array Oper} : ∀ n, (ancs ops n).length = n
  | 0 => rfl
  | n + 1 => by simp [ancs, ancs_len n]
theorem ancs_get {ops : Array Oper} : ∀ {n k : Nat}, k < n → (ancs ops n)[k]? = some (ancStep ops (ancs ops k) k)
  | n + 1, k, h => by
    rw [ancs]
    by_cases e : k < n
    · rw [List.getElem?_append_left (by rw [ancs_len]; exact e)]
      exact ancs_get e
    · obtain rfl : k = n := by omega
      rw [List.getElem?_append_right (by rw [ancs_len]; exact Nat.le_refl _), ancs_len, Nat.sub_self]
      rfl
theorem ancs_getD {ops : Array Oper} {n k : Nat} (h : k < n) : (ancs ops n).getD k [] = ancStep ops (ancs ops k) k := by
  rw [List.getD_eq_getElem?_getD, ancs_get h]
  rfl
theorem anc_up {ops : Array Oper} {n k i : Nat} (h : k < n) (hi : i ∈ bnd ops k) : i ∈ (ancs ops n).getD k [] := by
  rw [ancs_getD h]
  exact ancFold_mem.2 (.inl ⟨i, hi, .inl rfl⟩)
theorem anc_clo {ops : Array Oper} {n : Nat} {L : Nat → Prop} (hc : ∀ i, L i → ∀ j ∈ bnd ops i, L j) : ∀ (k : Nat), k < n → (∀ j ∈ bnd ops k, L j) → ∀ j ∈ (ancs ops n).getD k [], L j := by
  intro k
  induction k using Nat.strongRecOn with
  | ind k ih =>
    intro hk hb j hj
    rw [ancs_getD hk] at hj
    rcases ancFold_mem.1 hj with ⟨i, hi, rfl | h⟩ | h
    · exact hb _ hi
    · by_cases hik : i < k
      · have e : (ancs ops k).getD i [] = (ancs ops n).getD i [] := by rw [ancs_getD hik, ancs_getD (Nat.lt_trans hik hk)]
        rw [e] at h
        exact ih i hik (Nat.lt_trans hik hk) (hc i (hb i hi)) j h
      · rw [List.getD_eq_getElem?_getD, List.getElem?_eq_none (by rw [ancs_len]; omega)] at h
        simp at h
    · simp at h

section
variable {P : Program} {w0 : World} {env0 : Env} {bad0 : Bs} {fps : List Nat} {base : Nat → Prop} {N : Nat} {ops : Array Oper} {Q : Exit → Act → World → Prop} {K : St → Prop} {its : List AIt} {A : List (List Nat)} {T : List Nat}
/-- What ltOk says. -/
structure LtH (ops : Array Oper) (its : List AIt) (A : List (List Nat)) (T : List Nat) : Prop where
  dn : ∀ k i, i ∈ bnd ops k → i < k
  op : ∀ (k : Nat) (it : AIt), its[k]? = some it → it.op.rds.isSome = true ∧ it.op.dst = it.d ∧ (k ∉ T → it.d.isSome = true)
  one : ∀ (i k t : Nat), dOf its i = some t → dOf its k = some t → i = k
  rd : ∀ (k : Nat) (it : AIt) (t i : Nat), its[k]? = some it → AX.t t ∈ it.rdsG → dOf its i = some t → i ∈ bnd ops k ∨ (i ∈ T ∧ k ∈ A.getD i [])
theorem dOf_lt {i t : Nat} (h : dOf its i = some t) : i < its.length := by
  unfold dOf at h
  obtain ⟨it, h1, _⟩ := Option.bind_eq_some_iff.1 h
  exact (List.getElem?_eq_some_iff.1 h1).1
theorem ltOk_H (h : ltOk ops its A T = true) : LtH ops its A T := by
  simp only [ltOk, Bool.and_eq_true, List.all_eq_true, List.mem_range, decide_eq_true_eq] at h
  obtain ⟨h1, h2⟩ := h
  have hk : ∀ (k : Nat) (it : AIt), its[k]? = some it → it.op.rds.isSome = true ∧ it.op.dst = it.d ∧ (k ∉ T → it.d.isSome = true) ∧ ∀ i t, dOf its i = some t → (i = k ∨ it.d ≠ some t) ∧ (readsT it t = false ∨ i ∈ bnd ops k ∨ (i ∈ T ∧ k ∈ A.getD i [])) := by
    intro k it e
    have := h2 k (List.getElem?_eq_some_iff.1 e).1
    rw [e] at this
    simp only [Bool.and_eq_true, List.all_eq_true, List.mem_range, Bool.or_eq_true, List.contains_eq_mem, decide_eq_true_eq, beq_iff_eq] at this
    obtain ⟨a, b, c, d⟩ := this
    refine ⟨a, b, fun hk => (c.resolve_left hk).1, fun i t hi => ?_⟩
    have := d i (dOf_lt hi)
    rw [hi] at this
    simp only [Bool.and_eq_true, Bool.or_eq_true, beq_iff_eq, Bool.not_eq_true', beq_eq_false_iff_ne, decide_eq_true_eq] at this
    exact this
  refine ⟨fun k i hi => ?_, fun k it e => ⟨(hk k it e).1, (hk k it e).2.1, (hk k it e).2.2.1⟩, fun i k t hi hk' => ?_, fun k it t i e ht hi => ?_⟩
  · rcases Nat.lt_or_ge k ops.size with hks | hks
    · exact h1 k hks i hi
    · unfold bnd at hi
      rw [Array.getElem?_eq_none hks] at hi
      simp at hi
  · unfold dOf at hk'
    obtain ⟨it, e1, e2⟩ := Option.bind_eq_some_iff.1 hk'
    exact (((hk k it e1).2.2.2 i t hi).1).resolve_right fun h => h e2
  · rcases ((hk k it e).2.2.2 i t hi).2 with h | h
    · rw [readsT_mem ht] at h
      cases h
    · exact h

/-- What an operation that may still come up tells. -/
def Told (P : Program) (its : List AIt) (s : St) (i : Nat) : Prop := ∃ it d, its[i]? = some it ∧ it.d = some d ∧ ∀ s' : St, s'.regs = s.regs → (∀ x ∈ it.rdsG, s'.ev x = s.ev x) → itW P it s' fun s1 => s1 = ⟨(d, lk s.slots d) :: s'.slots, s'.regs⟩
theorem Told.of {it : AIt} {d i : Nat} {s : St} (hH : LtH ops its A T) (hi : its[i]? = some it) (hd : it.d = some d) (h : Tells P it d (lk s.slots d) s) : Told P its s i := by
  refine ⟨it, d, hi, hd, fun s' hr hev => ?_⟩
  obtain ⟨h1, h2, _⟩ := hH.op i it hi
  refine itW_turn (K := fun s1 => s1 = ⟨(d, lk s.slots d) :: s.slots, s.regs⟩) (Turn.id P s.regs) hr (fun _ _ => rfl) h1 h2 hev (fun v rg e => ?_) (h _ rfl)
  rw [hd] at e ⊢
  simp only [St.putr, St.put, St.mk.injEq, List.cons.injEq, Prod.mk.injEq, true_and, and_true] at e ⊢
  exact ⟨e.1, by rw [hr]; exact e.2⟩
/-- Other slots that it does not touch. -/
theorem Told.slots {i : Nat} {s s1 : St} (h : Told P its s i) (hr : s1.regs = s.regs) (hs : ∀ it d, its[i]? = some it → it.d = some d → lk s1.slots d = lk s.slots d ∧ ∀ x ∈ it.rdsG, s1.ev x = s.ev x) : Told P its s1 i := by
  obtain ⟨it, d, h1, h2, h3⟩ := h
  obtain ⟨k1, k2⟩ := hs it d h1 h2
  exact ⟨it, d, h1, h2, fun s' hr' hev => by rw [k1]; exact h3 s' (hr'.trans hr) fun x hx => (hev x hx).trans (k2 x hx)⟩
theorem Told.blind {i : Nat} {s s1 : St} (hH : LtH ops its A T) (h : Told P its s i) (hb : looksB its i = false) (hs : ∀ it d, its[i]? = some it → it.d = some d → lk s1.slots d = lk s.slots d ∧ ∀ x ∈ it.rdsG, s1.ev x = s.ev x) : Told P its s1 i := by
  obtain ⟨it, d, h1, h2, h3⟩ := h
  obtain ⟨k1, k2⟩ := hs it d h1 h2
  obtain ⟨q1, q2, _⟩ := hH.op i it h1
  refine ⟨it, d, h1, h2, fun s' hr' hev => ?_⟩
  have hb' : it.op.blind = true := by
    unfold looksB at hb
    rw [h1] at hb
    simpa using hb
  refine itW_blind hb' q1 q2 (fun x hx => (hev x hx).trans (k2 x hx)) (fun v e => ?_) (h3 s rfl fun _ _ => rfl)
  rw [h2] at e ⊢
  simp only [St.put, St.mk.injEq, List.cons.injEq, Prod.mk.injEq, true_and, and_true] at e ⊢
  rw [k1]
  exact e

theorem tellT_W (hH : LtH ops its A T) : ∀ {l : List Nat} {ot : Option ATree} {t : ATree} {s : St}, (∀ i ∈ l, i ∉ T) → l.Pairwise (· < ·) → tellT its l ot = some t → treeW P K t s →
    ∃ t' s', ot = some t' ∧ treeW P K t' s' ∧ s'.regs = s.regs ∧ (∀ t, (∀ i ∈ l, dOf its i ≠ some t) → lk s'.slots t = lk s.slots t) ∧ ∀ i ∈ l, Told P its s' i
  | [], ot, t, s, _, _, h, hw => ⟨t, s, h, hw, rfl, fun _ _ => rfl, fun i hi => by simp at hi⟩
  | i :: r, ot, t, s, hT, hp, h, hw => by
    simp only [tellT, Option.bind_eq_some_iff, Option.map_eq_some_iff] at h
    obtain ⟨it, hi, t1, h1, rfl⟩ := h
    obtain ⟨d, v, hd, ht, hw⟩ := hw
    rw [List.pairwise_cons] at hp
    have hdi : dOf its i = some d := by unfold dOf; rw [hi]; exact hd
    obtain ⟨t', s', h2, h3, h4, h5, h6⟩ := tellT_W hH (fun j hj => hT j (List.mem_cons_of_mem _ hj)) hp.2 h1 hw
    have hnd : ∀ j ∈ r, dOf its j ≠ some d := fun j hj e => by
      have := hH.one i j d hdi e
      have := hp.1 j hj
      omega
    refine ⟨t', s', h2, h3, h4, fun t hn => ?_, fun j hj => ?_⟩
    · rw [h5 t fun j hj => hn j (List.mem_cons_of_mem _ hj)]
      have : d ≠ t := fun e => hn i (by simp) (by rw [hdi, e])
      simp [lk, this]
    · rcases List.mem_cons.1 hj with rfl | hj
      · have hv : lk s'.slots d = v := by
          rw [h5 d hnd]
          simp [lk]
        have h0 : Told P its ⟨(d, v) :: s.slots, s.regs⟩ j := by
          refine Told.of hH hi hd ?_
          have e : lk ((d, v) :: s.slots) d = v := by simp [lk]
          intro K hK
          simp only [e] at hK
          obtain ⟨q1, q2, _⟩ := hH.op j it hi
          refine itW_turn (s := s) (K := fun s1 => s1 = ⟨(d, v) :: s.slots, s.regs⟩) (Turn.id P s.regs) rfl (fun _ _ => rfl) q1 q2 (fun x hx => ?_) (fun v' rg e' => ?_) (ht _ rfl)
          · refine ev_lk fun n hn => ?_
            subst hn
            have : d ≠ n := fun e => by
              subst e
              rcases hH.rd j it d j hi hx hdi with h | h
              · exact absurd (hH.dn j j h) (Nat.lt_irrefl _)
              · exact hT j (by simp) h.1
            simp [lk, this]
          · rw [hd] at e' ⊢
            simp only [St.putr, St.put, St.mk.injEq, List.cons.injEq, Prod.mk.injEq, true_and, and_true] at e' ⊢
            obtain ⟨rfl, rfl⟩ := e'
            exact hK
        refine h0.slots h4 fun it' d' e1 e2 => ?_
        rw [hi] at e1
        cases e1
        rw [hd] at e2
        cases e2
        refine ⟨h5 d hnd, fun x hx => ev_lk fun n hn => h5 n fun k hk e => ?_⟩
        subst hn
        rcases hH.rd j it n k hi hx e with h | h
        · have := hH.dn j k h
          have := hp.1 k hk
          omega
        · exact hT k (List.mem_cons_of_mem _ hk) h.1
      · exact h6 j hj

theorem againT_W (hH : LtH ops its A T) : ∀ {l : List Nat} {ot : Option ATree} {t : ATree} {s : St}, againT its l ot = some t → treeW P K t s → ∃ t', ot = some t' ∧ treeW P K t' s ∧ ∀ i ∈ l, Told P its s i
  | [], ot, t, s, h, hw => ⟨t, h, hw, fun i hi => by simp at hi⟩
  | i :: r, ot, t, s, h, hw => by
    simp only [againT, Option.bind_eq_some_iff, Option.map_eq_some_iff] at h
    obtain ⟨it, hi, t1, h1, rfl⟩ := h
    obtain ⟨⟨d, hd, ht⟩, hw⟩ := hw
    obtain ⟨t', h2, h3, h4⟩ := againT_W hH h1 hw
    refine ⟨t', h2, h3, fun j hj => ?_⟩
    rcases List.mem_cons.1 hj with rfl | hj
    · exact Told.of hH hi hd ht
    · exact h4 j hj
end
theorem putr_regs' {s : St} {d : Option Nat} {v : AV} {rg : List Reg} : (s.putr d v rg).regs = rg := by cases d <;> rfl
theorem lk_putr_ne {s : St} {d : Option Nat} {v : AV} {rg : List Reg} {t : Nat} (h : d ≠ some t) : lk (s.putr d v rg).slots t = lk s.slots t := by
  cases d with
  | none => rfl
  | some n => simp only [St.putr, St.put, lk]; rw [if_neg fun e => h (by rw [e])]
theorem lk_putr_eq {s : St} {d : Option Nat} {v : AV} {rg : List Reg} {t : Nat} (h : d = some t) : lk (s.putr d v rg).slots t = v := by
  subst h
  simp [St.putr, St.put, lk]
def nextOf (its : List AIt) (A : List (List Nat)) (T : List Nat) (fuel : Nat) (U C : List Nat) : Option ATree := match candOf its.length A T U, fuel with
  | [], _ => some .done
  | _, 0 => none
  | l, fuel + 1 => alts (fun i => (its[i]?).bind fun it => (againT its (agOf its A (i :: U) (C ++ newOf its.length A T U C)) (mkTree its A T fuel (i :: U) (C ++ newOf its.length A T U C))).map (.turn it)) l
theorem mkTree_eq {its : List AIt} {A : List (List Nat)} {T : List Nat} (fuel : Nat) (U C : List Nat) : mkTree its A T fuel U C = tellT its (newOf its.length A T U C) (nextOf its A T fuel U C) := by
  cases fuel <;> (unfold mkTree nextOf; congr 1; generalize candOf its.length A T U = l; cases l <;> rfl)
theorem subB_iff {A : List (List Nat)} {T U : List Nat} {i : Nat} : subB A T U i = true ↔ ∀ j ∈ A.getD i [], j ∈ T → j ∈ U := by
  unfold subB
  simp only [List.all_eq_true, Bool.or_eq_true, Bool.not_eq_true', List.contains_eq_mem, decide_eq_true_eq, decide_eq_false_iff_not]
  exact ⟨fun h j hj ht => (h j hj).resolve_left fun k => k ht, fun h j hj => by
    by_cases ht : j ∈ T
    · exact .inr (h j hj ht)
    · exact .inl ht⟩

section
variable {P : Program} {w0 : World} {env0 : Env} {bad0 : Bs} {fps : List Nat} {base : Nat → Prop} {N : Nat} {ops : Array Oper} {Q : Exit → Act → World → Prop} {K : St → Prop} {ro : Option Nat} {n : Nat} {its : List AIt} {T : List Nat}
theorem unl_iff {listed : Array Bool} (hsz : listed.size = ops.size) {i : Nat} (hi : i < ops.size) : (!listed.getD i true) = true ↔ ¬ isL listed i := by
  unfold isL
  rw [Array.getD_eq_getD_getElem?, Array.getElem?_eq_getElem (by omega)]
  cases listed[i]'(by omega) <;> simp
theorem unl_less {listed : Array Bool} (hsz : listed.size = ops.size) {i : Nat} (hi : i < ops.size) (hn : ¬ isL listed i) : (List.range ops.size).countP (fun j => !(listed.setIfInBounds i true).getD j true) < (List.range ops.size).countP (fun j => !listed.getD j true) := by
  refine countP_lt (a := i) (List.mem_range.2 hi) (fun x hx hq => ?_) ((unl_iff hsz hi).2 hn) ?_
  · have hx' := List.mem_range.1 hx
    have := (unl_iff (listed := listed.setIfInBounds i true) (by simpa using hsz) hx').1 hq
    rw [isL_set (by omega)] at this
    exact (unl_iff hsz hx').2 fun h => this (.inr h)
  · cases hc : (!(listed.setIfInBounds i true).getD i true) with
    | false => rfl
    | true =>
      have := (unl_iff (listed := listed.setIfInBounds i true) (by simpa using hsz) hi).1 hc
      rw [isL_set (by omega)] at this
      exact absurd (.inl rfl) this
/-- Where nothing may come up, all has come up. -/
theorem ready_nil {listed : Array Bool} (hsz : listed.size = ops.size) (hdn : ∀ k i, i ∈ bnd ops k → i < k) (h : Region.ready .any ops listed = []) : ∀ i, i < ops.size → isL listed i := by
  intro i
  induction i using Nat.strongRecOn with
  | ind i ih =>
    intro hi
    refine Classical.byContradiction fun hn => ?_
    have : i ∈ Region.ready .any ops listed := (ready_mem hsz).2 ⟨hi, hn, fun j hj => ih j (hdn i j hj) (Nat.lt_trans (hdn i j hj) hi)⟩
    rw [h] at this
    simp at this

theorem anc_trans {n i k j : Nat} (hi : i < n) (hki : k < i) (h : k ∈ bnd ops i) (hj : j ∈ (ancs ops n).getD k []) : j ∈ (ancs ops n).getD i [] := by
  rw [ancs_getD hi]
  refine ancFold_mem.2 (.inl ⟨k, h, .inr ?_⟩)
  rwa [ancs_getD hki, ← ancs_getD (Nat.lt_trans hki hi)]
theorem nextOf_done {A : List (List Nat)} {fuel : Nat} {U C : List Nat} {t : ATree} (h : nextOf its A T fuel U C = some t) (hc : candOf its.length A T U = []) : t = .done := by
  unfold nextOf at h
  rw [hc] at h
  cases h
  rfl
theorem nextOf_turn {A : List (List Nat)} {fuel i : Nat} {U C : List Nat} {t : ATree} {s : St} (h : nextOf its A T fuel U C = some t) (hw : treeW P K t s) (hi : i ∈ candOf its.length A T U) :
    ∃ f it u, fuel = f + 1 ∧ its[i]? = some it ∧ againT its (agOf its A (i :: U) (C ++ newOf its.length A T U C)) (mkTree its A T f (i :: U) (C ++ newOf its.length A T U C)) = some u ∧ ∃ s1, (∀ K' : St → Prop, K' s1 → itW P it s K') ∧ treeW P K u s1 := by
  unfold nextOf at h
  cases hl : candOf its.length A T U with
  | nil => rw [hl] at hi; simp at hi
  | cons a l =>
    rw [hl] at h
    cases fuel with
    | zero => cases h
    | succ f =>
      obtain ⟨u, h1, h2⟩ := alts_eq h hw i (by rw [← hl]; exact hi)
      simp only [Option.bind_eq_some_iff, Option.map_eq_some_iff] at h1
      obtain ⟨it, e1, u', e2, rfl⟩ := h1
      obtain ⟨s1, h3, h4⟩ := h2
      exact ⟨f, it, u', rfl, e1, e2, s1, h3, h4⟩

theorem node_sound {s0 : St} (hits : allOf (trItY P N ops) ops.toList = some its) (hH : LtH ops its (ancs ops its.length) T) (hK : ∀ s' a' w', K s' → R P w0 env0 bad0 fps base N s' a' w' → Q .normal a' w') :
    ∀ (fuel : Nat) (U C : List Nat) (t : ATree) (sc : St), mkTree its (ancs ops its.length) T fuel U C = some t → treeW P K t sc → (∀ i ∈ U, i ∈ T) → (∀ i ∈ C, i < its.length ∧ i ∉ T ∧ subB (ancs ops its.length) T U i = true) → (∀ i ∈ C, ∀ k ∈ bnd ops i, k ∉ T → k ∈ C) →
    (∀ t, (∀ i, i ∈ U ∨ i ∈ C → dOf its i ≠ some t) → lk sc.slots t = lk s0.slots t) →
    ∀ (fw : Nat) (listed : Array Bool) (s : St) (a : Act) (w : World), listed.size = ops.size → (∀ i, isL listed i → ∀ j ∈ bnd ops i, isL listed j) → (∀ i ∈ T, isL listed i ↔ i ∈ U) → (∀ i, isL listed i → i ∈ U ∨ i ∈ C) → (List.range ops.size).countP (fun i => !listed.getD i true) ≤ fw →
      (∀ i ∈ C, ¬ isL listed i → Told P its sc i) → s.regs = sc.regs → (∀ t, (∃ i, isL listed i ∧ dOf its i = some t) → lk s.slots t = lk sc.slots t) → (∀ t, (¬ ∃ i, isL listed i ∧ dOf its i = some t) → lk s.slots t = lk s0.slots t) → R P w0 env0 bad0 fps base N s a w → wpAnyIn (Fw ro) n P .any ops Q fw listed a w := by
  have hlen : its.length = ops.size := by have := (allOf_all2 (R := fun _ _ => True) (fun _ _ _ => trivial) hits).len; simpa using this
  intro fuel
  induction fuel using Nat.strongRecOn with
  | ind fuel ihf =>
  intro U C t sc hmk hw hU hC hCc hsc
  rw [mkTree_eq] at hmk
  have hnew : ∀ i, i ∈ newOf its.length (ancs ops its.length) T U C ↔ i < its.length ∧ i ∉ T ∧ i ∉ C ∧ subB (ancs ops its.length) T U i = true := fun i => by
    unfold newOf
    rw [List.mem_filter, List.mem_range]
    simp
  have hcand : ∀ i, i ∈ candOf its.length (ancs ops its.length) T U ↔ i < its.length ∧ i ∈ T ∧ i ∉ U ∧ subB (ancs ops its.length) T U i = true := fun i => by
    unfold candOf
    rw [List.mem_filter, List.mem_range]
    simp
  obtain ⟨t', sc', hnx, hw', hregs', hlk', htold'⟩ := tellT_W hH (fun i hi => ((hnew i).1 hi).2.1) (List.Pairwise.filter _ List.pairwise_lt_range) hmk hw
  have hC' : ∀ i ∈ C ++ newOf its.length (ancs ops its.length) T U C, i < its.length ∧ i ∉ T ∧ subB (ancs ops its.length) T U i = true := fun i hi => by
    rcases List.mem_append.1 hi with h | h
    · exact hC i h
    · obtain ⟨a, b, _, c⟩ := (hnew i).1 h
      exact ⟨a, b, c⟩
  have hsc' : ∀ t, (∀ i, i ∈ U ∨ i ∈ C ++ newOf its.length (ancs ops its.length) T U C → dOf its i ≠ some t) → lk sc'.slots t = lk s0.slots t := fun t ht => by
    rw [hlk' t fun i hi => ht i (.inr (List.mem_append.2 (.inr hi)))]
    exact hsc t fun i hi => ht i (hi.imp (fun h => h) fun h => List.mem_append.2 (.inl h))
  -- new ones write nothing that has come up
  have hold : ∀ (listed : Array Bool), (∀ i, isL listed i → i ∈ U ∨ i ∈ C) → ∀ t, (∃ i, isL listed i ∧ dOf its i = some t) → lk sc'.slots t = lk sc.slots t := fun listed hl t ⟨i, h1, h2⟩ => hlk' t fun k hk e => by
    obtain ⟨k1, k2, k3, _⟩ := (hnew k).1 hk
    have := hH.one i k t h2 e
    subst this
    rcases hl i h1 with h | h
    · exact k2 (hU i h)
    · exact k3 h
  have htoldC : ∀ i ∈ C, Told P its sc i → Told P its sc' i := fun i hi ht => ht.slots hregs' fun it d e1 e2 => by
    have hne : ∀ n, (∀ k ∈ newOf its.length (ancs ops its.length) T U C, dOf its k ≠ some n) → lk sc'.slots n = lk sc.slots n := hlk'
    have hdi : dOf its i = some d := by unfold dOf; rw [e1]; exact e2
    refine ⟨hne d fun k hk e => ?_, fun x hx => ev_lk fun n hn => hne n fun k hk e => ?_⟩
    · have := hH.one i k d hdi e
      subst this
      exact ((hnew i).1 hk).2.2.1 hi
    · subst hn
      obtain ⟨k1, k2, k3, k4⟩ := (hnew k).1 hk
      rcases hH.rd i it n k e1 hx e with h | h
      · -- k lies below i: it was told before
        exact k3 (hCc i hi k h k2)
      · exact k2 h.1
  have hCc' : ∀ i ∈ C ++ newOf its.length (ancs ops its.length) T U C, ∀ k ∈ bnd ops i, k ∉ T → k ∈ C ++ newOf its.length (ancs ops its.length) T U C := fun i hi k hk hkT => by
    by_cases hkC : k ∈ C
    · exact List.mem_append.2 (.inl hkC)
    · obtain ⟨a, b, c⟩ := hC' i hi
      have hki := hH.dn i k hk
      refine List.mem_append.2 (.inr ((hnew k).2 ⟨Nat.lt_trans hki a, hkT, hkC, subB_iff.2 fun j hj hjT => subB_iff.1 c j (anc_trans a hki hk hj) hjT⟩))
  generalize hCe : C ++ newOf its.length (ancs ops its.length) T U C = C' at hC' hsc' hCc'
  -- the rounds of this knot
  have inner : ∀ (fw : Nat) (listed : Array Bool) (s : St) (a : Act) (w : World), listed.size = ops.size → (∀ i, isL listed i → ∀ j ∈ bnd ops i, isL listed j) → (∀ i ∈ T, isL listed i ↔ i ∈ U) → (∀ i, isL listed i → i ∈ U ∨ i ∈ C') → (List.range ops.size).countP (fun i => !listed.getD i true) ≤ fw →
      (∀ i ∈ C', ¬ isL listed i → Told P its sc' i) → s.regs = sc'.regs → (∀ t, (∃ i, isL listed i ∧ dOf its i = some t) → lk s.slots t = lk sc'.slots t) → (∀ t, (¬ ∃ i, isL listed i ∧ dOf its i = some t) → lk s.slots t = lk s0.slots t) → R P w0 env0 bad0 fps base N s a w → wpAnyIn (Fw ro) n P .any ops Q fw listed a w := by
    intro fw
    induction fw with
    | zero =>
      intro listed s a w hsz hcl hTl hLC hcnt htold hregs hs1 hs2 hR
      have hall : ∀ i, i < ops.size → isL listed i := fun i hi => by
        have : (List.range ops.size).countP (fun i => !listed.getD i true) = 0 := by omega
        have := (List.countP_eq_zero.1 this) i (List.mem_range.2 hi)
        rw [unl_iff hsz hi] at this
        exact Classical.not_not.1 this
      have hready : Region.ready .any ops listed = [] := List.eq_nil_iff_forall_not_mem.2 fun i hi => by
        obtain ⟨h1, h2, _⟩ := (ready_mem hsz).1 hi
        exact h2 (hall i h1)
      have hcn : candOf its.length (ancs ops its.length) T U = [] := List.eq_nil_iff_forall_not_mem.2 fun i hi => by
        obtain ⟨h1, h2, h3, _⟩ := (hcand i).1 hi
        exact h3 ((hTl i h2).1 (hall i (by omega)))
      have := nextOf_done hnx hcn
      subst this
      refine wpAnyIn_done hready (hK sc' a w hw' (R.congr hregs.symm (fun t => ?_) hR)) 0
      by_cases ht : ∃ i, isL listed i ∧ dOf its i = some t
      · exact (hs1 t ht).symm
      · rw [hs2 t ht]
        exact hsc' t fun i hi e => ht ⟨i, hall i (by have := dOf_lt e; omega), e⟩
    | succ fw ihw =>
      intro listed s a w hsz hcl hTl hLC hcnt htold hregs hs1 hs2 hR
      by_cases hready : Region.ready .any ops listed = []
      · have hall := ready_nil hsz hH.dn hready
        have hcn : candOf its.length (ancs ops its.length) T U = [] := List.eq_nil_iff_forall_not_mem.2 fun i hi => by
          obtain ⟨h1, h2, h3, _⟩ := (hcand i).1 hi
          exact h3 ((hTl i h2).1 (hall i (by omega)))
        have := nextOf_done hnx hcn
        subst this
        refine wpAnyIn_done hready (hK sc' a w hw' (R.congr hregs.symm (fun t => ?_) hR)) _
        by_cases ht : ∃ i, isL listed i ∧ dOf its i = some t
        · exact (hs1 t ht).symm
        · rw [hs2 t ht]
          exact hsc' t fun i hi e => ht ⟨i, hall i (by have := dOf_lt e; omega), e⟩
      · refine ⟨fun h0 => absurd h0 hready, fun i hi => ?_⟩
        obtain ⟨h1, h2, h3⟩ := (ready_mem hsz).1 hi
        have him : i < its.length := by omega
        have hit : its[i]? = some (its[i]'him) := List.getElem?_eq_getElem him
        have hti : trItY P N ops ops[i] = some (its[i]'him) := by
          have h := (allOf_all2 (R := fun it o => trItY P N ops o = some it) (fun _ _ h => h) hits).get i him (by simpa using h1)
          simpa using h
        have hanc : ∀ j ∈ (ancs ops its.length).getD i [], isL listed j := anc_clo hcl i him h3
        have hsub : subB (ancs ops its.length) T U i = true := subB_iff.2 fun j hj hjT => (hTl j hjT).1 (hanc j hj)
        have hrd : ∀ x ∈ (its[i]'him).rdsG, s.ev x = sc'.ev x := fun x hx => ev_lk fun n hn => by
          subst hn
          by_cases ht : ∃ k, isL listed k ∧ dOf its k = some n
          · exact hs1 n ht
          · rw [hs2 n ht]
            refine (hsc' n fun k hk e => ?_).symm
            rcases hH.rd i _ n k hit hx e with h | h
            · exact ht ⟨k, h3 k h, e⟩
            · rcases hk with hk | hk
              · exact ht ⟨k, (hTl k h.1).2 hk, e⟩
              · exact (hC' k hk).2.1 h.1
        have hcnt' : (List.range ops.size).countP (fun j => !(listed.setIfInBounds i true).getD j true) ≤ fw := by
          have := unl_less hsz h1 h2
          omega
        have hcl' : ∀ j, isL (listed.setIfInBounds i true) j → ∀ q ∈ bnd ops j, isL (listed.setIfInBounds i true) q := fun j hj q hq => by
          rw [isL_set (by omega)]
          rcases (isL_set (by omega)).1 hj with rfl | h
          · exact .inr (h3 q hq)
          · exact .inr (hcl j h q hq)
        obtain ⟨hop1, hop2, hop3⟩ := hH.op i _ hit
        by_cases hiT : i ∈ T
        · have hiU : i ∉ U := fun h => h2 ((hTl i hiT).2 h)
          obtain ⟨f, it, u, rfl, e1, e2, sn, e3, e4⟩ := nextOf_turn hnx hw' ((hcand i).2 ⟨him, hiT, hiU, hsub⟩)
          rw [hit] at e1
          cases e1
          rw [hCe] at e2
          obtain ⟨t2, g1, g2, g3⟩ := againT_W hH e2 e4
          have hWs : itW P (its[i]'him) s fun s1 => ∃ v rg, sn = sc'.putr (its[i]'him).d v rg ∧ s1 = s.putr (its[i]'him).d v rg :=
            itW_turn (K := fun s1 => s1 = sn) (Turn.id P sc'.regs) hregs (fun _ _ => rfl) hop1 hop2 hrd (fun v' rg' e => ⟨v', rg', e.symm, rfl⟩) (e3 _ rfl)
          refine it_opIn (Array.getElem?_eq_getElem h1) hti hWs hR fun s' a' w' k r => ?_
          obtain ⟨v, rg, rfl, rfl⟩ := k
          have hmono : ∀ j, subB (ancs ops its.length) T U j = true → subB (ancs ops its.length) T (i :: U) j = true := fun j hj => subB_iff.2 fun q hq hqT => List.mem_cons_of_mem _ (subB_iff.1 hj q hq hqT)
          have hdn : ∀ t, dOf its i ≠ some t → (its[i]'him).d ≠ some t := fun t h e => h (by unfold dOf; rw [hit]; exact e)
          refine ihf f (Nat.lt_succ_self f) (i :: U) C' t2 _ g1 g2 (fun j hj => ?_) (fun j hj => ⟨(hC' j hj).1, (hC' j hj).2.1, hmono j (hC' j hj).2.2⟩) hCc' (fun t ht => ?_) fw (listed.setIfInBounds i true) _ a' w' (by simpa using hsz) hcl' (fun j hj => ?_) (fun j hj => ?_) hcnt' (fun j hj hjl => ?_) ?_ (fun t ht => ?_) (fun t ht => ?_) r
          · rcases List.mem_cons.1 hj with rfl | hj
            · exact hiT
            · exact hU j hj
          · rw [lk_putr_ne (hdn t (ht i (.inl (by simp))))]
            exact hsc' t fun k hk => ht k (hk.imp (List.mem_cons_of_mem _) fun h => h)
          · rw [isL_set (by omega), List.mem_cons]
            constructor
            · rintro (rfl | h)
              · exact .inl rfl
              · exact .inr ((hTl j hj).1 h)
            · rintro (rfl | h)
              · exact .inl rfl
              · exact .inr ((hTl j hj).2 h)
          · rcases (isL_set (by omega)).1 hj with rfl | h
            · exact .inl (by simp)
            · exact (hLC j h).imp (List.mem_cons_of_mem _) fun h => h
          · have hjl' : ¬ isL listed j := fun h => hjl ((isL_set (by omega)).2 (.inr h))
            have hnanc : ∀ k, isL listed k ∨ k = i → j ∉ (ancs ops its.length).getD k [] := fun k hk hj' => by
              rcases hk with hk | rfl
              · exact hjl' (anc_clo hcl k (by
                  have := hk
                  unfold isL at this
                  have := (Array.getElem?_eq_some_iff.1 this).1
                  omega) (hcl k hk) j hj')
              · exact hjl' (hanc j hj')
            cases hlb : looksB its j with
            | true =>
              refine g3 j ?_
              unfold agOf
              rw [List.mem_filter]
              refine ⟨hj, ?_⟩
              rw [hlb, Bool.true_and, Bool.not_eq_true', List.any_eq_false]
              intro k hk
              have : j ∉ (ancs ops its.length).getD k [] := hnanc k (by
                rcases List.mem_cons.1 hk with rfl | hk
                · exact .inr rfl
                · exact .inl ((hTl k (hU k hk)).2 hk))
              simpa using this
            | false =>
              refine Told.blind hH (htold j hj hjl') hlb fun itj dj q1 q2 => ?_
              have hdj : dOf its j = some dj := by unfold dOf; rw [q1]; exact q2
              refine ⟨lk_putr_ne fun e => ?_, fun x hx => ev_lk fun n hn => lk_putr_ne fun e => ?_⟩
              · have := hH.one i j dj (by unfold dOf; rw [hit]; exact e) hdj
                subst this
                exact (hC' i hj).2.1 hiT
              · subst hn
                rcases hH.rd j itj n i q1 hx (by unfold dOf; rw [hit]; exact e) with h | h
                · exact hiU (subB_iff.1 (hC' j hj).2.2 i (anc_up (hC' j hj).1 h) hiT)
                · exact hnanc i (.inr rfl) h.2
          · rw [putr_regs', putr_regs']
          · obtain ⟨j, hj, e⟩ := ht
            by_cases hd : (its[i]'him).d = some t
            · rw [lk_putr_eq hd, lk_putr_eq hd]
            · rw [lk_putr_ne hd, lk_putr_ne hd]
              refine hs1 t ⟨j, ?_, e⟩
              rcases (isL_set (by omega)).1 hj with rfl | h
              · unfold dOf at e
                rw [hit] at e
                exact absurd e hd
              · exact h
          · rw [lk_putr_ne fun e => ht ⟨i, (isL_set (by omega)).2 (.inl rfl), by unfold dOf; rw [hit]; exact e⟩]
            exact hs2 t fun ⟨j, hj, e⟩ => ht ⟨j, (isL_set (by omega)).2 (.inr hj), e⟩
        · have hiC : i ∈ C' := by
            rw [← hCe, List.mem_append]
            by_cases hic : i ∈ C
            · exact .inl hic
            · exact .inr ((hnew i).2 ⟨him, hiT, hic, hsub⟩)
          obtain ⟨it, d, e1, e2, e3⟩ := htold i hiC h2
          rw [hit] at e1
          cases e1
          have hdi : dOf its i = some d := by unfold dOf; rw [hit]; exact e2
          refine it_opIn (Array.getElem?_eq_getElem h1) hti (e3 s hregs hrd) hR fun s' a' w' k r => ?_
          subst k
          refine ihw (listed.setIfInBounds i true) ⟨(d, lk sc'.slots d) :: s.slots, s.regs⟩ a' w' (by simpa using hsz) hcl' (fun j hj => ?_) (fun j hj => ?_) hcnt' (fun j hj hjl => htold j hj fun h => hjl ((isL_set (by omega)).2 (.inr h))) hregs (fun t ht => ?_) (fun t ht => ?_) r
          · rw [isL_set (by omega), ← hTl j hj]
            exact ⟨fun h => h.resolve_left fun e => hiT (e ▸ hj), .inr⟩
          · rcases (isL_set (by omega)).1 hj with rfl | h
            · exact .inr hiC
            · exact hLC j h
          · by_cases e : d = t
            · subst e; simp [lk]
            · obtain ⟨j, hj, e'⟩ := ht
              simp only [lk, e, if_false]
              refine hs1 t ⟨j, ?_, e'⟩
              rcases (isL_set (by omega)).1 hj with rfl | h
              · rw [hdi] at e'
                exact absurd (Option.some.inj e') e
              · exact h
          · have e : d ≠ t := fun e => ht ⟨i, (isL_set (by omega)).2 (.inl rfl), by rw [hdi, e]⟩
            simp only [lk, e, if_false]
            exact hs2 t fun ⟨j, hj, e'⟩ => ht ⟨j, (isL_set (by omega)).2 (.inr hj), e'⟩
  intro fw listed s a w hsz hcl hTl hLC hcnt htold hregs hs1 hs2 hR
  refine inner fw listed s a w hsz hcl hTl (fun i hi => (hLC i hi).imp (fun h => h) fun h => by rw [← hCe]; exact List.mem_append.2 (.inl h)) hcnt (fun i hi hl => ?_) (hregs.trans hregs'.symm) (fun t ht => ?_) hs2 hR
  · rw [← hCe] at hi
    rcases List.mem_append.1 hi with h | h
    · exact htoldC i h (htold i h hl)
    · exact htold' i h
  · rw [hs1 t ht, hold listed hLC t ht]

theorem tellT_ok {its : List AIt} : ∀ {l : List Nat} {ot : Option ATree} {t : ATree}, (∀ i ∈ l, ∀ it, its[i]? = some it → TellOk it) → (∀ u, ot = some u → TreeOk u) → tellT its l ot = some t → TreeOk t
  | [], ot, t, _, h, e => h t e
  | i :: r, ot, t, hl, h, e => by
    simp only [tellT, Option.bind_eq_some_iff, Option.map_eq_some_iff] at e
    obtain ⟨it, e1, u, e2, rfl⟩ := e
    exact ⟨hl i (by simp) it e1, tellT_ok (fun j hj => hl j (List.mem_cons_of_mem _ hj)) h e2⟩
theorem againT_ok {its : List AIt} : ∀ {l : List Nat} {ot : Option ATree} {t : ATree}, (∀ i ∈ l, ∀ it, its[i]? = some it → TellOk it) → (∀ u, ot = some u → TreeOk u) → againT its l ot = some t → TreeOk t
  | [], ot, t, _, h, e => h t e
  | i :: r, ot, t, hl, h, e => by
    simp only [againT, Option.bind_eq_some_iff, Option.map_eq_some_iff] at e
    obtain ⟨it, e1, u, e2, rfl⟩ := e
    exact ⟨hl i (by simp) it e1, againT_ok (fun j hj => hl j (List.mem_cons_of_mem _ hj)) h e2⟩
theorem alts_ok {f : Nat → Option ATree} (hf : ∀ i t, f i = some t → TreeOk t) : ∀ {l : List Nat} {t : ATree}, alts f l = some t → TreeOk t
  | [], t, h => by cases h
  | [i], t, h => hf i t h
  | i :: k :: r, t, h => by
    simp only [alts, Option.bind_eq_some_iff, Option.map_eq_some_iff] at h
    obtain ⟨t1, h1, u, h2, rfl⟩ := h
    exact ⟨hf i t1 h1, alts_ok hf (l := k :: r) h2⟩
theorem mkTree_ok {its : List AIt} {A : List (List Nat)} {T : List Nat} (hT : ∀ i, i ∉ T → ∀ it, its[i]? = some it → TellOk it) : ∀ (fuel : Nat) (U C : List Nat) (t : ATree), (∀ i ∈ C, i ∉ T) → mkTree its A T fuel U C = some t → TreeOk t := by
  intro fuel
  induction fuel with
  | zero =>
    intro U C t hC h
    rw [mkTree_eq] at h
    refine tellT_ok (fun i hi => hT i (by unfold newOf at hi; simp at hi; exact hi.2.1)) (fun u hu => ?_) h
    unfold nextOf at hu
    split at hu
    · cases hu; trivial
    · cases hu
    · rename_i h0 h1; cases h0
  | succ fuel ih =>
    intro U C t hC h
    rw [mkTree_eq] at h
    have hn : ∀ i ∈ newOf its.length A T U C, i ∉ T := fun i hi => by unfold newOf at hi; simp at hi; exact hi.2.1
    have hC' : ∀ i ∈ C ++ newOf its.length A T U C, i ∉ T := fun i hi => (List.mem_append.1 hi).elim (hC i) (hn i)
    refine tellT_ok (fun i hi => hT i (hn i hi)) (fun u hu => ?_) h
    unfold nextOf at hu
    split at hu
    · cases hu; trivial
    · cases hu
    · rename_i f h0 h1
      cases h0
      refine alts_ok (fun i t ht => ?_) hu
      simp only [Option.bind_eq_some_iff, Option.map_eq_some_iff] at ht
      obtain ⟨it, e1, u', e2, rfl⟩ := ht
      show TreeOk u'
      exact againT_ok (fun j hj => hT j (hC' j (List.mem_filter.1 hj).1)) (fun q hq => ih _ _ _ hC' hq) e2
theorem treeOf_ok {P : Program} {N : Nat} {ops : Array Oper} {t : ATree} (h : treeOf P N ops = some t) : TreeOk t := by
  simp only [treeOf, Option.bind_eq_some_iff] at h
  obtain ⟨its, hits, u, hu, ht⟩ := h
  have hok := guardO_eq.1 hu
  have hH := ltOk_H hok
  refine mkTree_ok (fun i hi it hit => ?_) _ _ _ _ (fun i hi => by simp at hi) ht
  obtain ⟨h1, h2, h3⟩ := hH.op i it hit
  have hlt := (List.getElem?_eq_some_iff.1 hit).1
  have hb : turnB ops its i = false := by
    cases hb : turnB ops its i with
    | false => rfl
    | true => exact absurd (List.mem_filter.2 ⟨List.mem_range.2 hlt, hb⟩) hi
  unfold turnB at hb
  rw [hit] at hb
  simp only [Bool.or_eq_false_iff] at hb
  refine ⟨?_, h2, h3 hi, hb.2.1⟩
  cases hl : it.op.loc with
  | some _ => rfl
  | none => rw [hl] at hb; simp at hb
theorem any_sound {id : Nat} {t : ATree} {s : St} {a : Act} {w : World} (hm : P.follows .mixedOrders = true) (ht : treeOf P N ops = some t) (h : treeW P K t s)
    (hR : R P w0 env0 bad0 fps base N s a w) (hK : ∀ s' a' w', K s' → R P w0 env0 bad0 fps base N s' a' w' → Q .normal a' w') : (Code.region id ops true).wpIn (Fw ro) n P Q a w := by
  simp only [treeOf, Option.bind_eq_some_iff] at ht
  obtain ⟨its, hits, u, hu, ht⟩ := ht
  have hH := ltOk_H (guardO_eq.1 hu)
  have hg : ∀ i, ¬ isL (Array.replicate ops.size false) i := fun i hi => by
    unfold isL at hi
    rw [Array.getElem?_replicate] at hi
    split at hi <;> simp at hi
  exact wpIn_region_any hm (node_sound (s0 := s) hits hH hK _ [] [] t s ht h (fun i hi => by simp at hi) (fun i hi => by simp at hi) (fun i hi => by simp at hi) (fun _ _ => rfl) _ _ s a _ (by simp) (fun i hi => absurd hi (hg i)) (fun i _ => ⟨fun h => absurd h (hg i), fun h => by simp at h⟩) (fun i hi => absurd hi (hg i)) (by
      exact Nat.le_trans List.countP_le_length (by simp)) (fun i hi => by simp at hi) rfl (fun t ⟨i, hi, _⟩ => absurd hi (hg i)) (fun _ _ => rfl) hR.draw)
end

end Go.Sim
