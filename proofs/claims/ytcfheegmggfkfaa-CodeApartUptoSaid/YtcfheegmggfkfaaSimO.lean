/- Regions and code over the plain picture. Of no program. -/
import Derived.Test.YtcfheegmggfkfaaSimN
import Derived.LoopN
namespace Go.Sim
open Go.RowKit Go.Proofs.Ytcfheegmggfkfaa.B

/-- An operation of a region, with its guard: the slot that must hold what. -/
structure AIt where
  guard : Option (Nat × Bool)
  d : Option Nat
  op : AOp

def itW (P : Program) (it : AIt) (s : St) (K : St → Prop) : Prop :=
  match it.guard with
  | none => opW P it.op s K
  | some (t, want) => match lk s.slots t with
    | .c (.p (.v (.bool b))) => (b = want → opW P it.op s K) ∧ (b ≠ want → K (s.put it.d (.tup [])))
    | .tup [] => K (s.put it.d (.tup []))
    | _ => False

def opsW (P : Program) (K : St → Prop) : List AIt → St → Prop
  | [], s => K s
  | it :: r, s => itW P it s (opsW P K r)

def okDst (N : Nat) : Option Nat → Bool
  | none => true
  | some d => decide (d < N)

def trIt (P : Program) (N : Nat) (ops : Array Oper) (o : Oper) : Option AIt :=
  (guardO (okDst N o.dst)).bind fun _ => (trOp P o).bind fun ao => match o.guard with
  | none => some ⟨none, o.dst, ao⟩
  | some (j, want) => ((ops[j]?).bind (·.dst)).map fun t => ⟨some (t, want), o.dst, ao⟩

section
variable {P : Program} {w0 w w' : World} {env0 env : Env} {bad0 : Nat → Prop} {fps : List Nat} {base : Nat → Prop} {N : Nat} {s : St} {a : Act} {o : Oper} {ops : Array Oper} {rest : List Oper}
  {Q : Exit → Act → World → Prop} {K : St → Prop}

theorem okDst_eq {d : Option Nat} (h : okDst N d = true) : ∀ n, d = some n → n < N := by
  intro n e
  subst e
  simpa [okDst] using h

theorem undef_rel {bad : Nat → Prop} : VRel w env bad (.tup []) undef := .tup (vs := []) rfl (fun i h => by simp at h)

theorem tup0_of {bad : Nat → Prop} {v : AV} {u : Value} (h : VRel w env bad v u) (hv : v = .tup []) : u = undef := by
  subst hv
  cases h with
  | @tup _ vs hn _ =>
    have : vs = [] := List.eq_nil_of_length_eq_zero (by simpa using hn.symm)
    rw [this]
    rfl

theorem R.skip (hR : R w0 env0 bad0 fps base N s a w) {d : Option Nat} (hd : ∀ n, d = some n → n < N) : R w0 env0 bad0 fps base N (s.put d (.tup [])) (a.put d undef) w := by
  obtain ⟨⟨env, hrs, hsl, hev⟩, hsz, hdf⟩ := hR
  exact R.put' (regs' := s.regs) hsz hdf hsl hev hrs (Ev.refl _ _ _) hd undef_rel

/-- What the guard's slot holds is what is yielded. -/
theorem yields_bool {j t : Nat} {b : Bool} (hj : (ops[j]?).bind (·.dst) = some t) (hR : R w0 env0 bad0 fps base N s a w) (h : lk s.slots t = .c (.p (.v (.bool b)))) : yielded ops a.tmps j = some b := by
  obtain ⟨⟨env, hrs, hsl, hev⟩, hsz, hdf⟩ := hR
  have hv := (val_of (hsl t) (x := .bool b) (by rw [h]; rfl)).1
  have hx : a.tmps[t]? = some (.bool b) := by
    rw [Array.getD_eq_getD_getElem?] at hv
    cases hg : a.tmps[t]? with
    | none => rw [hg] at hv; cases hv
    | some x => rw [hg] at hv; exact congrArg some hv
  simp only [yielded, hj, Option.bind_some, hx]
theorem yields_none {j t : Nat} (hj : (ops[j]?).bind (·.dst) = some t) (hR : R w0 env0 bad0 fps base N s a w) (h : lk s.slots t = .tup []) : yielded ops a.tmps j = none := by
  obtain ⟨⟨env, hrs, hsl, hev⟩, hsz, hdf⟩ := hR
  have hv : a.tmps.getD t undef = undef := tup0_of (hsl t) h
  rw [Array.getD_eq_getD_getElem?] at hv
  cases hg : a.tmps[t]? with
  | none => simp only [yielded, hj, Option.bind_some, hg]
  | some x =>
    rw [hg] at hv
    have : x = undef := hv
    subst this
    simp only [yielded, hj, Option.bind_some, hg, undef]

theorem it_if {next : Act → World → Prop} {it : AIt} (htr : trIt P N ops o = some it) (h : itW P it s K) (hR : R w0 env0 bad0 fps base N s a w)
    (hK : ∀ s' a' w', K s' → R w0 env0 bad0 fps base N s' a' w' → next a' w') : if Region.wanted o (yielded ops a.tmps) then o.wp P a w next Q else next (a.put o.dst undef) w := by
  simp only [trIt, Option.bind_eq_some_iff] at htr
  obtain ⟨u, hu, ao, hao, htr⟩ := htr
  have hd := okDst_eq (guardO_eq.1 hu)
  have hs : SndW P o ao := (trOp_snd hao).wp
  cases hg : o.guard with
  | none =>
    rw [hg] at htr
    cases htr
    simp only [Region.wanted, hg, if_true]
    exact hs hd h hR fun s' a' w' k r => hK s' a' w' k r
  | some q =>
    obtain ⟨j, want⟩ := q
    rw [hg] at htr
    obtain ⟨t, ht, e⟩ := Option.map_eq_some_iff.1 htr
    subst e
    simp only [itW] at h
    split at h
    · rename_i b hb
      have hy := yields_bool ht hR hb
      simp only [Region.wanted, hg, hy]
      by_cases hbw : b = want
      · subst hbw
        rw [if_pos (by simp)]
        exact hs hd (h.1 rfl) hR fun s' a' w' k r => hK s' a' w' k r
      · rw [if_neg (by simpa using hbw)]
        exact hK _ _ _ (h.2 hbw) (hR.skip hd)
    · rename_i hb
      have hy := yields_none ht hR hb
      simp only [Region.wanted, hg, hy]
      rw [if_neg (by simp)]
      exact hK _ _ _ h (hR.skip hd)
    · exact h.elim

theorem it_sound {it : AIt} (htr : trIt P N ops o = some it) (h : itW P it s K) (hR : R w0 env0 bad0 fps base N s a w)
    (hK : ∀ s' a' w', K s' → R w0 env0 bad0 fps base N s' a' w' → wpList P ops Q rest a' w') : wpList P ops Q (o :: rest) a w :=
  wpList_step fun _ hK' => it_if htr h hR fun s' a' w' k r => hK' _ _ (hK s' a' w' k r)

theorem it_op {next : Act → World → Prop} {it : AIt} {i : Nat} (hi : ops[i]? = some o) (htr : trIt P N ops o = some it) (h : itW P it s K) (hR : R w0 env0 bad0 fps base N s a w)
    (hK : ∀ s' a' w', K s' → R w0 env0 bad0 fps base N s' a' w' → next a' w') : wpOp P ops Q i next a w := by
  have := it_if (Q := Q) htr h hR hK
  unfold wpOp
  simp only [hi]
  split
  · rename_i hw; rw [if_pos hw] at this; exact .inl this
  · rename_i hw; rw [if_neg hw] at this; exact this

theorem it_time {nx : Act → Prop} {it : AIt} (hp : it.op.timeless = true) (htr : trIt P N ops o = some it) (h : itW P it s K) (hR : R w0 env0 bad0 fps base N s a w)
    (hK : ∀ s' a', K s' → R w0 env0 bad0 fps base N s' a' w → nx a') : ∃ v, Yields P ops o v a ∧ nx (a.put o.dst v) := by
  simp only [trIt, Option.bind_eq_some_iff] at htr
  obtain ⟨u, hu, ao, hao, htr⟩ := htr
  have hd := okDst_eq (guardO_eq.1 hu)
  cases hg : o.guard with
  | none =>
    rw [hg] at htr
    cases htr
    obtain ⟨v, hv, hn⟩ := (trOp_snd hao).time hp hd h hR hK
    exact ⟨v, .inl ⟨by simp only [Region.wanted, hg], hv⟩, hn⟩
  | some q =>
    obtain ⟨j, want⟩ := q
    rw [hg] at htr
    obtain ⟨t, ht, e⟩ := Option.map_eq_some_iff.1 htr
    subst e
    simp only [itW] at h
    split at h
    · rename_i b hb
      have hy := yields_bool ht hR hb
      by_cases hbw : b = want
      · subst hbw
        obtain ⟨v, hv, hn⟩ := (trOp_snd hao).time hp hd (h.1 rfl) hR hK
        exact ⟨v, .inl ⟨by simp only [Region.wanted, hg, hy]; simp, hv⟩, hn⟩
      · exact ⟨undef, .inr ⟨by simp only [Region.wanted, hg, hy]; simpa using hbw, rfl⟩, hK _ _ (h.2 hbw) (hR.skip hd)⟩
    · rename_i hb
      have hy := yields_none ht hR hb
      exact ⟨undef, .inr ⟨by simp only [Region.wanted, hg, hy]; rfl, rfl⟩, hK _ _ h (hR.skip hd)⟩
    · exact h.elim

theorem it_still {it : AIt} {nx : Act → Prop} (hp : it.op.pure = true) (htr : trIt P N ops o = some it) (h : itW P it s K) (hR : R w0 env0 bad0 fps base N s a w)
    (hK : ∀ s' a', K s' → R w0 env0 bad0 fps base N s' a' w → wpStill P ops w nx rest a') : wpStill P ops w nx (o :: rest) a := by
  simp only [trIt, Option.bind_eq_some_iff] at htr
  obtain ⟨u, hu, ao, hao, htr⟩ := htr
  have hd := okDst_eq (guardO_eq.1 hu)
  refine wpStill_step fun K' hK' => ?_
  cases hg : o.guard with
  | none =>
    rw [hg] at htr
    cases htr
    simp only [Region.wanted, hg, if_true]
    exact pure_still ((trOp_snd hao).still hp hd h hR fun s' a' k r => hK' _ (hK s' a' k r))
  | some q =>
    obtain ⟨j, want⟩ := q
    rw [hg] at htr
    obtain ⟨t, ht, e⟩ := Option.map_eq_some_iff.1 htr
    subst e
    simp only [itW] at h
    split at h
    · rename_i b hb
      have hy := yields_bool ht hR hb
      simp only [Region.wanted, hg, hy]
      by_cases hbw : b = want
      · subst hbw
        rw [if_pos (by simp)]
        exact pure_still ((trOp_snd hao).still hp hd (h.1 rfl) hR fun s' a' k r => hK' _ (hK s' a' k r))
      · rw [if_neg (by simpa using hbw)]
        exact hK' _ (hK _ _ (h.2 hbw) (hR.skip hd))
    · rename_i hb
      have hy := yields_none ht hR hb
      simp only [Region.wanted, hg, hy]
      rw [if_neg (by simp)]
      exact hK' _ (hK _ _ h (hR.skip hd))
    · exact h.elim

theorem ops_sound (hK : ∀ s' a' w', K s' → R w0 env0 bad0 fps base N s' a' w' → Q .normal a' w') : ∀ {l : List Oper} {its : List AIt} {s : St} {a : Act} {w : World}, allOf (trIt P N ops) l = some its → opsW P K its s → R w0 env0 bad0 fps base N s a w → wpList P ops Q l a w
  | [], its, s, a, w, htr, h, hR => by cases htr; exact wpList_nil (hK _ _ _ h hR)
  | o :: l, its, s, a, w, htr, h, hR => by
    simp only [allOf, Option.bind_eq_some_iff, Option.map_eq_some_iff] at htr
    obtain ⟨it, h1, its', h2, rfl⟩ := htr
    exact it_sound h1 h hR fun s' a' w' k r => ops_sound hK h2 k r

theorem ops_still {nx : Act → Prop} (hK : ∀ s' a', K s' → R w0 env0 bad0 fps base N s' a' w → nx a') : ∀ {l : List Oper} {its : List AIt} {s : St} {a : Act}, its.all (·.op.pure) = true → allOf (trIt P N ops) l = some its → opsW P K its s → R w0 env0 bad0 fps base N s a w → wpStill P ops w nx l a
  | [], its, s, a, _, htr, h, hR => by cases htr; exact wpStill_nil (hK _ _ h hR)
  | o :: l, its, s, a, hp, htr, h, hR => by
    simp only [allOf, Option.bind_eq_some_iff, Option.map_eq_some_iff] at htr
    obtain ⟨it, h1, its', h2, rfl⟩ := htr
    rw [List.all_cons, Bool.and_eq_true] at hp
    exact it_still hp.1 h1 h hR fun s' a' k r => ops_still hK hp.2 h2 k r

theorem opsW_append : ∀ {l m : List AIt} {s : St}, opsW P K (l ++ m) s ↔ opsW P (opsW P K m) l s
  | [], _, _ => Iff.rfl
  | it :: l, m, s => by
    have : opsW P K (l ++ m) = opsW P (opsW P K m) l := funext fun s' => propext opsW_append
    simp only [List.cons_append, opsW, this]

theorem allOf_split {α β : Type} {f : α → Option β} : ∀ {l : List α} {m : List β} (n : Nat), allOf f l = some m → allOf f (l.take n) = some (m.take n) ∧ allOf f (l.drop n) = some (m.drop n)
  | l, m, 0, h => ⟨by simp [allOf], by simpa using h⟩
  | [], m, n + 1, h => by cases h; exact ⟨rfl, rfl⟩
  | x :: l, m, n + 1, h => by
    simp only [allOf, Option.bind_eq_some_iff, Option.map_eq_some_iff] at h
    obtain ⟨b, h1, m', h2, rfl⟩ := h
    obtain ⟨k1, k2⟩ := allOf_split n h2
    exact ⟨by simp [allOf, h1, k1], by simpa using k2⟩

theorem R.draw (hR : R w0 env0 bad0 fps base N s a w) : R w0 env0 bad0 fps base N s a { w with drawn := w.drawn + 1 } := by
  obtain ⟨⟨env, hrs, hsl, hev⟩, hsz, hdf⟩ := hR
  have he : Ev w env (badOf base env s.regs) { w with drawn := w.drawn + 1 } env (badOf base env s.regs) := ⟨⟨Nat.le_refl _, fun _ _ _ => rfl⟩, fun _ _ h => h, Env.le_refl _⟩
  exact ⟨⟨env, hrs.draw rfl rfl rfl rfl, fun n => (hsl n).ev he, hev.trans he⟩, hsz, hdf⟩

def drawOk (P : Program) (ops : Array Oper) (its : List AIt) : Bool :=
  P.follows .mixedOrders && ((Region.lexB .any ops && its.all (·.op.pure)) || (List.range ops.size).any fun n => Region.lexTailB .any ops n && (its.take n).all (·.op.pure))

def trReg (P : Program) (N : Nat) (ops : Array Oper) (draw : Bool) : Option (List AIt) :=
  (allOf (trIt P N ops) ops.toList).bind fun its => (guardO (!draw || drawOk P ops its)).map fun _ => its

theorem reg_sound {id : Nat} {draw : Bool} {its : List AIt} (htr : trReg P N ops draw = some its) (h : opsW P K its s) (hR : R w0 env0 bad0 fps base N s a w)
    (hK : ∀ s' a' w', K s' → R w0 env0 bad0 fps base N s' a' w' → Q .normal a' w') : (Code.region id ops draw).wp P Q a w := by
  simp only [trReg, Option.bind_eq_some_iff, Option.map_eq_some_iff] at htr
  obtain ⟨its', h1, u, hu, e⟩ := htr
  subst e
  cases draw with
  | false => exact wp_region_list (ops_sound hK h1 h hR)
  | true =>
    have hok : drawOk P ops its' = true := by simpa using guardO_eq.1 hu
    simp only [drawOk, Bool.and_eq_true, Bool.or_eq_true, List.any_eq_true] at hok
    obtain ⟨hm, ⟨hl, hp⟩ | ⟨n, hn, hl, hp⟩⟩ := hok
    · exact wp_region_still hm hl (ops_still (fun s' a' k r => hK s' a' _ k r) hp h1 h hR.draw)
    · obtain ⟨k1, k2⟩ := allOf_split n h1
      cases ops with
      | mk l =>
        refine wp_region_still_tail n hm hl ?_
        rw [← List.take_append_drop n its', opsW_append] at h
        exact ops_still (fun s' a' k r => ops_sound hK k2 k r) hp k1 h hR.draw
end

/-- Orders that a region may take, as far as they matter. -/
inductive ATree where
  | done
  | step (it : AIt) (t : ATree)
  | both (t u : ATree)

def treeW (P : Program) (K : St → Prop) : ATree → St → Prop
  | .done, s => K s
  | .step it t, s => itW P it s (treeW P K t)
  | .both t u, s => treeW P K t s ∧ treeW P K u s

def itAt (P : Program) (N : Nat) (ops : Array Oper) (i : Nat) : Option AIt := (ops[i]?).bind (trIt P N ops)
def takeOk (P : Program) (N : Nat) (ops : Array Oper) (listed : Array Bool) (i : Nat) : Bool :=
  (match itAt P N ops i with
    | some it => it.op.timeless
    | none => false) && Region.free .any ops listed i
def alts (f : Nat → Option ATree) : List Nat → Option ATree
  | [] => none
  | [i] => f i
  | i :: r => (f i).bind fun t => (alts f r).map fun u => .both t u
theorem alts_eq {P : Program} {K : St → Prop} {s : St} {f : Nat → Option ATree} : ∀ {l : List Nat} {t : ATree}, alts f l = some t → treeW P K t s → ∀ i ∈ l, ∃ u, f i = some u ∧ treeW P K u s
  | [i], t, h, hw, j, hj => by
    rw [List.mem_singleton] at hj
    subst hj
    exact ⟨t, h, hw⟩
  | i :: k :: r, t, h, hw, j, hj => by
    simp only [alts, Option.bind_eq_some_iff, Option.map_eq_some_iff] at h
    obtain ⟨t1, h1, u, h2, rfl⟩ := h
    rcases List.mem_cons.1 hj with rfl | hj
    · exact ⟨t1, h1, hw.1⟩
    · exact alts_eq (l := k :: r) h2 hw.2 j hj
def mkTree (P : Program) (N : Nat) (ops : Array Oper) : Nat → Array Bool → Option ATree
  | 0, listed => if Region.ready .any ops listed = [] then some .done else none
  | fuel + 1, listed =>
    match Region.ready .any ops listed with
    | [] => some .done
    | i :: r => match (i :: r).find? (takeOk P N ops listed) with
      | some j => (itAt P N ops j).bind fun it => (mkTree P N ops fuel (listed.setIfInBounds j true)).map (.step it)
      | none => alts (fun j => (itAt P N ops j).bind fun it => (mkTree P N ops fuel (listed.setIfInBounds j true)).map (.step it)) (i :: r)

section
variable {P : Program} {w0 : World} {env0 : Env} {bad0 : Nat → Prop} {fps : List Nat} {base : Nat → Prop} {N : Nat} {ops : Array Oper} {Q : Exit → Act → World → Prop} {K : St → Prop}
theorem tree_sound (hs : Region.noSelect ops = true) (hQ : ∀ c a w, ¬ Q (.panic c) a w) (hK : ∀ s' a' w', K s' → R w0 env0 bad0 fps base N s' a' w' → Q .normal a' w') : ∀ (fuel : Nat) (listed : Array Bool) (t : ATree) (s : St) (a : Act) (w : World),
    mkTree P N ops fuel listed = some t → treeW P K t s → R w0 env0 bad0 fps base N s a w → wpAny P .any ops Q fuel listed a w := by
  intro fuel
  induction fuel with
  | zero =>
    intro listed t s a w ht hw hR
    by_cases h : Region.ready .any ops listed = []
    · simp only [mkTree, if_pos h] at ht
      cases ht
      exact wpAny_done h (hK _ _ _ hw hR) 0
    · simp only [mkTree, if_neg h] at ht
      cases ht
  | succ fuel ih =>
    intro listed t s a w ht hw hR
    simp only [mkTree] at ht
    split at ht
    · rename_i h
      cases ht
      exact wpAny_done h (hK _ _ _ hw hR) _
    · rename_i i r hr
      split at ht
      · rename_i j hj
        simp only [Option.bind_eq_some_iff, Option.map_eq_some_iff] at ht
        obtain ⟨it, h1, t', h2, rfl⟩ := ht
        have h3 := List.find?_some hj
        have h4 := List.mem_of_find?_eq_some hj
        simp only [takeOk, h1, Bool.and_eq_true] at h3
        obtain ⟨o, ho, hto⟩ := Option.bind_eq_some_iff.1 h1
        obtain ⟨v, hy, hn⟩ := it_time (nx := fun a' => wpAny P .any ops Q fuel (listed.setIfInBounds j true) a' w) h3.1 hto hw hR fun s' a' k r => ih _ t' s' a' w h2 k r
        exact wpAny_take ho hs h3.2 (by rw [hr]; simpa using h4) (fun c a w h => absurd h (hQ _ _ _)) hy hn
      · refine wpAny_all hr (by simp) fun j hj => ?_
        obtain ⟨u, hu, hwu⟩ := alts_eq ht hw j hj
        simp only [Option.bind_eq_some_iff, Option.map_eq_some_iff] at hu
        obtain ⟨it, h1, t', h2, rfl⟩ := hu
        obtain ⟨o, ho, hto⟩ := Option.bind_eq_some_iff.1 h1
        exact it_op ho hto hwu hR fun s' a' w' k r => ih _ t' s' a' w' h2 k r

/-- All but panics. -/
def noPanic (Q : Exit → Act → World → Prop) : Exit → Act → World → Prop
  | .panic _, _, _ => False
  | e, a, w => Q e a w

theorem any_sound {id : Nat} {t : ATree} {s : St} {a : Act} {w : World} (hm : P.follows .mixedOrders = true) (hs : Region.noSelect ops = true) (ht : mkTree P N ops ops.size (Array.replicate ops.size false) = some t) (h : treeW P K t s)
    (hR : R w0 env0 bad0 fps base N s a w) (hK : ∀ s' a' w', K s' → R w0 env0 bad0 fps base N s' a' w' → Q .normal a' w') : (Code.region id ops true).wp P Q a w := by
  refine Code.wp_mono (Q := noPanic Q) (fun e a w q => ?_) (wp_region_any hm (tree_sound (Q := noPanic Q) hs (fun _ _ _ h => h) hK _ _ t s a _ ht h hR.draw))
  cases e <;> first | exact q | exact q.elim
end

/-- What an operation reads that leaves the rows as they are. -/
def AOp.loc : AOp → Option (List AX)
  | .mv _ x | .un _ _ x | .cvi _ _ x | .b2s _ x | .load _ _ _ x | .nilc _ x | .fad _ _ x | .fld _ _ _ _ x | .len _ x | .lens _ x | .ext _ x _ => some [x]
  | .bin _ _ x y | .eqs _ _ _ _ x y | .beq _ _ x y | .ixs _ _ x y | .ixa _ _ _ x y | .ixv _ _ _ _ x y | .ixt _ x y | .mm _ _ x y => some [x, y]
  | .pick _ c a b => some [c, a, b]
  | .sls _ _ x lo hi mx => some (x :: (lo.toList ++ (hi.toList ++ mx.toList)))
  | .build _ _ parts => some (parts.map (·.2.2))
  | .call _ _ args => some args
  | .callv _ x args => some (x :: args)
  | .mkf _ _ a b => some (a ++ b)
  | _ => none

theorem binW_mono {op : BinOp} {x y : Value} {K K' : Value → Prop} (hk : ∀ v, K v → K' v) (h : binW op x y K) : binW op x y K' := by
  unfold binW at h ⊢
  split at h <;> first
    | exact ⟨h.1, h.2.1, hk _ h.2.2⟩
    | exact ⟨h.1, hk _ h.2⟩
    | exact hk _ h
    | exact h.elim

theorem map_ev {s s' : St} {l : List AX} (h : ∀ x ∈ l, s'.ev x = s.ev x) : l.map s'.ev = l.map s.ev := List.map_congr_left h
theorem opt_ev {s s' : St} {o : Option AX} (h : ∀ x ∈ o.toList, s'.ev x = s.ev x) : o.map s'.ev = o.map s.ev := by
  cases o with
  | none => rfl
  | some x => simp [h x (by simp)]
theorem allOf_congr {α β : Type} {f g : α → Option β} : ∀ {l : List α}, (∀ x ∈ l, f x = g x) → allOf f l = allOf g l
  | [], _ => rfl
  | a :: l, h => by simp only [allOf, h a (by simp), allOf_congr (l := l) fun x hx => h x (by simp [hx])]

theorem opW_map {P : Program} {op : AOp} {l : List AX} {s s' : St} {K K' : St → Prop} (hl : op.loc = some l) (hr : s'.regs = s.regs) (hev : ∀ x ∈ l, s'.ev x = s.ev x)
    (hK : ∀ v rg, K (s.putr op.dst v rg) → K' (s'.putr op.dst v rg)) (h : opW P op s K) : opW P op s' K' := by
  have hK0 : ∀ v, K (s.put op.dst v) → K' (s'.put op.dst v) := fun v h => by
    have := hK v s.regs h
    rw [← hr] at this
    exact this
  cases op with
  | mv d x =>
    cases hl
    simp only [opW] at h ⊢
    rw [hev x (by simp)]
    exact hK0 _ h
  | bin d op x y =>
    cases hl
    simp only [opW] at h ⊢
    rw [hev x (by simp), hev y (by simp)]
    split at h
    · exact binW_mono (fun v hv => hK0 _ hv) h
    · exact h.elim
  | eqs d neg t ks x y =>
    cases hl
    simp only [opW] at h ⊢
    rw [hev x (by simp), hev y (by simp)]
    split at h
    · split at h
      · exact ⟨h.1, hK0 _ h.2⟩
      · exact h.elim
    · exact h.elim
  | beq d neg x y =>
    cases hl
    simp only [opW] at h ⊢
    rw [hev x (by simp), hev y (by simp)]
    split at h
    · exact hK0 _ h
    · exact h.elim
  | pick d c x y =>
    cases hl
    simp only [opW] at h ⊢
    rw [hev c (by simp), hev x (by simp), hev y (by simp)]
    split at h
    · exact ⟨fun e => hK0 _ (h.1 e), fun e => hK0 _ (h.2 e)⟩
    · exact h.elim
  | un d op x =>
    cases hl
    simp only [opW] at h ⊢
    rw [hev x (by simp)]
    split at h <;> first
      | exact hK0 _ h
      | exact h.elim
  | cvi d k x =>
    cases hl
    simp only [opW] at h ⊢
    rw [hev x (by simp)]
    split at h <;> first
      | exact hK0 _ h
      | exact h.elim
  | b2s d x =>
    cases hl
    simp only [opW] at h ⊢
    rw [hev x (by simp), hr]
    split at h
    · obtain ⟨h1, h2, bs, h3, h4⟩ := h
      exact ⟨h1, h2, bs, h3, hK0 _ h4⟩
    · exact h.elim
  | load d n agg x =>
    cases hl
    simp only [opW] at h ⊢
    rw [hev x (by simp), hr]
    split at h
    · split at h
      · obtain ⟨v, h1, h2, h3⟩ := h
        exact ⟨v, h1, h2, hK0 _ h3⟩
      · exact h.elim
    · split at h
      · obtain ⟨h0, c, v, h1, h2, h3, h4⟩ := h
        exact ⟨h0, c, v, h1, h2, h3, hK0 _ h4⟩
      · exact h.elim
    · obtain ⟨v, h1, h2, h3⟩ := h
      exact ⟨v, h1, h2, hK0 _ h3⟩
    · exact h.elim
  | nilc d x =>
    cases hl
    simp only [opW] at h ⊢
    rw [hev x (by simp)]
    split at h <;> first
      | exact hK0 _ h
      | exact h.elim
  | fad d off x =>
    cases hl
    simp only [opW] at h ⊢
    rw [hev x (by simp)]
    split at h <;> first
      | exact hK0 _ h
      | exact h.elim
  | fld d off n agg x =>
    cases hl
    simp only [opW] at h ⊢
    rw [hev x (by simp)]
    split at h
    · obtain ⟨v, h1, h2, h3⟩ := h
      exact ⟨v, h1, h2, hK0 _ h3⟩
    · exact h.elim
  | ixs d sz x i =>
    cases hl
    simp only [opW] at h ⊢
    rw [hev x (by simp), hev i (by simp)]
    split at h
    · obtain ⟨h0, h1, c, h2, h3⟩ := h
      exact ⟨h0, h1, c, h2, hK0 _ h3⟩
    · obtain ⟨h0, h1, h2, h3⟩ := h
      exact ⟨h0, h1, h2, hK0 _ h3⟩
    · exact h.elim
  | ixa d len sz x i =>
    cases hl
    simp only [opW] at h ⊢
    rw [hev x (by simp), hev i (by simp)]
    split at h
    · obtain ⟨h0, h1, h2, h3⟩ := h
      exact ⟨h0, h1, h2, hK0 _ h3⟩
    · obtain ⟨h1, h2, h3⟩ := h
      exact ⟨h1, h2, hK0 _ h3⟩
    · obtain ⟨h1, h2, h3⟩ := h
      exact ⟨h1, h2, hK0 _ h3⟩
    · exact h.elim
  | ixv d len sz agg x i =>
    cases hl
    simp only [opW] at h ⊢
    rw [hev x (by simp), hev i (by simp)]
    split at h
    · obtain ⟨h0, h1, v, h2, h3, h4⟩ := h
      exact ⟨h0, h1, v, h2, h3, hK0 _ h4⟩
    · exact h.elim
  | ixt d x i =>
    cases hl
    simp only [opW] at h ⊢
    rw [hev x (by simp), hev i (by simp)]
    split at h
    · obtain ⟨h0, h1, h2⟩ := h
      exact ⟨h0, h1, hK0 _ h2⟩
    · exact h.elim
  | len d x =>
    cases hl
    simp only [opW] at h ⊢
    rw [hev x (by simp)]
    split at h <;> first
      | exact hK0 _ h
      | exact h.elim
  | lens d x =>
    cases hl
    simp only [opW] at h ⊢
    rw [hev x (by simp)]
    split at h <;> first
      | exact hK0 _ h
      | exact h.elim
  | mm d mx x y =>
    cases hl
    simp only [opW] at h ⊢
    rw [hev x (by simp), hev y (by simp)]
    split at h <;> first
      | exact hK0 _ h
      | exact h.elim
  | ext d x i =>
    cases hl
    simp only [opW] at h ⊢
    rw [hev x (by simp)]
    split at h
    · obtain ⟨v, h1, h2⟩ := h
      exact ⟨v, h1, hK0 _ h2⟩
    · exact h.elim
  | sls d sz x lo hi mx =>
    cases hl
    simp only [opW] at h ⊢
    have e1 := opt_ev (s := s) (s' := s') (o := lo) fun x hx => hev x (by simp [hx])
    have e2 := opt_ev (s := s) (s' := s') (o := hi) fun x hx => hev x (by simp [hx])
    have e3 := opt_ev (s := s) (s' := s') (o := mx) fun x hx => hev x (by simp [hx])
    rw [hev x (by simp), e1, e2, e3]
    split at h
    · split at h
      · obtain ⟨h0, h1, h2, h3, h4⟩ := h
        exact ⟨h0, h1, h2, h3, hK0 _ h4⟩
      · obtain ⟨h0, h1, h2, h3, h4, h5⟩ := h
        exact ⟨h0, h1, h2, h3, h4, hK0 _ h5⟩
      · exact h.elim
    · split at h
      · obtain ⟨h0, h1, h2, h3, h4, h5⟩ := h
        exact ⟨h0, h1, h2, h3, h4, hK0 _ h5⟩
      · obtain ⟨h0, h1, h2, h3, h4, h5, h6⟩ := h
        exact ⟨h0, h1, h2, h3, h4, h5, hK0 _ h6⟩
      · exact h.elim
    · exact h.elim
  | build d zs parts =>
    cases hl
    simp only [opW] at h ⊢
    have e : (parts.map fun (off, sz, x) => (off, sz, s'.ev x)) = parts.map fun (off, sz, x) => (off, sz, s.ev x) :=
      List.map_congr_left fun p hp => by
        obtain ⟨off, sz, x⟩ := p
        simp only
        rw [hev x (List.mem_map.2 ⟨_, hp, rfl⟩)]
    split at h
    · rename_i l' hl'
      have hl2 : fillA (zs.map fun z => .p (.v z)) (parts.map fun (off, sz, x) => (off, sz, s'.ev x)) = some l' := by rw [e]; exact hl'
      simp only [hl2]
      exact hK0 _ h
    · exact h.elim
  | call d f args =>
    cases hl
    simp only [opW] at h ⊢
    rw [map_ev hev, hr]
    exact h.mono fun r rg hk => hK _ _ hk
  | callv d x args =>
    cases hl
    simp only [opW] at h ⊢
    rw [hev x (by simp), map_ev (l := args) fun y hy => hev y (by simp [hy]), hr]
    split at h
    · exact h.mono fun r rg hk => hK _ _ hk
    · exact h.elim
  | mkf d f a b =>
    cases hl
    simp only [opW] at h ⊢
    rw [allOf_congr (l := a) (f := fun x => faOf (s'.ev x)) (g := fun x => faOf (s.ev x)) fun y hy => by rw [hev y (by simp [hy])],
      allOf_congr (l := b) (f := fun x => faOf (s'.ev x)) (g := fun x => faOf (s.ev x)) fun y hy => by rw [hev y (by simp [hy])]]
    split at h <;> first
      | exact hK0 _ h
      | exact h.elim
  | _ => cases hl

def AIt.reads (it : AIt) : List AX := (match it.guard with | some (t, _) => [.t t] | none => []) ++ (it.op.loc.getD [])
theorem itW_map {P : Program} {it : AIt} {s s' : St} {K K' : St → Prop} (hl : it.op.loc.isSome = true) (hd : it.op.dst = it.d) (hr : s'.regs = s.regs) (hev : ∀ x ∈ it.reads, s'.ev x = s.ev x)
    (hK : ∀ v rg, K (s.putr it.d v rg) → K' (s'.putr it.d v rg)) (h : itW P it s K) : itW P it s' K' := by
  obtain ⟨l, hl⟩ := Option.isSome_iff_exists.1 hl
  have hev2 : ∀ x ∈ l, s'.ev x = s.ev x := fun x hx => hev x (by simp [AIt.reads, hl, hx])
  have ho : opW P it.op s K → opW P it.op s' K' := fun h => opW_map hl hr hev2 (by rw [hd]; exact hK) h
  have hK0 : ∀ v, K (s.put it.d v) → K' (s'.put it.d v) := fun v h => by
    have := hK v s.regs h
    rw [← hr] at this
    exact this
  unfold itW at h ⊢
  cases hg : it.guard with
  | none =>
    simp only [hg] at h ⊢
    exact ho h
  | some tw =>
    obtain ⟨t, w⟩ := tw
    simp only [hg] at h ⊢
    have e : lk s'.slots t = lk s.slots t := hev (.t t) (by simp [AIt.reads, hg])
    rw [e]
    split at h
    · exact ⟨fun e => ho (h.1 e), fun e => hK0 _ (h.2 e)⟩
    · exact hK0 _ h
    · exact h.elim

/-- Operations that leave the rows as they are, each with the one value that it tells. -/
def parW (P : Program) : List AIt → St → (St → Prop) → Prop
  | [], s, C => C s
  | it :: r, s, C => ∃ d v, it.d = some d ∧ (∀ K : St → Prop, K ⟨(d, v) :: s.slots, s.regs⟩ → itW P it s K) ∧ parW P r ⟨(d, v) :: s.slots, s.regs⟩ C
theorem V_nil {P : Program} {s : St} {C : St → Prop} (h : C s) : parW P [] s C := h
theorem V_cons {P : Program} {g : Option (Nat × Bool)} {d : Nat} {op : AOp} {r : List AIt} {sl : List (Nat × AV)} {rg : List Reg} {v : AV} {C : St → Prop} (h : ∀ K : St → Prop, K ⟨(d, v) :: sl, rg⟩ → itW P ⟨g, some d, op⟩ ⟨sl, rg⟩ K) (k : parW P r ⟨(d, v) :: sl, rg⟩ C) : parW P (⟨g, some d, op⟩ :: r) ⟨sl, rg⟩ C := ⟨d, v, rfl, h, k⟩

def dsts (its : List AIt) : List Nat := its.filterMap (·.d)
/-- No operation reads what it, or a later one, writes; each slot is written once. -/
def locOk : List AIt → Bool
  | [] => true
  | it :: r => it.op.loc.isSome && (it.op.dst == it.d) && (match it.d with
    | some d => !(dsts r).contains d
    | none => false) && it.reads.all (fun x => match x with
    | .t n => !(dsts (it :: r)).contains n
    | _ => true) && locOk r

theorem ev_lk {s s' : St} {x : AX} (h : ∀ n, x = .t n → lk s'.slots n = lk s.slots n) : s'.ev x = s.ev x := by
  cases x with
  | t n => exact h n rfl
  | k v => rfl
  | f i => rfl

theorem parW_spec {P : Program} {C : St → Prop} : ∀ (its : List AIt) (s : St), locOk its = true → parW P its s C → ∃ sF, C sF ∧ sF.regs = s.regs ∧ (∀ t, t ∉ dsts its → lk sF.slots t = lk s.slots t) ∧
    ∀ (k : Nat) (it : AIt), its[k]? = some it → ∃ d, it.d = some d ∧ ∀ s' : St, s'.regs = s.regs → (∀ x ∈ it.reads, s'.ev x = sF.ev x) → itW P it s' fun s1 => s1 = ⟨(d, lk sF.slots d) :: s'.slots, s'.regs⟩
  | [], s, _, h => ⟨s, h, rfl, fun _ _ => rfl, fun k it e => by simp at e⟩
  | it :: r, s, hok, ⟨d, v, hd, h1, h2⟩ => by
    simp only [locOk, hd, Bool.and_eq_true, Bool.not_eq_true', List.all_eq_true] at hok
    obtain ⟨⟨⟨⟨hl, hdst⟩, hnd⟩, hrd⟩, hr⟩ := hok
    obtain ⟨sF, hC, hregs, hlk, hall⟩ := parW_spec r _ hr h2
    have hdd : dsts (it :: r) = d :: dsts r := by simp [dsts, hd]
    have hnd' : d ∉ dsts r := by simpa using hnd
    have hv : lk sF.slots d = v := by
      rw [hlk d hnd']
      simp [lk]
    refine ⟨sF, hC, hregs, fun t ht => ?_, fun k it' e => ?_⟩
    · rw [hdd] at ht
      simp only [List.mem_cons, not_or] at ht
      rw [hlk t ht.2]
      simp [lk, Ne.symm ht.1]
    · cases k with
      | zero =>
        simp only [List.getElem?_cons_zero, Option.some.injEq] at e
        subst e
        refine ⟨d, hd, fun s' hs' hev => ?_⟩
        have hev2 : ∀ x ∈ it.reads, s'.ev x = s.ev x := fun x hx => by
          rw [hev x hx]
          refine ev_lk fun n e => ?_
          subst e
          have := hrd _ hx
          simp only [hdd, Bool.not_eq_true', List.contains_eq_mem, decide_eq_false_iff_not, List.mem_cons, not_or] at this
          rw [hlk n this.2]
          simp [lk, Ne.symm this.1]
        refine itW_map (s := s) (K := fun s1 => s1 = ⟨(d, v) :: s.slots, s.regs⟩) hl (by rw [hd]; simpa using hdst) hs' hev2 (fun v' rg e => ?_) (h1 _ rfl)
        rw [hd] at e ⊢
        simp only [St.putr, St.put, St.mk.injEq, List.cons.injEq, Prod.mk.injEq, true_and, and_true] at e ⊢
        exact ⟨by rw [hv]; exact e.1, by rw [hs']; exact e.2⟩
      | succ k =>
        exact hall k it' (by simpa using e)

/-- What must come up before an operation. -/
def bnd (ops : Array Oper) (k : Nat) : List Nat := match ops[k]? with
  | some o => (o.after.toList.filter (Region.binds .any)).map (·.on)
  | none => []
def clo (ops : Array Oper) (k : Nat) : List Nat := (List.range k).reverse.foldl (fun m i => if m.contains i then m ++ bnd ops i else m) (bnd ops k)
/-- A region whose first n operations leave the rows, and each other, as they are; each later one comes up behind all that stand before it. -/
def parOk (ops : Array Oper) (its : List AIt) (n : Nat) : Bool :=
  locOk (its.take n) && (List.range ops.size).all (fun k => (bnd ops k).all fun i => decide (i < k)) &&
  (List.range n).all (fun k => ((its[k]?).map fun it => it.reads.all fun x => match x with
    | .t t => (List.range n).all fun i => !(((its[i]?).bind (·.d)) == some t) || (bnd ops k).contains i
    | _ => true).getD false) &&
  (List.range ops.size).all (fun k => decide (k < n) || (List.range k).all fun i => (clo ops k).contains i)

theorem countP_lt {α : Type} {p q : α → Bool} : ∀ {l : List α} {a : α}, a ∈ l → (∀ x ∈ l, q x = true → p x = true) → p a = true → q a = false → l.countP q < l.countP p
  | b :: l, a, hm, hi, hp, hq => by
    rcases List.mem_cons.1 hm with rfl | hm'
    · have : l.countP q ≤ l.countP p := List.countP_mono_left fun x hx h => hi x (by simp [hx]) h
      rw [List.countP_cons, List.countP_cons, hp, hq]
      simp; omega
    · have h := countP_lt (l := l) hm' (fun x hx => hi x (by simp [hx])) hp hq
      have hb := hi b (by simp)
      rw [List.countP_cons, List.countP_cons]
      cases hqb : q b
      · simp; omega
      · rw [hb hqb]; simp; omega

theorem clo_sub {ops : Array Oper} {L : Nat → Prop} (hc : ∀ i, L i → ∀ j ∈ bnd ops i, L j) {k : Nat} (hk : ∀ j ∈ bnd ops k, L j) : ∀ j ∈ clo ops k, L j := by
  unfold clo
  generalize (List.range k).reverse = l
  have : ∀ (l : List Nat) (m : List Nat), (∀ j ∈ m, L j) → ∀ j ∈ l.foldl (fun m i => if m.contains i then m ++ bnd ops i else m) m, L j := by
    intro l
    induction l with
    | nil => intro m hm; exact hm
    | cons i l ih =>
      intro m hm
      rw [List.foldl_cons]
      refine ih _ ?_
      split
      · rename_i hi
        intro j hj
        rcases List.mem_append.1 hj with h | h
        · exact hm j h
        · exact hc i (hm i (by simpa using hi)) j h
      · exact hm
  exact this l _ hk

section
variable {P : Program} {w0 : World} {env0 : Env} {bad0 : Nat → Prop} {fps : List Nat} {base : Nat → Prop} {N : Nat} {ops : Array Oper} {Q : Exit → Act → World → Prop} {K : St → Prop}
def isL (listed : Array Bool) (i : Nat) : Prop := listed[i]? = some true
theorem ready_mem {listed : Array Bool} (hsz : listed.size = ops.size) {i : Nat} : i ∈ Region.ready .any ops listed ↔ i < ops.size ∧ ¬ isL listed i ∧ ∀ j ∈ bnd ops i, isL listed j := by
  unfold Region.ready
  rw [List.mem_filter, List.mem_range]
  constructor
  · rintro ⟨h1, h2⟩
    simp only [Bool.and_eq_true, Bool.not_eq_true'] at h2
    obtain ⟨h2, h3⟩ := h2
    have ho : ops[i]? = some ops[i] := Array.getElem?_eq_getElem h1
    refine ⟨h1, fun hl => ?_, fun j hj => ?_⟩
    · unfold isL at hl
      rw [Array.getD_eq_getD_getElem?, hl] at h2
      simp at h2
    · rw [ho] at h3
      simp only [Option.map_some, Option.getD_some, Array.all_eq_true_iff_forall_mem] at h3
      unfold bnd at hj
      rw [ho] at hj
      simp only [List.mem_map, List.mem_filter] at hj
      obtain ⟨e, ⟨he, hb⟩, rfl⟩ := hj
      have := h3 e (Array.mem_toList_iff.1 he)
      simp only [hb, Bool.not_true, Bool.false_or] at this
      unfold isL
      rw [Array.getD_eq_getD_getElem?] at this
      cases hx : listed[e.on]? with
      | none => rw [hx] at this; simp at this
      | some b => rw [hx] at this; simp at this; rw [this]
  · rintro ⟨h1, h2, h3⟩
    have ho : ops[i]? = some ops[i] := Array.getElem?_eq_getElem h1
    refine ⟨h1, ?_⟩
    simp only [Bool.and_eq_true, Bool.not_eq_true']
    refine ⟨?_, ?_⟩
    · unfold isL at h2
      rw [Array.getD_eq_getD_getElem?]
      have hlt : i < listed.size := by omega
      rw [Array.getElem?_eq_getElem hlt] at h2 ⊢
      cases hx : listed[i]
      · rfl
      · rw [hx] at h2; exact absurd rfl h2
    · rw [ho]
      simp only [Option.map_some, Option.getD_some, Array.all_eq_true_iff_forall_mem]
      intro e he
      cases hb : Region.binds .any e
      · rfl
      · have := h3 e.on (by unfold bnd; rw [ho]; exact List.mem_map.2 ⟨e, List.mem_filter.2 ⟨Array.mem_toList_iff.2 he, hb⟩, rfl⟩)
        unfold isL at this
        rw [Array.getD_eq_getD_getElem?, this]
        rfl

theorem isL_set {listed : Array Bool} {i j : Nat} (hi : i < listed.size) : isL (listed.setIfInBounds i true) j ↔ j = i ∨ isL listed j := by
  unfold isL
  rw [Array.getElem?_setIfInBounds]
  by_cases e : i = j
  · subst e; simp [hi]
  · simp [e, Ne.symm e]

theorem R.congr {s s' : St} {a : Act} {w : World} (hr : s'.regs = s.regs) (hl : ∀ t, lk s'.slots t = lk s.slots t) (h : R w0 env0 bad0 fps base N s a w) : R w0 env0 bad0 fps base N s' a w := by
  obtain ⟨⟨env, h1, h2, h3⟩, h4, h5⟩ := h
  exact ⟨⟨env, by rw [hr]; exact h1, fun n => by rw [hl, hr]; exact h2 n, by rw [hr]; exact h3⟩, h4, h5⟩

variable {its : List AIt} {n : Nat}
/-- The tail: one after the other. -/
theorem par_tail (hits : allOf (trIt P N ops) ops.toList = some its) (hdn : ∀ k i, i ∈ bnd ops k → i < k) (htl : ∀ k, n ≤ k → k < ops.size → ∀ i, i < k → i ∈ clo ops k) (hK : ∀ s' a' w', K s' → R w0 env0 bad0 fps base N s' a' w' → Q .normal a' w') :
    ∀ (fuel m : Nat) (listed : Array Bool) (s : St) (a : Act) (w : World), n ≤ m → m ≤ ops.size → listed.size = ops.size → (∀ i, isL listed i ↔ i < m) → ops.size - m ≤ fuel → opsW P K (its.drop m) s → R w0 env0 bad0 fps base N s a w → wpAny P .any ops Q fuel listed a w := by
  have hlen : its.length = ops.size := by have := (allOf_all2 (R := fun _ _ => True) (fun _ _ _ => trivial) hits).len; simpa using this
  intro fuel
  induction fuel with
  | zero =>
    intro m listed s a w hn hm hsz hL hf hw hR
    have e : m = ops.size := by omega
    subst e
    rw [List.drop_of_length_le (by omega)] at hw
    refine wpAny_done ?_ (hK _ _ _ hw hR) 0
    refine List.eq_nil_iff_forall_not_mem.2 fun i hi => ?_
    obtain ⟨h1, h2, _⟩ := (ready_mem hsz).1 hi
    exact h2 ((hL i).2 h1)
  | succ fuel ih =>
    intro m listed s a w hn hm hsz hL hf hw hR
    by_cases e : m = ops.size
    · subst e
      rw [List.drop_of_length_le (by omega)] at hw
      refine wpAny_done ?_ (hK _ _ _ hw hR) _
      refine List.eq_nil_iff_forall_not_mem.2 fun i hi => ?_
      obtain ⟨h1, h2, _⟩ := (ready_mem hsz).1 hi
      exact h2 ((hL i).2 h1)
    · have hlt : m < ops.size := by omega
      have hmr : m ∈ Region.ready .any ops listed := (ready_mem hsz).2 ⟨hlt, fun h => by have := (hL m).1 h; omega, fun j hj => (hL j).2 (hdn m j hj)⟩
      refine ⟨fun h0 => by rw [h0] at hmr; simp at hmr, fun i hi => ?_⟩
      obtain ⟨h1, h2, h3⟩ := (ready_mem hsz).1 hi
      have hge : m ≤ i := by
        rcases Nat.lt_or_ge i m with h | h
        · exact absurd ((hL i).2 h) h2
        · exact h
      have hle : i ≤ m := by
        rcases Nat.lt_or_ge m i with h | h
        · have hc := clo_sub (L := isL listed) (fun i hi j hj => (hL j).2 (Nat.lt_trans (hdn i j hj) ((hL i).1 hi))) h3 m (htl i (by omega) h1 m h)
          have := (hL m).1 hc
          omega
        · exact h
      obtain rfl : i = m := by omega
      have hd : its.drop i = its[i]'(by omega) :: its.drop (i + 1) := (List.drop_eq_getElem_cons (by omega))
      rw [hd] at hw
      have hti : trIt P N ops ops[i] = some (its[i]'(by omega)) := by
        have h := (allOf_all2 (R := fun it o => trIt P N ops o = some it) (fun _ _ h => h) hits).get i (by omega) (by simpa using h1)
        simpa using h
      refine it_op (Array.getElem?_eq_getElem h1) hti hw hR fun s' a' w' k r => ?_
      refine ih (i + 1) _ s' a' w' (by omega) (by omega) (by simpa using hsz) (fun j => ?_) (by omega) k r
      rw [isL_set (by omega), hL]
      omega

theorem par_head {s0 sF : St} (hits : allOf (trIt P N ops) ops.toList = some its) (hn : n ≤ ops.size) (hdn : ∀ k i, i ∈ bnd ops k → i < k) (htl : ∀ k, n ≤ k → k < ops.size → ∀ i, i < k → i ∈ clo ops k)
    (hrd : ∀ k it t, k < n → its[k]? = some it → AX.t t ∈ it.reads → ∀ i d, i < n → (its[i]?).bind (·.d) = some d → d = t → i ∈ bnd ops k)
    (hK : ∀ s' a' w', K s' → R w0 env0 bad0 fps base N s' a' w' → Q .normal a' w') (hC : opsW P K (its.drop n) sF) (hregs : sF.regs = s0.regs) (hlk : ∀ t, t ∉ dsts (its.take n) → lk sF.slots t = lk s0.slots t)
    (hall : ∀ (k : Nat) (it : AIt), (its.take n)[k]? = some it → ∃ d, it.d = some d ∧ ∀ s' : St, s'.regs = s0.regs → (∀ x ∈ it.reads, s'.ev x = sF.ev x) → itW P it s' fun s1 => s1 = ⟨(d, lk sF.slots d) :: s'.slots, s'.regs⟩) :
    ∀ (fuel : Nat) (listed : Array Bool) (s : St) (a : Act) (w : World), listed.size = ops.size → (∀ i, isL listed i → i < n) → (∀ i, isL listed i → ∀ j ∈ bnd ops i, isL listed j) → (List.range ops.size).countP (fun i => !listed.getD i true) ≤ fuel →
      s.regs = s0.regs → (∀ t, (∃ i, isL listed i ∧ (its[i]?).bind (·.d) = some t) → lk s.slots t = lk sF.slots t) → (∀ t, (¬ ∃ i, isL listed i ∧ (its[i]?).bind (·.d) = some t) → lk s.slots t = lk s0.slots t) → R w0 env0 bad0 fps base N s a w → wpAny P .any ops Q fuel listed a w := by
  have hlen : its.length = ops.size := by have := (allOf_all2 (R := fun _ _ => True) (fun _ _ _ => trivial) hits).len; simpa using this
  have hmemd : ∀ t, t ∈ dsts (its.take n) → ∃ i, i < n ∧ (its[i]?).bind (·.d) = some t := by
    intro t ht
    obtain ⟨it, h1, h2⟩ := List.mem_filterMap.1 ht
    obtain ⟨i, hi, e⟩ := List.getElem_of_mem h1
    have hi' : i < n := by simp at hi; omega
    refine ⟨i, hi', ?_⟩
    rw [List.getElem_take] at e
    rw [List.getElem?_eq_getElem (by omega), e]
    exact h2
  have hnl : ∀ (listed : Array Bool), listed.size = ops.size → ∀ i, i < ops.size → ((!listed.getD i true) = true ↔ ¬ isL listed i) := by
    intro listed hsz i hi
    unfold isL
    rw [Array.getD_eq_getD_getElem?, Array.getElem?_eq_getElem (by omega)]
    cases listed[i]'(by omega) <;> simp
  intro fuel
  induction fuel with
  | zero =>
    intro listed s a w hsz hLn hcl hcnt hsr hs1 hs2 hR
    -- nothing is left
    have hallL : ∀ i, i < ops.size → isL listed i := fun i hi => by
      have : (List.range ops.size).countP (fun i => !listed.getD i true) = 0 := by omega
      have := (List.countP_eq_zero.1 this) i (List.mem_range.2 hi)
      rw [hnl listed hsz i hi] at this
      exact Classical.not_not.1 this
    refine par_tail (n := n) hits hdn htl hK 0 n listed sF a w (Nat.le_refl _) hn hsz (fun i => ⟨hLn i, fun h => hallL i (by omega)⟩) ?_ hC (R.congr (by rw [hregs, hsr]) (fun t => ?_) hR)
    · rcases Nat.lt_or_ge n ops.size with h | h
      · have := hLn n (hallL n h)
        omega
      · omega
    · by_cases ht : ∃ i, isL listed i ∧ (its[i]?).bind (·.d) = some t
      · rw [hs1 t ht]
      · rw [hs2 t ht, hlk t fun hm => ht ?_]
        obtain ⟨i, hi, e⟩ := hmemd t hm
        exact ⟨i, hallL i (by omega), e⟩
  | succ fuel ih =>
    intro listed s a w hsz hLn hcl hcnt hsr hs1 hs2 hR
    by_cases hfull : ∀ i, i < n → isL listed i
    · have hcnt2 : ops.size - n ≤ fuel + 1 := by
        have : ops.size - n ≤ (List.range ops.size).countP (fun i => !listed.getD i true) := by
          have h1 : (List.range ops.size) = List.range n ++ (List.range (ops.size - n)).map (n + ·) := by
            rw [← List.range_add]
            congr 1
            omega
          rw [h1, List.countP_append]
          have h2 : ((List.range (ops.size - n)).map (n + ·)).countP (fun i => !listed.getD i true) = ((List.range (ops.size - n)).map (n + ·)).length := by
            rw [List.countP_eq_length]
            intro i hi
            obtain ⟨j, hj, rfl⟩ := List.mem_map.1 hi
            rw [List.mem_range] at hj
            rw [hnl listed hsz _ (by omega)]
            intro h
            have := hLn _ h
            omega
          rw [h2]
          simp
        omega
      refine par_tail (n := n) hits hdn htl hK (fuel + 1) n listed sF a w (Nat.le_refl _) hn hsz (fun i => ⟨hLn i, hfull i⟩) hcnt2 hC (R.congr (by rw [hregs, hsr]) (fun t => ?_) hR)
      by_cases ht : ∃ i, isL listed i ∧ (its[i]?).bind (·.d) = some t
      · rw [hs1 t ht]
      · rw [hs2 t ht, hlk t fun hm => ht ?_]
        obtain ⟨i, hi, e⟩ := hmemd t hm
        exact ⟨i, hfull i hi, e⟩
    · have hne : Region.ready .any ops listed ≠ [] := by
        have hex : ∃ i, i < n ∧ ¬ isL listed i := by
          refine Classical.byContradiction fun h => hfull fun i hi => Classical.byContradiction fun hl => h ⟨i, hi, hl⟩
        obtain ⟨i, ⟨hi, hl⟩, hmin⟩ : ∃ i, (i < n ∧ ¬ isL listed i) ∧ ∀ j, j < i → isL listed j := by
          obtain ⟨i, hi⟩ := hex
          have : ∀ m i, i ≤ m → (i < n ∧ ¬ isL listed i) → ∃ i, (i < n ∧ ¬ isL listed i) ∧ ∀ j, j < i → isL listed j := by
            intro m
            induction m with
            | zero =>
              intro i hm hi
              exact ⟨i, hi, fun j hj => by omega⟩
            | succ m ihm =>
              intro i hm hi
              by_cases h : ∀ j, j < i → isL listed j
              · exact ⟨i, hi, h⟩
              · obtain ⟨j, hj⟩ := Classical.not_forall.1 h
                obtain ⟨h1, h2⟩ := Classical.not_imp.1 hj
                exact ihm j (by omega) ⟨by omega, h2⟩
          exact this i i (Nat.le_refl _) hi
        intro h0
        have : i ∈ Region.ready .any ops listed := (ready_mem hsz).2 ⟨by omega, hl, fun j hj => hmin j (hdn i j hj)⟩
        rw [h0] at this
        simp at this
      refine ⟨fun h0 => absurd h0 hne, fun i hi => ?_⟩
      obtain ⟨h1, h2, h3⟩ := (ready_mem hsz).1 hi
      have hin : i < n := by
        rcases Nat.lt_or_ge i n with h | h
        · exact h
        · refine absurd (fun j (hj : j < n) => ?_) hfull
          exact clo_sub (L := isL listed) hcl h3 j (htl i h h1 j (by omega))
      have hit : its[i]? = some (its[i]'(by omega)) := List.getElem?_eq_getElem (by omega)
      have hti : trIt P N ops ops[i] = some (its[i]'(by omega)) := by
        have h := (allOf_all2 (R := fun it o => trIt P N ops o = some it) (fun _ _ h => h) hits).get i (by omega) (by simpa using h1)
        simpa using h
      obtain ⟨d, hd, hs⟩ := hall i (its[i]'(by omega)) (by rw [List.getElem?_take, if_pos hin]; exact hit)
      refine it_op (Array.getElem?_eq_getElem h1) hti (hs s hsr fun x hx => ev_lk fun t e => ?_) hR fun s' a' w' k r => ?_
      · subst e
        by_cases ht : ∃ j, j < n ∧ (its[j]?).bind (·.d) = some t
        · obtain ⟨j, hj, e⟩ := ht
          exact hs1 t ⟨j, h3 j (hrd i _ t hin hit hx j t hj e rfl), e⟩
        · rw [hs2 t fun ⟨j, hj, e⟩ => ht ⟨j, hLn j hj, e⟩, hlk t fun hm => ht (hmemd t hm)]
      · subst k
        have hbd : (its[i]?).bind (·.d) = some d := by rw [hit]; exact hd
        refine ih _ ⟨(d, lk sF.slots d) :: s.slots, s.regs⟩ a' w' (by simpa using hsz) (fun j hj => ?_) (fun j hj q hq => ?_) ?_ hsr (fun t ht => ?_) (fun t ht => ?_) r
        · rcases (isL_set (by omega)).1 hj with rfl | h
          · exact hin
          · exact hLn j h
        · rw [isL_set (by omega)]
          rcases (isL_set (by omega)).1 hj with rfl | h
          · exact .inr (h3 q hq)
          · exact .inr (hcl j h q hq)
        · have hlt := countP_lt (l := List.range ops.size) (p := fun i => !listed.getD i true) (q := fun j => !(listed.setIfInBounds i true).getD j true) (a := i) (List.mem_range.2 h1) (fun x hx hq => ?_) ?_ ?_
          · omega
          · have hx' := List.mem_range.1 hx
            have := (hnl (listed.setIfInBounds i true) (by simpa using hsz) x hx').1 hq
            rw [isL_set (by omega)] at this
            exact (hnl listed hsz x hx').2 fun h => this (.inr h)
          · exact (hnl listed hsz i h1).2 h2
          · cases hc : (!(listed.setIfInBounds i true).getD i true) with
            | false => rfl
            | true =>
              have := (hnl (listed.setIfInBounds i true) (by simpa using hsz) i h1).1 hc
              rw [isL_set (by omega)] at this
              exact absurd (.inl rfl) this
        · by_cases e : d = t
          · subst e; simp [lk]
          · obtain ⟨j, hj, e'⟩ := ht
            simp only [lk, e, if_false]
            refine hs1 t ⟨j, ?_, e'⟩
            rcases (isL_set (by omega)).1 hj with rfl | h
            · rw [hbd] at e'
              exact absurd (Option.some.inj e') e
            · exact h
        · have e : d ≠ t := fun e => ht ⟨i, (isL_set (by omega)).2 (.inl rfl), by rw [hbd, e]⟩
          simp only [lk, e, if_false]
          exact hs2 t fun ⟨j, hj, e'⟩ => ht ⟨j, (isL_set (by omega)).2 (.inr hj), e'⟩

theorem par_sound {id : Nat} {s : St} {a : Act} {w : World} (hm : P.follows .mixedOrders = true) (hits : allOf (trIt P N ops) ops.toList = some its) (hok : parOk ops its n = true) (hn : n ≤ ops.size) (h : parW P (its.take n) s (opsW P K (its.drop n)))
    (hR : R w0 env0 bad0 fps base N s a w) (hK : ∀ s' a' w', K s' → R w0 env0 bad0 fps base N s' a' w' → Q .normal a' w') : (Code.region id ops true).wp P Q a w := by
  simp only [parOk, Bool.and_eq_true, List.all_eq_true, List.mem_range, decide_eq_true_eq, Bool.or_eq_true] at hok
  obtain ⟨⟨⟨h1, h2⟩, h3⟩, h4⟩ := hok
  obtain ⟨sF, hC, hregs, hlk, hall⟩ := parW_spec _ s h1 h
  have hdn : ∀ k i, i ∈ bnd ops k → i < k := fun k i hi => by
    rcases Nat.lt_or_ge k ops.size with hk | hk
    · exact h2 k hk i hi
    · unfold bnd at hi
      rw [Array.getElem?_eq_none hk] at hi
      simp at hi
  refine Code.wp_mono (Q := noPanic Q) (fun e a w q => ?_) (wp_region_any hm ?_)
  · cases e <;> first | exact q | exact q.elim
  · have hg : ∀ i, ¬ isL (Array.replicate ops.size false) i := fun i hi => by
      unfold isL at hi
      rw [Array.getElem?_replicate] at hi
      split at hi <;> simp at hi
    exact par_head (Q := noPanic Q) hits hn hdn (fun k hk hks i hi => by
        rcases h4 k hks with h | h
        · omega
        · exact by simpa using h i hi)
      (fun k it t hk hit ht i d hi hd e => by
        have := h3 k hk
        rw [hit] at this
        simp only [Option.map_some, Option.getD_some, List.all_eq_true] at this
        have := this _ ht
        simp only [List.all_eq_true, List.mem_range] at this
        have := this i hi
        subst e
        rw [hd] at this
        simpa using this)
      (fun s' a' w' k r => hK s' a' w' k r) hC hregs hlk hall _ _ s _ _ (by simp) (fun i hi => absurd hi (hg i)) (fun i hi => absurd hi (hg i)) (by
        exact Nat.le_trans List.countP_le_length (by simp)) rfl (fun t ⟨i, hi, _⟩ => absurd hi (hg i)) (fun _ _ => rfl) hR.draw
end

def parIts (P : Program) (N : Nat) (ops : Array Oper) : Option (List AIt × List AIt) := (allOf (trIt P N ops) ops.toList).bind fun its =>
  if parOk ops its (its.takeWhile fun it => it.op.loc.isSome).length = true then some (its.take (its.takeWhile fun it => it.op.loc.isSome).length, its.drop (its.takeWhile fun it => it.op.loc.isSome).length) else none

inductive ACode where
  | skip
  | reg (l : List AIt)
  | any (t : ATree)
  | par (a b : List AIt)
  | seq (a b : ACode)
  | cond (c : AX) (a b : ACode)
  | block (id : Nat) (c : ACode)
  | loop (c : ACode)
  | exit (id : Nat)
  | ret

def trCode (P : Program) (N : Nat) : Code → Option ACode
  | .skip => some .skip
  | .region _ ops draw => match trReg P N ops draw with
    | some l => some (.reg l)
    | none => (guardO (draw && P.follows .mixedOrders && Region.noSelect ops)).bind fun _ => match parIts P N ops with
      | some p => some (.par p.1 p.2)
      | none => (mkTree P N ops ops.size (Array.replicate ops.size false)).map .any
  | .seq a b => (trCode P N a).bind fun x => (trCode P N b).map fun y => .seq x y
  | .cond c a b => (trX c).bind fun z => (trCode P N a).bind fun x => (trCode P N b).map fun y => .cond z x y
  | .block id c => (trCode P N c).map (.block id)
  | .loop c => (trCode P N c).map .loop
  | .exit id => some (.exit id)
  | .ret => some .ret
  | _ => none

def Inv (P : Program) (N : Nat) (c : Code) : ACode → Prop
  | .skip => c = .skip
  | .reg l => ∃ id ops d, c = .region id ops d ∧ trReg P N ops d = some l
  | .any t => ∃ id ops, c = .region id ops true ∧ P.follows .mixedOrders = true ∧ Region.noSelect ops = true ∧ mkTree P N ops ops.size (Array.replicate ops.size false) = some t
  | .par x y => ∃ id ops, c = .region id ops true ∧ P.follows .mixedOrders = true ∧ parIts P N ops = some (x, y)
  | .seq x y => ∃ a b, c = .seq a b ∧ trCode P N a = some x ∧ trCode P N b = some y
  | .cond z x y => ∃ o a b, c = .cond o a b ∧ trX o = some z ∧ trCode P N a = some x ∧ trCode P N b = some y
  | .block id x => ∃ a, c = .block id a ∧ trCode P N a = some x
  | .loop x => ∃ a, c = .loop a ∧ trCode P N a = some x
  | .exit id => c = .exit id
  | .ret => c = .ret
theorem trCode_inv {P : Program} {N : Nat} {c : Code} {ac : ACode} (h : trCode P N c = some ac) : Inv P N c ac := by
  cases c with
  | skip => cases h; rfl
  | region id ops d =>
    simp only [trCode] at h
    split at h
    · rename_i l hl
      cases h
      exact ⟨id, ops, d, rfl, hl⟩
    · rw [Option.bind_eq_some_iff] at h
      obtain ⟨u, hu, h⟩ := h
      have := guardO_eq.1 hu
      simp only [Bool.and_eq_true] at this
      obtain ⟨⟨rfl, h2⟩, h3⟩ := this
      split at h
      · rename_i p hp
        cases h
        exact ⟨id, ops, rfl, h2, hp⟩
      · obtain ⟨t, ht, rfl⟩ := Option.map_eq_some_iff.1 h
        exact ⟨id, ops, rfl, h2, h3, ht⟩
  | seq a b =>
    simp only [trCode, Option.bind_eq_some_iff, Option.map_eq_some_iff] at h
    obtain ⟨x, hx, y, hy, rfl⟩ := h
    exact ⟨a, b, rfl, hx, hy⟩
  | cond o a b =>
    simp only [trCode, Option.bind_eq_some_iff, Option.map_eq_some_iff] at h
    obtain ⟨z, hz, x, hx, y, hy, rfl⟩ := h
    exact ⟨o, a, b, rfl, hz, hx, hy⟩
  | block id a =>
    obtain ⟨l, hl, rfl⟩ := Option.map_eq_some_iff.1 h
    exact ⟨a, rfl, hl⟩
  | loop a =>
    obtain ⟨l, hl, rfl⟩ := Option.map_eq_some_iff.1 h
    exact ⟨a, rfl, hl⟩
  | exit id => cases h; rfl
  | ret => cases h; rfl
  | rangeFunc => cases h
  | scope => cases h
  | label => cases h
  | goto => cases h
  | refuse => cases h

/-- What a text tells over the picture; n0: how many rows there were at the start. -/
def codeW (P : Program) (n0 : Nat) (ac : ACode) (Q : Exit → St → Prop) (s : St) : Prop :=
  ∀ (c : Code) (N : Nat), trCode P N c = some ac → ∀ (w0 : World) (env0 : Env) (bad0 : Nat → Prop) (fps : List Nat) (base : Nat → Prop) (a : Act) (w : World) (Q' : Exit → Act → World → Prop), env0.n = n0 → R w0 env0 bad0 fps base N s a w →
    (∀ e s' a' w', Q e s' → R w0 env0 bad0 fps base N s' a' w' → Q' e a' w') → c.wp P Q' a w

/-- One picture tells less than another. -/
def Weak (n0 : Nat) (s s' : St) : Prop :=
  ∀ (N : Nat) (w0 : World) (env0 : Env) (bad0 : Nat → Prop) (fps : List Nat) (base : Nat → Prop) (a : Act) (w : World), env0.n = n0 → R w0 env0 bad0 fps base N s a w → R w0 env0 bad0 fps base N s' a w

theorem Weak.refl (n0 : Nat) (s : St) : Weak n0 s s := fun _ _ _ _ _ _ _ _ _ h => h
theorem Weak.trans {n0 : Nat} {s s' s'' : St} (h : Weak n0 s s') (k : Weak n0 s' s'') : Weak n0 s s'' := fun N w0 env0 bad0 fps base a w e r => k N w0 env0 bad0 fps base a w e (h N w0 env0 bad0 fps base a w e r)

def AThen (K : St → Prop) (Q : Exit → St → Prop) : Exit → St → Prop
  | .normal, s => K s
  | e, s => Q e s
def AIn (id : Nat) (Q : Exit → St → Prop) : Exit → St → Prop
  | .exit id', s => if id' = id then Q .normal s else Q (.exit id') s
  | e, s => Q e s

section
variable {P : Program} {n0 : Nat} {x y : ACode} {Q : Exit → St → Prop} {s s' : St}

theorem codeW_weak (h : Weak n0 s s') (k : codeW P n0 x Q s') : codeW P n0 x Q s :=
  fun c N htr w0 env0 bad0 fps base a w Q' e r hQ => k c N htr w0 env0 bad0 fps base a w Q' e (h N w0 env0 bad0 fps base a w e r) hQ

theorem codeW_skip (h : Q .normal s) : codeW P n0 .skip Q s := by
  intro c N htr w0 env0 bad0 fps base a w Q' e r hQ
  obtain rfl := trCode_inv htr
  exact wp_skip (hQ _ _ _ _ h r)
theorem codeW_ret (h : Q .ret s) : codeW P n0 .ret Q s := by
  intro c N htr w0 env0 bad0 fps base a w Q' e r hQ
  obtain rfl := trCode_inv htr
  exact wp_ret (hQ _ _ _ _ h r)
theorem codeW_exit {id : Nat} (h : Q (.exit id) s) : codeW P n0 (.exit id) Q s := by
  intro c N htr w0 env0 bad0 fps base a w Q' e r hQ
  obtain rfl := trCode_inv htr
  exact wp_exit (hQ _ _ _ _ h r)
theorem codeW_reg {l : List AIt} (h : opsW P (Q .normal) l s) : codeW P n0 (.reg l) Q s := by
  intro c N htr w0 env0 bad0 fps base a w Q' e r hQ
  obtain ⟨id, ops, d, rfl, hi⟩ := trCode_inv htr
  exact reg_sound hi h r fun s' a' w' k r' => hQ _ _ _ _ k r'
theorem codeW_any {t : ATree} (h : treeW P (Q .normal) t s) : codeW P n0 (.any t) Q s := by
  intro c N htr w0 env0 bad0 fps base a w Q' e r hQ
  obtain ⟨id, ops, rfl, hm, hs, ht⟩ := trCode_inv htr
  exact any_sound hm hs ht h r fun s' a' w' k r' => hQ _ _ _ _ k r'
theorem codeW_par {l m : List AIt} (h : parW P l s (opsW P (Q .normal) m)) : codeW P n0 (.par l m) Q s := by
  intro c N htr w0 env0 bad0 fps base a w Q' e r hQ
  obtain ⟨id, ops, rfl, hm, hp⟩ := trCode_inv htr
  unfold parIts at hp
  rw [Option.bind_eq_some_iff] at hp
  obtain ⟨its, hits, hp⟩ := hp
  split at hp
  · rename_i hok
    cases hp
    have hlen : its.length = ops.size := by have := (allOf_all2 (R := fun _ _ => True) (fun _ _ _ => trivial) hits).len; simpa using this
    exact par_sound hm hits hok (by rw [← hlen]; exact (List.takeWhile_sublist _).length_le) h r fun s' a' w' k r' => hQ _ _ _ _ k r'
  · cases hp
/-- A region whose orders meet again. -/
theorem codeW_seq_any {t : ATree} (s1 : St) (h : treeW P (fun s' => Weak n0 s' s1) t s) (k : codeW P n0 y Q s1) : codeW P n0 (.seq (.any t) y) Q s := by
  intro c N htr w0 env0 bad0 fps base a w Q' e r hQ
  obtain ⟨ca, cb, rfl, h1, h2⟩ := trCode_inv htr
  refine wp_seq (codeW_any (Q := fun e s' => e = .normal ∧ Weak n0 s' s1) (by simpa using h) ca N h1 w0 env0 bad0 fps base a w _ e r fun ex s' a' w' q r' => ?_)
  obtain ⟨rfl, hw⟩ := q
  exact k cb N h2 w0 env0 bad0 fps base a' w' Q' e (hw _ _ _ _ _ _ _ _ e r') hQ
theorem codeW_seq (h : ∀ K : St → Prop, (∀ s, codeW P n0 y Q s → K s) → codeW P n0 x (AThen K Q) s) : codeW P n0 (.seq x y) Q s := by
  intro c N htr w0 env0 bad0 fps base a w Q' e r hQ
  obtain ⟨ca, cb, rfl, h1, h2⟩ := trCode_inv htr
  refine wp_seq (h _ (fun _ k => k) ca N h1 w0 env0 bad0 fps base a w _ e r fun ex s' a' w' q r' => ?_)
  cases ex with
  | normal => exact q cb N h2 w0 env0 bad0 fps base a' w' Q' e r' hQ
  | _ => exact hQ _ _ _ _ q r'
theorem codeW_cond {c : AX} {t : Bool} (hc : boolOf (s.ev c) = some t) (ht : t = true → codeW P n0 x Q s) (hf : t = false → codeW P n0 y Q s) : codeW P n0 (.cond c x y) Q s := by
  intro c N htr w0 env0 bad0 fps base a w Q' e r hQ
  obtain ⟨cx, ca, cb, rfl, hx, h1, h2⟩ := trCode_inv htr
  obtain ⟨env, hrs, hsl, hev⟩ := r.ex
  exact wp_cond_split (bool_of (ev_sound hsl hx) hc) (fun ht' => ht ht' ca N h1 w0 env0 bad0 fps base a w Q' e r hQ) (fun ht' => hf ht' cb N h2 w0 env0 bad0 fps base a w Q' e r hQ)
theorem codeW_block {id : Nat} (h : codeW P n0 x (AIn id Q) s) : codeW P n0 (.block id x) Q s := by
  intro c N htr w0 env0 bad0 fps base a w Q' e r hQ
  obtain ⟨ca, rfl, h1⟩ := trCode_inv htr
  refine wp_block (h ca N h1 w0 env0 bad0 fps base a w _ e r fun ex s' a' w' q r' => ?_)
  cases ex with
  | exit i =>
    simp only [AIn] at q
    simp only [Exit.inBlock]
    split
    · rename_i hi; rw [if_pos hi] at q; exact hQ _ _ _ _ q r'
    · rename_i hi; rw [if_neg hi] at q; exact hQ _ _ _ _ q r'
  | _ => exact hQ _ _ _ _ q r'

/-- A loop: I tells the pictures at its head, with how many rounds at most are left. -/
theorem codeW_loop (I : Nat → St → Prop) (n : Nat) (h0 : I n s) (h : ∀ n s, I n s → ∀ K : St → Prop, (∀ s', (∃ m s'', m < n ∧ Weak n0 s' s'' ∧ I m s'') → K s') → codeW P n0 x (AThen K Q) s) : codeW P n0 (.loop x) Q s := by
  intro c N htr w0 env0 bad0 fps base a w Q' e r hQ
  obtain ⟨ca, rfl, hi⟩ := trCode_inv htr
  have key : ∀ k n s a w, n ≤ k → I n s → R w0 env0 bad0 fps base N s a w → Code.rounds P ca Q' (k + 1) a w := by
    intro k
    induction k with
    | zero =>
      intro n s a w hn hI r
      refine h n s hI _ (fun _ h => h) ca N hi w0 env0 bad0 fps base a w _ e r fun ex s' a' w' q r' => ?_
      cases ex with
      | normal => obtain ⟨m, s'', hm, _⟩ := q; omega
      | _ => exact hQ _ _ _ _ q r'
    | succ k ih =>
      intro n s a w hn hI r
      refine h n s hI _ (fun _ h => h) ca N hi w0 env0 bad0 fps base a w _ e r fun ex s' a' w' q r' => ?_
      cases ex with
      | normal =>
        obtain ⟨m, s'', hm, hw, hI'⟩ := q
        exact ih m s'' a' w' (by omega) hI' (hw _ _ _ _ _ _ _ _ e r')
      | _ => exact hQ _ _ _ _ q r'
  exact wp_loop_rounds (n + 1) (key n n s a w (Nat.le_refl _) h0 r)
end
end Go.Sim
