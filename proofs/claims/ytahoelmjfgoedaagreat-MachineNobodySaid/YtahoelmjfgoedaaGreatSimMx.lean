/- Maps with keys of whole numbers, channels, comparisons with nil: sound over the picture. Of no program. -/
import Derived.Test.YtahoelmjfgoedaaGreatSimM
import Derived.Test.YtahoelmjfgoedaaGreatSimV
namespace Go.Sim
open Go.RowKit Go.Proofs.YtahoelmjfgoedaaGreat.B
set_option linter.unusedVariables false
set_option linter.unusedSimpArgs false

section
variable {P : Program}
theorem check_loop {w : World} {α : Type} {g : α → PUnit → Sem (ForInStep PUnit)} : ∀ {l : List α}, (∀ x ∈ l, (g x PUnit.unit).run P w = .ok (.yield PUnit.unit) w) → (forIn l PUnit.unit g : Sem PUnit).run P w = .ok PUnit.unit w
  | [], _ => by simp
  | x :: l, h => by
    simp only [List.forIn_cons, Sem.run_bind, h x (by simp), Result.andThen_ok]
    exact check_loop fun y hy => h y (by simp [hy])

/-- A key's type, asked whether it can be held against others. -/
def CheckPart (P : Program) (em : Bool) (dd : Nat) (t : TypeId) (ks : List IntKind) : Prop :=
  ∀ (w : World) (xs : Array Value) (off : Nat) (us : List Int), us.length = ks.length → (xs.toList.drop off).take ks.length = mkInts ks us → ∃ a, (part t xs off).run P w = .ok a w ∧ (Instr.checkKey em dd t a).run P w = .ok () w

theorem check_fields (em : Bool) (w : World) (dd d : Nat) (IH : ∀ t ks, shape P d t = some ks → P.cellsOf t = ks.length → CheckPart P em dd t ks) (xs : Array Value) : ∀ (fs : List Field) (k0 ks : List IntKind),
    fs.foldl (fun o f => o.bind fun ks => if f.name ≠ "_" ∧ f.offset = ks.length then (shape P d f.type).bind fun q => if P.cellsOf f.type = q.length then some (ks ++ q) else none else none) (some k0) = some ks →
    ∃ k1, ks = k0 ++ k1 ∧ ∀ us : List Int, us.length = k1.length → xs.toList.drop k0.length = mkInts k1 us → ∀ f ∈ fs, ∃ a, (part f.type xs f.offset).run P w = .ok a w ∧ (Instr.checkKey em dd f.type a).run P w = .ok () w
  | [], k0, ks, h => by
    simp only [List.foldl_nil, Option.some.injEq] at h
    subst h
    exact ⟨[], by simp, fun us _ _ f hf => by simp at hf⟩
  | f :: fs, k0, ks, h => by
    have hnone : ∀ fs : List Field, fs.foldl (fun o f => o.bind fun ks => if f.name ≠ "_" ∧ f.offset = ks.length then (shape P d f.type).bind fun q => if P.cellsOf f.type = q.length then some (ks ++ q) else none else none) (none : Option (List IntKind)) = none := by
      intro fs
      induction fs with
      | nil => rfl
      | cons _ _ ih => exact ih
    rw [List.foldl_cons, Option.bind_some] at h
    split at h
    · rename_i hc
      cases hq : shape P d f.type with
      | none => rw [hq, Option.bind_none, hnone] at h; cases h
      | some q =>
        rw [hq, Option.bind_some] at h
        split at h
        · rename_i hcell
          obtain ⟨k1, rfl, hk⟩ := check_fields em w dd d IH xs fs (k0 ++ q) ks h
          refine ⟨q ++ k1, by rw [List.append_assoc], fun us h1 hx g hg => ?_⟩
          rw [List.length_append] at h1
          have hx1 : (xs.toList.drop f.offset).take q.length = mkInts q (us.take q.length) := by rw [hc.2, hx, mkInts_take]; simp
          have hx2 : xs.toList.drop (k0 ++ q).length = mkInts k1 (us.drop q.length) := by rw [List.length_append, ← List.drop_drop, hx, mkInts_drop]; simp
          rcases List.mem_cons.1 hg with rfl | hg
          · exact IH g.type q hq hcell w xs g.offset (us.take q.length) (by simp; omega) hx1
          · exact hk (us.drop q.length) (by simp; omega) hx2 g hg
        · rw [hnone] at h; cases h
    · rw [hnone] at h; cases h

theorem check_agg (em : Bool) (w : World) (dd d : Nat) (IH : ∀ t ks, shape P d t = some ks → P.cellsOf t = ks.length → CheckPart P em dd t ks) {t : TypeId} {ks : List IntKind} (h : shape P (d + 1) t = some ks) (hk : ∀ q, P.underlying t ≠ some (.int q)) {us : List Int} (h1 : us.length = ks.length) (xs : Array Value)
    (hx : xs.toList = mkInts ks us) : (Instr.checkKey em (dd + 1) t (.agg xs)).run P w = .ok () w := by
  simp only [shape] at h
  cases hu : P.underlying t with
  | none => simp [hu] at h
  | some kd =>
    rw [hu] at h
    cases kd with
    | int q => exact absurd hu (hk q)
    | struct fs =>
      simp only at h
      split at h
      · cases h
      · obtain ⟨k1, rfl, hf⟩ := check_fields em w dd d IH xs fs.toList [] ks h
        simp only [Instr.checkKey, Sem.run_bind, run_underlying hu, Result.andThen_ok]
        rw [← Array.forIn_toList]
        have hall := hf us h1 (by simpa using hx)
        rw [check_loop (P := P) (w := w) (l := fs.toList) fun f hfm => ?_]
        · simp
        · obtain ⟨a, p1, p2⟩ := hall f hfm
          by_cases hn : f.name ≠ "_"
          · simp [hn, p1, p2]
          · simp [hn]
    | array n e =>
      simp only at h
      cases hq : shape P d e with
      | none => simp [hq] at h
      | some q =>
        rw [hq, Option.bind_some] at h
        split at h
        · rename_i hc
          obtain ⟨i, hi⟩ := Option.isSome_iff_exists.1 hc.2
          cases h
          simp only [Instr.checkKey, Sem.run_bind, run_underlying hu, Result.andThen_ok]
          simp only [Std.Legacy.Range.forIn_eq_forIn_range', Std.Legacy.Range.size, Nat.sub_zero, Nat.add_one_sub_one, Nat.div_one]
          rw [check_loop (P := P) (w := w) (l := List.range' 0 n) fun j hj => ?_]
          · simp
          · have hjn : j < n := by simpa using hj
            have hpre : ∀ (n j : Nat) (us : List Int), j < n → us.length = (List.replicate n q).flatten.length → ((mkInts (List.replicate n q).flatten us).drop (j * q.length)).take q.length = mkInts q ((us.drop (j * q.length)).take q.length) := by
              intro n
              induction n with
              | zero => intro j us hj; omega
              | succ n ih =>
                intro j us hj hl
                rw [List.replicate_succ, List.flatten_cons] at hl ⊢
                cases j with
                | zero => rw [Nat.zero_mul, List.drop_zero, List.drop_zero, mkInts_take]; simp
                | succ j =>
                  have e : (j + 1) * q.length = q.length + j * q.length := by rw [Nat.add_mul, Nat.one_mul]; omega
                  rw [List.length_append] at hl
                  have := ih j (us.drop q.length) (by omega) (by rw [List.length_drop]; omega)
                  rw [e, ← List.drop_drop, mkInts_drop, ← List.drop_drop]
                  simpa using this
            have hj2 : (j + 1) * q.length ≤ n * q.length := Nat.mul_le_mul_right _ hjn
            have hfl : (List.replicate n q).flatten.length = n * q.length := by simp
            have hul : ((us.drop (j * q.length)).take q.length).length = q.length := by
              rw [List.length_take, List.length_drop, h1, hfl]
              rw [Nat.add_mul, Nat.one_mul] at hj2
              omega
            obtain ⟨a, p1, p2⟩ := IH e q hq hc.1 w xs (j * P.cellsOf e) ((us.drop (j * q.length)).take q.length) hul (by rw [hc.1, hx]; exact hpre n j us hjn h1)
            simp [run_sizeOf w hi, p1, p2]
        · cases h
    | _ => simp at h

theorem check_part (em : Bool) (d0 : Nat) : ∀ (d : Nat) (t : TypeId) (ks : List IntKind), shape P d t = some ks → P.cellsOf t = ks.length → CheckPart P em (d0 + d) t ks
  | 0, _, _, h, _ => by simp [shape] at h
  | d + 1, t, ks, h, hcell => by
    intro w xs off us h1 hx
    cases hu : P.underlying t with
    | none => simp [shape, hu] at h
    | some kd =>
      have agg : (∀ q, P.underlying t ≠ some (.int q)) → (isAgg t).run P w = .ok true w → ∃ a, (part t xs off).run P w = .ok a w ∧ (Instr.checkKey em (d0 + (d + 1)) t a).run P w = .ok () w := by
        intro hk ha
        obtain ⟨i, hi⟩ := info_of_underlying hu
        have hl : (xs.extract off (off + P.cellsOf t)).toList = (xs.toList.drop off).take ks.length := by
          rw [Array.toList_extract, hcell]
          simp [List.extract]
        refine ⟨.agg (xs.extract off (off + P.cellsOf t)), ?_, ?_⟩
        · simp [part, ha, run_sizeOf w hi]
        · exact check_agg em w (d0 + d) d (fun t ks h hc => check_part em d0 d t ks h hc) h hk h1 _ (by rw [hl, hx])
      cases kd with
      | int q =>
        simp only [shape, hu, Option.some.injEq] at h
        subst h
        match us, h1 with
        | [u], _ =>
          have g : xs[off]? = some (.int q u) := by
            have : (xs.toList.drop off)[0]? = some (.int q u) := by
              have := congrArg (fun l => l[0]?) hx
              simpa [List.getElem?_take, mkInts] using this
            simpa using this
          have hp : P.plainKey t = true := by simp [Program.plainKey, hu]
          refine ⟨_, run_part_plain w hp g, ?_⟩
          rw [show d0 + (d + 1) = (d0 + d) + 1 from rfl]
          simp [Instr.checkKey, run_underlying hu]
      | struct fs => exact agg (by simp [hu]) (by simp [isAgg, run_underlying hu])
      | array n e => exact agg (by simp [hu]) (by simp [isAgg, run_underlying hu])
      | _ => simp [shape, hu] at h

/-- A key of whole numbers. -/
def keyV (kk : Bool × List IntKind) (us : List Int) : Value := match kk, us with
  | (true, ks), us => .agg (mkInts ks us).toArray
  | (false, [k]), [n] => .int k n
  | _, _ => undef
/-- The kinds of a map's keys, by their type. -/
def KeyType (P : Program) (kt : TypeId) (kk : Bool × List IntKind) : Prop := ∃ u, P.underlying kt = some u ∧ shape P 8 kt = some kk.2 ∧ aggD u = kk.1
theorem key_cases {kt : TypeId} {kk : Bool × List IntKind} (h : KeyType P kt kk) : (kk.1 = true ∧ ∀ q, P.underlying kt ≠ some (.int q)) ∨ ∃ q, kk = (false, [q]) ∧ P.underlying kt = some (.int q) := by
  obtain ⟨u, hu, hs, ha⟩ := h
  obtain ⟨b, ks⟩ := kk
  cases u with
  | int q =>
    right
    simp only [shape, hu, Option.some.injEq] at hs
    simp only [aggD] at ha
    exact ⟨q, by rw [← ha, hs], hu⟩
  | struct fs => exact .inl ⟨ha.symm, by simp [hu]⟩
  | array n e => exact .inl ⟨ha.symm, by simp [hu]⟩
  | _ => simp [shape, hu] at hs

theorem run_check {kt : TypeId} {kk : Bool × List IntKind} (h : KeyType P kt kk) (em : Bool) (w : World) {us : List Int} (hl : us.length = kk.2.length) : (Instr.checkKey em 10000 kt (keyV kk us)).run P w = .ok () w := by
  have hk := key_cases h
  obtain ⟨u, hu, hs, ha⟩ := h
  rcases hk with ⟨h1, h2⟩ | ⟨q, rfl, hq⟩
  · obtain ⟨b, ks⟩ := kk
    simp only at h1
    subst h1
    exact check_agg em w 9999 7 (fun t ks h hc => by
      have := check_part (P := P) em (9999 - 7) 7 t ks h hc
      exact this) hs h2 hl _ rfl
  · match us, hl with
    | [n], _ =>
      have : ∀ d, (Instr.checkKey em (d + 1) kt (.int q n)).run P w = .ok () w := fun d => by simp [Instr.checkKey, run_underlying hq]
      exact this 9999

/-- Entries of a map whose keys are whole numbers. -/
theorem run_find {kt : TypeId} {kk : Bool × List IntKind} (h : KeyType P kt kk) (w : World) {us : List Int} (hl : us.length = kk.2.length) (es : List MapEntry) (vss : List (List Int)) (hes : All2 (fun (vs : List Int) (e : MapEntry) => e.key = keyV kk vs ∧ vs.length = kk.2.length) vss es) :
    (Instr.findKey kt (keyV kk us) es).run P w = .ok ((vss.findIdx? (fun vs => decide (us = vs))).bind fun i => (es[i]?).map fun e => (i, e.val)) w := by
  have hk := key_cases h
  obtain ⟨u, hu, hs, ha⟩ := h
  have hask : ∀ (es : List MapEntry) (vss : List (List Int)) (i : Nat), kk.1 = true → (∀ q, P.underlying kt ≠ some (.int q)) → All2 (fun (vs : List Int) (e : MapEntry) => e.key = keyV kk vs ∧ vs.length = kk.2.length) vss es →
      (Instr.findAsking kt (keyV kk us) es i).run P w = .ok ((vss.findIdx? (fun vs => decide (us = vs))).bind fun j => (es[j]?).map fun e => (i + j, e.val)) w := by
    intro es
    induction es with
    | nil =>
      intro vss i _ _ hes
      cases vss with
      | nil => simp [Instr.findAsking]
      | cons _ _ => exact hes.elim
    | cons e es ih =>
      intro vss i hb hq hes
      cases vss with
      | nil => exact hes.elim
      | cons vs vss =>
        obtain ⟨⟨he, hvl⟩, hes⟩ := hes
        obtain ⟨b, ks⟩ := kk
        simp only at hb
        subst hb
        have heq : (Op.equal kt (keyV (true, ks) us) e.key).run P w = .ok (decide (us = vs)) w := by
          rw [he]
          exact equal_agg (P := P) (m := 7) (by decide) hs hq w us vs hl hvl
        by_cases hc : us = vs
        · subst hc
          simp [Instr.findAsking, heq, List.findIdx?_cons]
        · simp only [Instr.findAsking, Sem.run_bind, heq, Result.andThen_ok, hc, decide_false, Bool.false_eq_true, if_false, ih vss (i + 1) rfl hq hes, List.findIdx?_cons]
          cases vss.findIdx? (fun vs => decide (us = vs)) with
          | none => simp
          | some j => simp [Nat.add_comm, Nat.add_left_comm, Nat.add_assoc]
  rcases hk with ⟨h1, h2⟩ | ⟨q, rfl, hq⟩
  · have := hask es vss 0 h1 h2 hes
    simp only [Nat.zero_add] at this
    obtain ⟨b, ks⟩ := kk
    simp only at h1
    subst h1
    cases es with
    | nil =>
      cases vss with
      | nil => simp [Instr.findKey, Instr.findNow, run_underlying hu]
      | cons _ _ => exact hes.elim
    | cons e es =>
      have hnow : ∀ kd, kd = u → Instr.findNow kd (keyV (true, ks) us) (e :: es) 0 = none := by
        intro kd hkd
        simp only [Instr.findNow]
        have : Instr.sameNow kd (keyV (true, ks) us) e.key = none := by
          subst hkd
          cases kd <;> simp [Instr.sameNow, keyV]
        rw [this]
      simp only [Instr.findKey, Sem.run_bind, run_underlying hu, Result.andThen_ok, hnow u rfl]
      exact this
  · match us, hl with
    | [n], _ =>
      have hnow : ∀ (es : List MapEntry) (vss : List (List Int)) (i : Nat), All2 (fun (vs : List Int) (e : MapEntry) => e.key = keyV (false, [q]) vs ∧ vs.length = 1) vss es →
          Instr.findNow (.int q) (.int q n) es i = some ((vss.findIdx? (fun vs => decide ([n] = vs))).bind fun j => (es[j]?).map fun e => (i + j, e.val)) := by
        intro es
        induction es with
        | nil =>
          intro vss i hes
          cases vss with
          | nil => simp [Instr.findNow]
          | cons _ _ => exact hes.elim
        | cons e es ih =>
          intro vss i hes
          cases vss with
          | nil => exact hes.elim
          | cons vs vss =>
            obtain ⟨⟨he, hvl⟩, hes⟩ := hes
            match vs, hvl with
            | [m], _ =>
              have he' : e.key = .int q m := he
              simp only [Instr.findNow, he', Instr.sameNow, if_true]
              by_cases hc : n = m
              · simp [hc, List.findIdx?_cons]
              · have hb : (n == m) = false := by simpa using hc
                simp only [hb, ih vss (i + 1) hes, List.findIdx?_cons]
                have hd : decide ([n] = [m]) = false := by simpa using hc
                simp only [hd, Bool.false_eq_true, if_false]
                cases vss.findIdx? (fun vs => decide ([n] = vs)) with
                | none => simp
                | some j => simp [Nat.add_comm, Nat.add_left_comm, Nat.add_assoc]
      have hn := hnow es vss 0 hes
      simp only [Nat.zero_add] at hn
      simp only [Instr.findKey, Sem.run_bind, run_underlying hq, Result.andThen_ok, keyV, hn, Sem.run_pure]
end

/-! ### What a map's picture tells -/
theorem All2.unmap' {α β γ : Type} {R : β → γ → Prop} {f : α → β} : ∀ {l : List α} {m : List γ}, All2 R (l.map f) m → All2 (fun a c => R (f a) c) l m
  | [], [], _ => trivial
  | _ :: _, _ :: _, k => ⟨k.1, All2.unmap' k.2⟩
  | [], _ :: _, k => k.elim
  | _ :: _, [], k => k.elim
theorem All2.map' {α β γ : Type} {R : β → γ → Prop} {f : α → β} : ∀ {l : List α} {m : List γ}, All2 (fun a c => R (f a) c) l m → All2 R (l.map f) m
  | [], [], _ => trivial
  | _ :: _, _ :: _, k => ⟨k.1, All2.map' k.2⟩
  | [], _ :: _, k => k.elim
  | _ :: _, [], k => k.elim
theorem ints_rel {w : World} {bad : Nat → Prop} : ∀ {ks : List IntKind} {l : List PV} {vs : List Value} {us : List Int}, All2 (PRel w bad) l vs → intsOf ks (l.map .p) = some us → vs = mkInts ks us ∧ us.length = ks.length
  | [], [], [], us, _, h => by cases h; exact ⟨rfl, rfl⟩
  | [], [], _ :: _, us, h, _ => h.elim
  | k :: ks, [], vs, us, _, h => by cases h
  | [], x :: l, vs, us, _, h => by simp [intsOf] at h
  | k :: ks, x :: l, [], us, h, _ => h.elim
  | k :: ks, x :: l, v :: vs, us, hv, h => by
    cases x with
    | sl sz r => simp [intsOf] at h
    | v x =>
      cases x <;> simp only [List.map_cons, intsOf, reduceCtorEq] at h
      rename_i k' n
      split at h
      · rename_i hk
        subst hk
        obtain ⟨us', h', rfl⟩ := Option.map_eq_some_iff.1 h
        obtain ⟨e1, e2⟩ := ints_rel hv.2 h'
        have : v = .int k n := by cases hv.1; rfl
        exact ⟨by rw [this, e1]; rfl, by simp [e2]⟩
      · cases h
theorem keyV_of {w : World} {bad : Nat → Prop} {kk : Bool × List IntKind} {pk : PW} {u : Value} {us : List Int} (h : WRel w bad pk u) (hk : keyInts kk pk = some us) : u = keyV kk us ∧ us.length = kk.2.length := by
  obtain ⟨b, ks⟩ := kk
  unfold keyInts at hk
  split at hk
  · split at hk
    · rename_i l hb
      simp only at hb
      subst hb
      obtain ⟨vs, rfl, hv⟩ := h
      obtain ⟨rfl, e⟩ := ints_rel hv hk
      exact ⟨rfl, e⟩
    · cases hk
  · split at hk
    · rename_i k n hb
      cases hk
      cases hb
      have : u = .int k n := by cases h; rfl
      exact ⟨this, rfl⟩
    · cases hk
  · cases hk
theorem pw_of {w : World} {env : Env} {bad : Nat → Prop} {v : AV} {pk : PW} {u : Value} (h : VRel w env bad v u) (hp : avPW v = some pk) : WRel w bad pk u := by
  cases h with
  | @c x u h =>
    cases x <;> simp only [avPW, reduceCtorEq] at hp
    cases hp
    exact h
  | @agg l vs h hk =>
    simp only [avPW] at hp
    obtain ⟨ps, hps, rfl⟩ := Option.map_eq_some_iff.1 hp
    refine ⟨vs, rfl, ?_⟩
    rw [pures_eq hps] at h
    exact All2.unmap' (R := CRel w env bad) (f := AC.p) h
  | tup => simp [avPW] at hp
theorem av_of {w : World} {env : Env} {bad : Nat → Prop} {p : PW} {u : Value} (h : WRel w bad p u) : VRel w env bad (pwAV p) u := by
  obtain ⟨b, l⟩ := p
  cases b with
  | true =>
    obtain ⟨vs, rfl, hv⟩ := h
    exact .agg (All2.map' (R := CRel w env bad) (f := AC.p) hv) (by simp [AC.known])
  | false =>
    match l, h with
    | [x], h => exact .c h

theorem keysOk_perm {kk : Bool × List IntKind} {l l' : List (PW × PW)} (h : l.Perm l') (k : keysOk kk l) : keysOk kk l' :=
  ⟨fun p hp => k.1 p (h.mem_iff.2 hp), (h.pairwise_iff (fun {_ _} hne e => hne e.symm)).1 k.2⟩
theorem mpGet_perm {kk : Bool × List IntKind} {us : List Int} {l l' : List (PW × PW)} (h : l.Perm l') (k : keysOk kk l) : mpGet kk us l = mpGet kk us l' := by
  induction h with
  | nil => rfl
  | cons x _ ih =>
    have := ih ⟨fun p hp => k.1 p (by simp [hp]), (List.pairwise_cons.1 k.2).2⟩
    unfold mpGet at this ⊢
    simp only [List.find?_cons]
    split
    · rfl
    · exact this
  | swap x y l =>
    unfold mpGet
    simp only [List.find?_cons]
    cases hx : kEq kk us x <;> cases hy : kEq kk us y <;> simp only []
    have hne := (List.pairwise_cons.1 k.2).1 x (by simp)
    simp only [kEq, decide_eq_true_eq] at hx hy
    exact absurd (hy.trans hx.symm) hne
  | trans h1 _ ih1 ih2 => exact (ih1 k).trans (ih2 (keysOk_perm h1 k))
theorem mpSet_perm {kk : Bool × List IntKind} {us : List Int} {a b : PW} {l l' : List (PW × PW)} (h : l.Perm l') : (mpSet kk us a b l).Perm (mpSet kk us a b l') := by
  unfold mpSet
  have : l.any (kEq kk us) = l'.any (kEq kk us) := by
    rw [Bool.eq_iff_iff, List.any_eq_true, List.any_eq_true]
    exact ⟨fun ⟨x, hx, e⟩ => ⟨x, h.mem_iff.1 hx, e⟩, fun ⟨x, hx, e⟩ => ⟨x, h.mem_iff.2 hx, e⟩⟩
  rw [this]
  split
  · exact h.map _
  · exact h.append_right _

def EntRel (w : World) (bad : Nat → Prop) (p : PW × PW) (e : MapEntry) : Prop := WRel w bad p.1 e.key ∧ WRel w bad p.2 e.val
theorem find_rel {w : World} {bad : Nat → Prop} {kk : Bool × List IntKind} {us : List Int} : ∀ {l : List (PW × PW)} {es : List MapEntry}, All2 (EntRel w bad) l es → (∀ p ∈ l, (keyInts kk p.1).isSome = true) →
    ∃ vss : List (List Int), All2 (fun (vs : List Int) (e : MapEntry) => e.key = keyV kk vs ∧ vs.length = kk.2.length) vss es ∧
      ((l.find? (kEq kk us) = none ∧ vss.findIdx? (fun vs => decide (us = vs)) = none) ∨ ∃ (i : Nat) (p : PW × PW) (e : MapEntry), l.find? (kEq kk us) = some p ∧ vss.findIdx? (fun vs => decide (us = vs)) = some i ∧ l[i]? = some p ∧ es[i]? = some e ∧ EntRel w bad p e ∧ kEq kk us p = true ∧ e.key = keyV kk us)
  | [], [], _, _ => ⟨[], trivial, .inl ⟨rfl, rfl⟩⟩
  | [], _ :: _, h, _ => h.elim
  | _ :: _, [], h, _ => h.elim
  | p :: l, e :: es, h, hk => by
    obtain ⟨vss, h1, h2⟩ := find_rel (us := us) h.2 fun q hq => hk q (by simp [hq])
    obtain ⟨vs, hvs⟩ := Option.isSome_iff_exists.1 (hk p (by simp))
    obtain ⟨e1, e2⟩ := keyV_of h.1.1 hvs
    refine ⟨vs :: vss, ⟨⟨e1, e2⟩, h1⟩, ?_⟩
    by_cases hc : us = vs
    · subst hc
      have hkq : kEq kk us p = true := by simp [kEq, hvs]
      exact .inr ⟨0, p, e, by simp [List.find?_cons, hkq], by simp [List.findIdx?_cons], rfl, rfl, h.1, hkq, e1⟩
    · have hkq : kEq kk us p = false := by
        simp only [kEq, decide_eq_false_iff_not, hvs, Option.some.injEq]
        exact fun e => hc e.symm
      rcases h2 with ⟨a, b⟩ | ⟨i, q, e', a, b, c, d, f, g, k⟩
      · exact .inl ⟨by simp [List.find?_cons, hkq, a], by simp [List.findIdx?_cons, hc, b]⟩
      · exact .inr ⟨i + 1, q, e', by simp [List.find?_cons, hkq, a], by simp [List.findIdx?_cons, hc, b], by simpa using c, by simpa using d, f, g, k⟩

/-! ### The operations -/
section
variable {P : Program} {w0 w w' : World} {env0 env : Env} {bad0 : Bs} {fps : List Nat} {base : Nat → Prop} {N : Nat} {s : St} {a : Act} {o : Oper}
  {next : Act → World → Prop} {nx : Act → Prop} {Q : Exit → Act → World → Prop} {K : St → Prop}

theorem new_doneO (hR : R P w0 env0 bad0 fps base N s a w) (hd : ∀ n, o.dst = some n → n < N) (hK : ∀ s' a' w', K s' → R P w0 env0 bad0 fps base N s' a' w' → next a' w')
    {v : AV} {r : Reg} (h : ∀ env, env.n = s.regs.length → (∀ n, VRel w env (badOf base env s.regs) (lk s.slots n) (a.tmps.getD n undef)) → RS P w0 w fps base env s.regs →
      ∃ u ob c, (execOp a.eval o).run P w = .ok (.value u) (w.alloc ob) ∧
        (∀ bad', Ev w env (badOf base env s.regs) (w.alloc ob) (env.push (some (w.heap.size, c))) bad' → RRel P (w.alloc ob) (env.push (some (w.heap.size, c))) bad' env.n r) ∧
        (∀ bad', VRel (w.alloc ob) (env.push (some (w.heap.size, c))) bad' v u))
    (hk : K (s.putr o.dst v (s.regs ++ [r]))) : o.wp P a w next Q := by
  obtain ⟨⟨env, hrs, hsl, hev⟩, hsz, hdf⟩ := hR
  obtain ⟨u, ob, c, hr, h1, h2⟩ := h env hrs.len hsl hrs
  obtain ⟨hrs', hev'⟩ := hrs.alloc (r := r) (c := c) rfl h1
  exact upon_val hr (hK _ _ _ hk (R.put' hsz hdf hsl hev hrs' hev' hd (h2 _)))

theorem sound_mkmap {t k e : TypeId} (ho : o.op = .makeMap t none) (ht : P.underlying t = some (.map k e)) (hd : ∀ n, o.dst = some n → n < N)
    (h : opW P (.x o.dst .mkmap []) s K) (hR : R P w0 env0 bad0 fps base N s a w) (hK : ∀ s' a' w', K s' → R P w0 env0 bad0 fps base N s' a' w' → next a' w') : o.wp P a w next Q := by
  refine new_doneO hR hd hK (fun env hn hsl hrs => ⟨.map (some w.heap.size), .map #[] 0, 0, ?_, fun bad' hev => ?_, fun bad' => ?_⟩) h
  · simp [execOp, ho, Instr.makeMap]
  · exact ⟨w.heap.size, 0, Env.push_at _ _, #[], 0, [], heap_alloc_new w _, List.Perm.refl _, trivial⟩
  · exact .c ⟨by simp [Env.push, hn], _, 0, by rw [← hn, Env.push_at], rfl⟩

theorem sound_mkch {t e : TypeId} {d : ChanDir} {i : TypeInfo} {x : Operand} {ax : AX} (ho : o.op = .makeChan t x) (ht : P.underlying t = some (.chan d e)) (hi : P.info? e = some i) (hx : trX x = some ax) (hd : ∀ n, o.dst = some n → n < N)
    (h : opW P (.x o.dst (.mkch i.bytes) [ax]) s K) (hR : R P w0 env0 bad0 fps base N s a w) (hK : ∀ s' a' w', K s' → R P w0 env0 bad0 fps base N s' a' w' → next a' w') : o.wp P a w next Q := by
  simp only [opW, List.map_cons, List.map_nil, xW] at h
  split at h
  · rename_i k n hn
    obtain ⟨h0, h1, h2, h⟩ := h
    refine new_doneO hR hd hK (fun env hn' hsl hrs => ⟨.chan (some w.heap.size), .chan n.toNat #[] false 0 0 false, 0, ?_, fun bad' hev => ?_, fun bad' => ?_⟩) h
    · have e := int_of (ev_sound hsl hx) hn
      have hmax : IntKind.i64.max = 9223372036854775807 := by decide
      have c1 : ¬ n < 0 := by omega
      have c2 : ¬ (281474976710544 : Int) < i.bytes * n := by omega
      simp [execOp, ho, Instr.makeChan, e, asInt, asIntOf, run_underlying ht, typeInfo, hi, hmax, c1, c2, show ¬ (9223372036854775807 : Int) < n by omega]
    · exact ⟨w.heap.size, 0, Env.push_at _ _, #[], 0, 0, heap_alloc_new w _, trivial⟩
    · exact .c ⟨by simp [Env.push, hn'], _, 0, by rw [← hn', Env.push_at], rfl⟩
  · exact h.elim

theorem run_obj {g cap sn rc : Nat} {buf : Array Value} {cl tm : Bool} (h : w.heap[g]? = some (.chan cap buf cl sn rc tm)) : (getObj g).run P w = .ok (.chan cap buf cl sn rc tm) w := by simp [getObj, Sem.run, h]
theorem run_objm {g cl : Nat} {es : Array MapEntry} (h : w.heap[g]? = some (.map es cl)) : (getObj g).run P w = .ok (.map es cl) w := by simp [getObj, Sem.run, h]
theorem hnd_of {bad : Nat → Prop} {k : HK} {id : Nat} {u : Value} (h : VRel w env bad (.c (.hnd k id)) u) : ∃ g c, env.f id = some (g, c) ∧ u = hndV k g := (c_of h).2

theorem sound_chlen {x : Operand} {ax : AX} {tt : TypeId} {d : ChanDir} {e : TypeId} (ho : o.op = .call { callee := .builtin .len, args := #[x], argTypes := #[tt] }) (ht : P.underlying tt = some (.chan d e)) (hx : trX x = some ax) (hd : ∀ n, o.dst = some n → n < N)
    (h : opW P (.x o.dst .chlen [ax]) s K) (hR : R P w0 env0 bad0 fps base N s a w) (hK : ∀ s' a', K s' → R P w0 env0 bad0 fps base N s' a' w → nx a') : o.pureWp P a w nx := by
  simp only [opW, List.map_cons, List.map_nil] at h
  generalize hv : s.ev ax = v at h
  have hev := fun {env : Env} {bad : Nat → Prop} (hsl : ∀ n, VRel w env bad (lk s.slots n) (a.tmps.getD n undef)) => hv ▸ ev_sound hsl hx
  unfold xW at h
  split at h <;> first
    | exact h.elim
    | (rename_i e1 e2; cases e1; done)
    | skip
  · rename_i id e1 e2
    cases e2
    split at h
    · rename_i cap q hr
      refine val_done hR hd hK (fun env hsl hrs => ?_) h
      obtain ⟨g, c, he, e⟩ := hnd_of (hev hsl)
      obtain ⟨g', c', he', buf, sn, rc, hg, hq⟩ := hrs.reg id _ hr
      rw [he] at he'
      cases he'
      have hlen : q.length = buf.size := by simpa using hq.len
      exact ⟨.int .i64 q.length, by simp [execOp, ho, e, hndV, resolve, invoke, builtin, Builtin.len_, run_underlying ht, goInt, run_obj hg, hlen], vrel_v rfl⟩
    · exact h.elim
  · rename_i e1 e2
    cases e2
    refine val_done hR hd hK (fun env hsl hrs => ?_) h
    have e := (val_of (hev hsl) (x := .chan none) rfl).1
    exact ⟨.int .i64 0, by simp [execOp, ho, e, resolve, invoke, builtin, Builtin.len_, run_underlying ht, goInt], vrel_v rfl⟩

theorem sound_chcap {x : Operand} {ax : AX} {tt : TypeId} {d : ChanDir} {e : TypeId} (ho : o.op = .call { callee := .builtin .cap, args := #[x], argTypes := #[tt] }) (ht : P.underlying tt = some (.chan d e)) (hx : trX x = some ax) (hd : ∀ n, o.dst = some n → n < N)
    (h : opW P (.x o.dst .chcap [ax]) s K) (hR : R P w0 env0 bad0 fps base N s a w) (hK : ∀ s' a', K s' → R P w0 env0 bad0 fps base N s' a' w → nx a') : o.pureWp P a w nx := by
  simp only [opW, List.map_cons, List.map_nil] at h
  generalize hv : s.ev ax = v at h
  have hev := fun {env : Env} {bad : Nat → Prop} (hsl : ∀ n, VRel w env bad (lk s.slots n) (a.tmps.getD n undef)) => hv ▸ ev_sound hsl hx
  unfold xW at h
  split at h <;> first
    | exact h.elim
    | (rename_i e1 e2; cases e1; done)
    | skip
  · rename_i id e1 e2
    cases e2
    split at h
    · rename_i cap q hr
      refine val_done hR hd hK (fun env hsl hrs => ?_) h
      obtain ⟨g, c, he, e⟩ := hnd_of (hev hsl)
      obtain ⟨g', c', he', buf, sn, rc, hg, hq⟩ := hrs.reg id _ hr
      rw [he] at he'
      cases he'
      exact ⟨.int .i64 cap, by simp [execOp, ho, e, hndV, resolve, invoke, builtin, Builtin.cap_, run_underlying ht, goInt, run_obj hg], vrel_v rfl⟩
    · exact h.elim
  · rename_i e1 e2
    cases e2
    refine val_done hR hd hK (fun env hsl hrs => ?_) h
    have e := (val_of (hev hsl) (x := .chan none) rfl).1
    exact ⟨.int .i64 0, by simp [execOp, ho, e, resolve, invoke, builtin, Builtin.cap_, run_underlying ht, goInt], vrel_v rfl⟩

theorem sound_mlen {x : Operand} {ax : AX} {tt : TypeId} {kt e : TypeId} (ho : o.op = .call { callee := .builtin .len, args := #[x], argTypes := #[tt] }) (ht : P.underlying tt = some (.map kt e)) (hx : trX x = some ax) (hd : ∀ n, o.dst = some n → n < N)
    (h : opW P (.x o.dst .mlen [ax]) s K) (hR : R P w0 env0 bad0 fps base N s a w) (hK : ∀ s' a', K s' → R P w0 env0 bad0 fps base N s' a' w → nx a') : o.pureWp P a w nx := by
  simp only [opW, List.map_cons, List.map_nil] at h
  generalize hv : s.ev ax = v at h
  have hev := fun {env : Env} {bad : Nat → Prop} (hsl : ∀ n, VRel w env bad (lk s.slots n) (a.tmps.getD n undef)) => hv ▸ ev_sound hsl hx
  unfold xW at h
  split at h <;> first
    | exact h.elim
    | (rename_i e1 e2; cases e1; done)
    | skip
  · rename_i id e1 e2
    cases e2
    split at h
    · rename_i l hr
      refine val_done hR hd hK (fun env hsl hrs => ?_) h
      obtain ⟨g, c, he, e⟩ := hnd_of (hev hsl)
      obtain ⟨g', c', he', es, clock, l', hg, hp, hl⟩ := hrs.reg id _ hr
      rw [he] at he'
      cases he'
      have hlen : l.length = es.size := by rw [← hp.length_eq]; simpa using hl.len
      exact ⟨.int .i64 l.length, by simp [execOp, ho, e, hndV, resolve, invoke, builtin, Builtin.len_, run_underlying ht, goInt, run_objm hg, hlen], vrel_v rfl⟩
    · exact h.elim
  · rename_i e1 e2
    cases e2
    refine val_done hR hd hK (fun env hsl hrs => ?_) h
    have e := (val_of (hev hsl) (x := .map none) rfl).1
    exact ⟨.int .i64 0, by simp [execOp, ho, e, resolve, invoke, builtin, Builtin.len_, run_underlying ht, goInt], vrel_v rfl⟩

theorem zeroPW_rel {bad : Nat → Prop} {z : PW} {t : TypeId} {i : TypeInfo} {v : Value} (hv : i.zero = some v) (hz : z = (true, v.cells.toList.map .v) ∧ v = .agg v.cells ∨ ∃ x, z = (false, [.v x]) ∧ v = x) (hf : v.cells.toList.all flatv = true) (hone : ∀ x, v = x → z.1 = false → flatv x = true) : WRel w bad z v := by
  rcases hz with ⟨rfl, e⟩ | ⟨x, rfl, rfl⟩
  · refine ⟨v.cells.toList, by rw [e]; simp [Value.cells], ?_⟩
    exact All2.map' (R := PRel w bad) (f := PV.v) (by
      have : ∀ l : List Value, l.all flatv = true → All2 (fun a c => PRel w bad (PV.v a) c) l l := by
        intro l
        induction l with
        | nil => intro _; trivial
        | cons x l ih => intro h; simp only [List.all_cons, Bool.and_eq_true] at h; exact ⟨.v h.1, ih h.2⟩
      exact this _ hf)
  · exact .v (hone v rfl rfl)

theorem sound_look {x y : Operand} {ax ay : AX} {tt kt e : TypeId} {kk : Bool × List IntKind} {z : PW} {ok : Bool} {i : TypeInfo} {zv : Value} (ho : o.op = .lookup tt x y ok) (ht : P.underlying tt = some (.map kt e)) (hkt : KeyType P kt kk) (hi : P.info? e = some i) (hzv : i.zero = some zv)
    (hz : ∀ (w : World) (bad : Nat → Prop), WRel w bad z zv) (hx : trX x = some ax) (hy : trX y = some ay) (hd : ∀ n, o.dst = some n → n < N)
    (h : opW P (.x o.dst (.look kk z ok) [ax, ay]) s K) (hR : R P w0 env0 bad0 fps base N s a w) (hK : ∀ s' a', K s' → R P w0 env0 bad0 fps base N s' a' w → nx a') : o.pureWp P a w nx := by
  simp only [opW, List.map_cons, List.map_nil, xW] at h
  have hpair : ∀ {env : Env} {bad : Nat → Prop} {p : PW} {v : Value} (b : Bool), WRel w bad p v → VRel w env bad (if ok then .tup [pwAV p, .c (.p (.v (.bool b)))] else pwAV p) (if ok then .tuple #[v, .bool b] else v) := by
    intro env bad p v b hp
    cases ok with
    | false => exact av_of hp
    | true =>
      refine .tup (vs := [v, .bool b]) rfl fun j h1 h2 => ?_
      match j, h1 with
      | 0, _ => exact av_of hp
      | 1, _ => exact vrel_v rfl
  split at h
  · rename_i us hk hm
    refine val_done hR hd hK (fun env hsl hrs => ?_) h
    obtain ⟨pk, hpk, hus⟩ := Option.bind_eq_some_iff.1 hk
    obtain ⟨e1, e2⟩ := keyV_of (pw_of (ev_sound hsl hy) hpk) hus
    have em := (val_of (ev_sound hsl hx) (x := .map none) (by rw [hm]; rfl)).1
    have hc := run_check hkt true w e2
    have hf := run_find hkt w e2 [] [] trivial
    refine ⟨_, ?_, hpair false (hz w _)⟩
    simp [execOp, ho, em, e1, Instr.lookup, run_underlying ht, hc, hf, zeroValue, typeInfo, hi, hzv]
  · rename_i us id hk hm
    split at h
    · rename_i l hr
      obtain ⟨hko, h⟩ := h
      have hgen : ∀ (env : Env), (∀ n, VRel w env (badOf base env s.regs) (lk s.slots n) (a.tmps.getD n undef)) → RS P w0 w fps base env s.regs →
          ∃ u, (execOp a.eval o).run P w = .ok (.value u) w ∧ VRel w env (badOf base env s.regs) (match mpGet kk us l with | some v => if ok then .tup [pwAV v, .c (.p (.v (.bool true)))] else pwAV v | none => if ok then .tup [pwAV z, .c (.p (.v (.bool false)))] else pwAV z) u := by
        intro env hsl hrs
        obtain ⟨pk, hpk, hus⟩ := Option.bind_eq_some_iff.1 hk
        obtain ⟨e1, e2⟩ := keyV_of (pw_of (ev_sound hsl hy) hpk) hus
        obtain ⟨g, c, he, em⟩ := hnd_of (hm ▸ ev_sound hsl hx)
        obtain ⟨g', c', he', es, clock, l', hg, hp, hl⟩ := hrs.reg id _ hr
        rw [he] at he'
        cases he'
        have hko' := keysOk_perm hp.symm hko
        have hget : mpGet kk us l = mpGet kk us l' := mpGet_perm hp.symm hko
        have hl' : All2 (EntRel w (badOf base env s.regs)) l' es.toList := hl
        obtain ⟨vss, hv1, hv2⟩ := find_rel (us := us) hl' hko'.1
        have hc := run_check hkt es.isEmpty w e2
        have hf := run_find hkt w e2 es.toList vss hv1
        rw [hget]
        unfold mpGet
        rcases hv2 with ⟨a1, a2⟩ | ⟨j, p, en, a1, a2, a3, a4, a5, a6, a7⟩
        · rw [a1]
          rw [a2] at hf
          refine ⟨_, ?_, hpair false (hz w _)⟩
          simp [execOp, ho, em, hndV, e1, Instr.lookup, run_underlying ht, run_objm hg, hc, hf, zeroValue, typeInfo, hi, hzv]
        · rw [a1]
          rw [a2] at hf
          simp only [Option.bind_some, a4, Option.map_some] at hf
          refine ⟨_, ?_, hpair true a5.2⟩
          simp [execOp, ho, em, hndV, e1, Instr.lookup, run_underlying ht, run_objm hg, hc, hf]
      split at h
      · rename_i v hmg
        refine val_done hR hd hK (fun env hsl hrs => ?_) h
        have := hgen env hsl hrs
        rw [hmg] at this
        exact this
      · rename_i hmg
        refine val_done hR hd hK (fun env hsl hrs => ?_) h
        have := hgen env hsl hrs
        rw [hmg] at this
        exact this
    · exact h.elim
  · exact h.elim

theorem bits_ints (n : Nat) : ∀ (ks : List IntKind) (us : List Int), ((mkInts ks us).zip (mkInts ks us)).all (fun (x, y) => Instr.sameBits n x y) = true
  | [], us => by simp [mkInts]
  | k :: ks, [] => by simp [mkInts]
  | k :: ks, u :: us => by
    have := bits_ints n ks us
    simp only [mkInts, List.zipWith_cons_cons, List.zip_cons_cons, List.all_cons, Bool.and_eq_true] at this ⊢
    refine ⟨?_, this⟩
    unfold Instr.sameBits
    simp
theorem run_stays {kk : Bool × List IntKind} {us : List Int} (hl : us.length = kk.2.length) (hk : kk.1 = true ∨ ∃ q, kk = (false, [q])) : (Instr.keyThatStays (keyV kk us) (keyV kk us)).run P w = .ok (keyV kk us) w := by
  have hb : ∀ n, Instr.sameBits (n + 1) (keyV kk us) (keyV kk us) = true := by
    intro n
    obtain ⟨b, ks⟩ := kk
    rcases hk with h | ⟨q, h⟩
    · simp only at h
      subst h
      simp only [keyV]
      unfold Instr.sameBits
      simp only [beq_self_eq_true, Bool.true_and]
      exact bits_ints n ks us
    · cases h
      match us, hl with
      | [m], _ => simp [keyV, Instr.sameBits]
  have := hb 9999
  simp [Instr.keyThatStays, this]

theorem sound_upd {x y z : Operand} {ax ay az : AX} {tt kt e : TypeId} {kk : Bool × List IntKind} (ho : o.op = .mapUpdate tt x y z) (ht : P.underlying tt = some (.map kt e)) (hkt : KeyType P kt kk) (hx : trX x = some ax) (hy : trX y = some ay) (hz : trX z = some az) (hdn : o.dst = none)
    (h : opW P (.x none (.upd kk) [ax, ay, az]) s K) (hR : R P w0 env0 bad0 fps base N s a w) (hK : ∀ s' a' w', K s' → R P w0 env0 bad0 fps base N s' a' w' → next a' w') : o.wp P a w next Q := by
  obtain ⟨⟨env, hrs, hsl, hev⟩, hsz, hdf⟩ := hR
  have hput : ∀ u, a.put o.dst u = a := fun u => by rw [hdn]; rfl
  simp only [opW, List.map_cons, List.map_nil, xW] at h
  split at h
  · rename_i id pk pv hm hpk hpv
    split at h
    · rename_i l us hr hus
      obtain ⟨hko, h⟩ := h
      obtain ⟨e1, e2⟩ := keyV_of (pw_of (ev_sound hsl hy) hpk) hus
      have hwk : WRel w (badOf base env s.regs) pk (a.eval y) := pw_of (ev_sound hsl hy) hpk
      have hwv : WRel w (badOf base env s.regs) pv (a.eval z) := pw_of (ev_sound hsl hz) hpv
      obtain ⟨g, c, he, em⟩ := hnd_of (hm ▸ ev_sound hsl hx)
      obtain ⟨g', c', he', es, clock, l', hg, hp, hl⟩ := hrs.reg id _ hr
      rw [he] at he'
      cases he'
      have hko' := keysOk_perm hp.symm hko
      have hl' : All2 (EntRel w (badOf base env s.regs)) l' es.toList := hl
      obtain ⟨vss, hv1, hv2⟩ := find_rel (us := us) hl' hko'.1
      have hc := run_check hkt false w e2
      have hf := run_find hkt w e2 es.toList vss hv1
      have hst := run_stays (P := P) (w := w) e2 (by rcases key_cases hkt with h | ⟨q, h, _⟩; exact .inl h.1; exact .inr ⟨q, h⟩)
      have hgl : g < w.heap.size := by
        rcases Nat.lt_or_ge g w.heap.size with h | h
        · exact h
        · rw [Array.getElem?_eq_none h] at hg; cases hg
      have hfin : ∀ (es' : Array MapEntry) (clock' : Nat), (execOp a.eval o).run P w = .ok .skip { w with heap := w.heap.setIfInBounds g (.map es' clock') } →
          All2 (EntRel w (badOf base env s.regs)) (mpSet kk us pk pv l') es'.toList → o.wp P a w next Q := by
        intro es' clock' hrun hal
        obtain ⟨hrs', hev'⟩ := hrs.turn (w' := { w with heap := w.heap.setIfInBounds g (.map es' clock') }) (r' := .ob (.mp (mpSet kk us pk pv l))) hr rfl he rfl rfl rfl (by simp) (fun b hb => by simp [Array.getElem?_setIfInBounds_ne (Ne.symm hb)]) rfl (fun hev' =>
          ⟨g, c, he, es', clock', mpSet kk us pk pv l', by simp [hgl], mpSet_perm hp, hal.imp fun _ _ h => ⟨WRel.imp (fun _ _ r => PRel.ev hev' r) h.1, WRel.imp (fun _ _ r => PRel.ev hev' r) h.2⟩⟩)
        refine upon_skp hrun ?_
        rw [hput]
        exact hK _ _ _ h ⟨⟨env, hrs', fun n => (hsl n).ev hev', hev.trans hev'⟩, hsz, hdf⟩
      have hany : ∀ {b : Bool}, l'.any (kEq kk us) = b → mpSet kk us pk pv l' = if b = true then l'.map (fun p => if kEq kk us p = true then (pk, pv) else p) else l' ++ [(pk, pv)] := fun h => by unfold mpSet; rw [h]
      rcases hv2 with ⟨a1, a2⟩ | ⟨j, p, en, a1, a2, a3, a4, a5, a6, a7⟩
      · rw [a2] at hf
        refine hfin (es.push { key := a.eval y, val := a.eval z, born := clock }) (clock + 1) ?_ ?_
        · rw [← e1] at hc hf
          simp [execOp, ho, em, hndV, Instr.mapUpdate, run_underlying ht, run_objm hg, hc, hf, setObj, Sem.run, hg]
        · rw [hany (b := false) (by rw [Bool.eq_false_iff]; intro h; obtain ⟨q, hq, hqe⟩ := List.any_eq_true.1 h; exact absurd hqe (by rw [List.find?_eq_none] at a1; exact a1 q hq))]
          simp only [Bool.false_eq_true, if_false, Array.toList_push]
          exact hl'.append ⟨⟨hwk, hwv⟩, trivial⟩
      · rw [a2] at hf
        simp only [Option.bind_some, a4, Option.map_some] at hf
        have ha4 : es[j]? = some en := by simpa using a4
        refine hfin (es.modify j fun e => { e with key := a.eval y, val := a.eval z }) clock ?_ ?_
        · rw [← e1] at hc hf hst a7
          simp [execOp, ho, em, hndV, Instr.mapUpdate, run_underlying ht, run_objm hg, hc, hf, ha4, a7, hst, setObj, Sem.run, hg]
        · rw [hany (b := true) (List.any_eq_true.2 ⟨p, List.mem_of_getElem? a3, a6⟩)]
          simp only [if_true]
          have hlen : l'.length = es.size := by simpa using hl'.len
          refine All2.of_get (by simp [hlen]) fun i h1 h2 => ?_
          have hi1 : i < l'.length := by simpa using h1
          have hi2 : i < es.size := by omega
          rw [List.getElem_map]
          have hget : (es.modify j fun e => { e with key := a.eval y, val := a.eval z }).toList[i] = if j = i then { es[i] with key := a.eval y, val := a.eval z } else es[i] := by
            rw [Array.getElem_toList, Array.getElem_modify]
          rw [hget]
          obtain ⟨hjl, hpj⟩ := List.getElem?_eq_some_iff.1 a3
          by_cases hij : j = i
          · subst hij
            rw [if_pos rfl, hpj, if_pos a6]
            exact ⟨hwk, hwv⟩
          · rw [if_neg hij]
            have hne : kEq kk us l'[i] = false := by
              rw [Bool.eq_false_iff]
              intro hk
              simp only [kEq, decide_eq_true_eq] at hk a6
              have hpw := hko'.2
              rw [List.pairwise_iff_getElem] at hpw
              rcases Nat.lt_or_ge i j with hlt | hge
              · exact hpw i j hi1 hjl hlt (by rw [hk, hpj, a6])
              · exact hpw j i hjl hi1 (by omega) (by rw [hk, hpj, a6])
            rw [hne]
            simp only [Bool.false_eq_true, if_false]
            have := hl'.get i hi1 (by simpa using hi2)
            simpa using this
    · exact h.elim
  · exact h.elim

def nilV : Nat → Value
  | 0 => .pointer none
  | 1 => .slice none 0 0
  | 2 => .map none
  | 3 => .chan none
  | _ => .nilFunc
def NilK (P : Program) (t : TypeId) : Nat → Prop
  | 0 => ∃ e, P.underlying t = some (.pointer e)
  | 1 => ∃ e, P.underlying t = some (.slice e)
  | 2 => ∃ k e, P.underlying t = some (.map k e)
  | 3 => ∃ d e, P.underlying t = some (.chan d e)
  | 4 => ∃ a b c, P.underlying t = some (.func a b c)
  | _ => False
theorem nil_run {bad : Nat → Prop} {t : TypeId} {k : Nat} {v : AV} {u : Value} {b : Bool} (hk : NilK P t k) (hb : nilOf k v = some b) (h : VRel w env bad v u) (w' : World) : (Op.equal t u (nilV k)).run P w' = .ok b w' := by
  have hd : ∀ d, (Op.equalIn (d + 1) t u (nilV k)).run P w' = .ok b w' := by
    intro d
    unfold nilOf at hb
    split at hb
    · cases hb
      obtain ⟨e, he⟩ := hk
      obtain ⟨_, g, c, _, rfl⟩ := c_of h
      simp [Op.equalIn, nilV, run_underlying he]
    · cases hb
      obtain ⟨e, he⟩ := hk
      obtain ⟨_, g, c, _, rfl⟩ := c_of h
      simp [Op.equalIn, nilV, run_underlying he]
    · cases hb
      obtain ⟨e, he⟩ := hk
      obtain ⟨ad, rfl, _⟩ := c_of h
      simp [Op.equalIn, nilV, run_underlying he]
    · cases hb
      obtain ⟨e, he⟩ := hk
      have := (val_of h (x := .pointer none) rfl).1
      subst this
      simp [Op.equalIn, nilV, run_underlying he]
    · cases hb
      obtain ⟨e, he⟩ := hk
      have hp : PRel w bad _ u := c_of h
      cases hp with
      | sl U hz hn hc hm hsz hA =>
        obtain ⟨ad, rfl, _⟩ := hA (by rw [hn]; simp)
        simp [Op.equalIn, nilV, run_underlying he]
    · cases hb
      obtain ⟨e, he⟩ := hk
      have hp : PRel w bad _ u := (c_of h).1
      cases hp with
      | sl U hz hn hc hm hsz hA =>
        obtain ⟨ad, rfl, _⟩ := hA (by rw [hn]; simp)
        simp [Op.equalIn, nilV, run_underlying he]
    · cases hb
      obtain ⟨e, he⟩ := hk
      obtain ⟨_, hc⟩ := c_of h
      rcases hc with ⟨_, _, hl, _⟩ | ⟨g, c, kk, _, rfl, _⟩
      · cases hl
      · simp [Op.equalIn, nilV, run_underlying he]
    · cases hb
      obtain ⟨e, he⟩ := hk
      have := (val_of h (x := .slice none 0 0) rfl).1
      subst this
      simp [Op.equalIn, nilV, run_underlying he]
    · cases hb
      obtain ⟨k', e, he⟩ := hk
      obtain ⟨g, c, _, rfl⟩ := hnd_of h
      simp [Op.equalIn, nilV, hndV, run_underlying he]
    · cases hb
      obtain ⟨k', e, he⟩ := hk
      have := (val_of h (x := .map none) rfl).1
      subst this
      simp [Op.equalIn, nilV, run_underlying he]
    · cases hb
      obtain ⟨k', e, he⟩ := hk
      obtain ⟨g, c, _, rfl⟩ := hnd_of h
      simp [Op.equalIn, nilV, hndV, run_underlying he]
    · cases hb
      obtain ⟨k', e, he⟩ := hk
      have := (val_of h (x := .chan none) rfl).1
      subst this
      simp [Op.equalIn, nilV, run_underlying he]
    · cases hb
      obtain ⟨k1, k2, k3, he⟩ := hk
      obtain ⟨fs, cs, rfl, _⟩ := c_of h
      simp [Op.equalIn, nilV, run_underlying he]
    · cases hb
      obtain ⟨k1, k2, k3, he⟩ := hk
      have := (val_of h (x := .nilFunc) rfl).1
      subst this
      simp [Op.equalIn, nilV, run_underlying he]
    · cases hb
  exact hd 9999

theorem sound_nilq {neg : Bool} {t u : TypeId} {x : Operand} {ax : AX} {k : Nat} (ho : o.op = .binOp (if neg then .neq else .eql) t x (.const (nilV k)) u) (hk : NilK P t k) (hx : trX x = some ax) (hd : ∀ n, o.dst = some n → n < N)
    (h : opW P (.x o.dst (.nilq k neg) [ax]) s K) (hR : R P w0 env0 bad0 fps base N s a w) (hK : ∀ s' a', K s' → R P w0 env0 bad0 fps base N s' a' w → nx a') : o.pureWp P a w nx := by
  simp only [opW, List.map_cons, List.map_nil, xW] at h
  split at h
  · rename_i b hb
    refine val_done hR hd hK (fun env hsl _ => ?_) h
    have hr := nil_run hk hb (ev_sound hsl hx) w
    have hg : ∀ op, (eqGuard op t x (.const (nilV k)) (a.eval x) (nilV k)).run P w = .ok () w := by
      intro op
      match k, hk with
      | 0, _ => cases op <;> simp [eqGuard, nilV]
      | 1, _ => cases op <;> simp [eqGuard, nilV]
      | 2, _ => cases op <;> simp [eqGuard, nilV]
      | 3, _ => cases op <;> simp [eqGuard, nilV]
      | 4, _ => cases op <;> simp [eqGuard, nilV]
    have hbin : (binOp (if neg then .neq else .eql) t (a.eval x) (nilV k)).run P w = .ok (.bool (if neg then !b else b)) w := by
      match k, hk, hr with
      | 0, _, hr => cases neg <;> cases hax : a.eval x <;> simp_all [binOp, nilV]
      | 1, _, hr => cases neg <;> cases hax : a.eval x <;> simp_all [binOp, nilV]
      | 2, _, hr => cases neg <;> cases hax : a.eval x <;> simp_all [binOp, nilV]
      | 3, _, hr => cases neg <;> cases hax : a.eval x <;> simp_all [binOp, nilV]
      | 4, _, hr => cases neg <;> cases hax : a.eval x <;> simp_all [binOp, nilV]
    refine ⟨_, ?_, vrel_v rfl⟩
    have hev : a.eval (.const (nilV k)) = nilV k := rfl
    simp only [execOp, ho, hev]
    rw [Sem.run_bind]
    cases neg <;> simp_all
  · exact h.elim
end
end Go.Sim
