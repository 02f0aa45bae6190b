/- Structs and arrays of whole numbers held against each other. Of no program. -/
import Derived.Test.YtahoelmjfgoedaaGreatSimC
import Derived.DeepKeys
import Derived.DeepKeys3
namespace Go.Sim
open Go.RowKit
/-- The kinds of the whole numbers in a type's cells, in order; none where it holds something else. -/
def shape (P : Program) : Nat → TypeId → Option (List IntKind)
  | 0, _ => none
  | d + 1, t => match P.underlying t with
    | some (.int q) => some [q]
    | some (.struct fs) => if P.stoodInHeld t then none else
        fs.toList.foldl (fun o f => o.bind fun ks => if f.name ≠ "_" ∧ f.offset = ks.length then (shape P d f.type).bind fun q => if P.cellsOf f.type = q.length then some (ks ++ q) else none else none) (some [])
    | some (.array n e) => (shape P d e).bind fun q => if P.cellsOf e = q.length ∧ (P.info? e).isSome then some (List.replicate n q).flatten else none
    | _ => none

theorem mkInts_take (ks : List IntKind) (us : List Int) (n : Nat) : (mkInts ks us).take n = mkInts (ks.take n) (us.take n) := by simp [mkInts, List.take_zipWith]
theorem mkInts_drop (ks : List IntKind) (us : List Int) (n : Nat) : (mkInts ks us).drop n = mkInts (ks.drop n) (us.drop n) := by simp [mkInts, List.drop_zipWith]
theorem mkInts_len {ks : List IntKind} {us : List Int} (h : us.length = ks.length) : (mkInts ks us).length = ks.length := by simp [mkInts, h]
theorem split_eq (n : Nat) (us vs : List Int) : us = vs ↔ us.take n = vs.take n ∧ us.drop n = vs.drop n :=
  ⟨fun h => by simp [h], fun ⟨h, k⟩ => by rw [← List.take_append_drop n us, ← List.take_append_drop n vs, h, k]⟩

section
variable {P : Program}
/-- A part of two rows of cells, held against each other. -/
def PartEq (P : Program) (dd : Nat) (t : TypeId) (ks : List IntKind) : Prop :=
  ∀ (w : World) (xs ys : Array Value) (off : Nat) (us vs : List Int), us.length = ks.length → vs.length = ks.length → (xs.toList.drop off).take ks.length = mkInts ks us → (ys.toList.drop off).take ks.length = mkInts ks vs →
    ∃ a b, (part t xs off).run P w = .ok a w ∧ (part t ys off).run P w = .ok b w ∧ (Op.equalIn dd t a b).run P w = .ok (decide (us = vs)) w

theorem fields_eq (w : World) (dd d : Nat) (IH : ∀ t ks, shape P d t = some ks → P.cellsOf t = ks.length → PartEq P dd t ks) (xs ys : Array Value) : ∀ (fs : List Field) (k0 ks : List IntKind),
    fs.foldl (fun o f => o.bind fun ks => if f.name ≠ "_" ∧ f.offset = ks.length then (shape P d f.type).bind fun q => if P.cellsOf f.type = q.length then some (ks ++ q) else none else none) (some k0) = some ks →
    ∃ k1, ks = k0 ++ k1 ∧ ∀ us vs : List Int, us.length = k1.length → vs.length = k1.length → xs.toList.drop k0.length = mkInts k1 us → ys.toList.drop k0.length = mkInts k1 vs → (Op.eqFields dd xs ys fs).run P w = .ok (decide (us = vs)) w
  | [], k0, ks, h => by
    simp only [List.foldl_nil, Option.some.injEq] at h
    subst h
    refine ⟨[], by simp, fun us vs h1 h2 _ _ => ?_⟩
    obtain rfl : us = [] := List.eq_nil_of_length_eq_zero h1
    obtain rfl : vs = [] := List.eq_nil_of_length_eq_zero h2
    simp [Op.eqFields]
  | f :: fs, k0, ks, h => by
    have hnone : ∀ fs : List Field, fs.foldl (fun o f => o.bind fun ks => if f.name ≠ "_" ∧ f.offset = ks.length then (shape P d f.type).bind fun q => if P.cellsOf f.type = q.length then some (ks ++ q) else none else none) (none : Option (List IntKind)) = none := by
      intro fs
      induction fs with
      | nil => rfl
      | cons _ _ ih => exact ih
    rw [List.foldl_cons, Option.bind_some] at h
    split at h
    · rename_i hc
      cases hq : shape P d f.type with
      | none => rw [hq, Option.bind_none, hnone] at h; cases h
      | some q =>
        rw [hq, Option.bind_some] at h
        split at h
        · rename_i hcell
          obtain ⟨k1, rfl, hk⟩ := fields_eq w dd d IH xs ys fs (k0 ++ q) ks h
          refine ⟨q ++ k1, by rw [List.append_assoc], fun us vs h1 h2 hx hy => ?_⟩
          rw [List.length_append] at h1 h2
          have hx1 : (xs.toList.drop f.offset).take q.length = mkInts q (us.take q.length) := by rw [hc.2, hx, mkInts_take]; simp
          have hy1 : (ys.toList.drop f.offset).take q.length = mkInts q (vs.take q.length) := by rw [hc.2, hy, mkInts_take]; simp
          obtain ⟨a, b, p1, p2, p3⟩ := IH f.type q hq hcell w xs ys f.offset (us.take q.length) (vs.take q.length) (by simp; omega) (by simp; omega) hx1 hy1
          have hx2 : xs.toList.drop (k0 ++ q).length = mkInts k1 (us.drop q.length) := by rw [List.length_append, ← List.drop_drop, hx, mkInts_drop]; simp
          have hy2 : ys.toList.drop (k0 ++ q).length = mkInts k1 (vs.drop q.length) := by rw [List.length_append, ← List.drop_drop, hy, mkInts_drop]; simp
          have hr := hk (us.drop q.length) (vs.drop q.length) (by simp; omega) (by simp; omega) hx2 hy2
          simp only [Op.eqFields, hc.1, ne_eq, not_false_eq_true, if_true, Sem.run_bind, p1, p2, p3, Result.andThen_ok]
          have he := split_eq q.length us vs
          by_cases e1 : us.take q.length = vs.take q.length
          · simp only [e1, decide_true, Bool.not_true, Bool.false_eq_true, if_false, hr]
            congr 1
            exact decide_eq_decide.2 ⟨fun h => he.2 ⟨e1, h⟩, fun h => (he.1 h).2⟩
          · have : ¬ us = vs := fun h => e1 (he.1 h).1
            simp [e1, this]
        · rw [hnone] at h; cases h
    · rw [hnone] at h; cases h

theorem items_eq (w : World) (dd : Nat) {e : TypeId} {q : List IntKind} (IH : PartEq P dd e q) (hc : P.cellsOf e = q.length) (xs ys : Array Value) : ∀ (n i : Nat) (us vs : List Int),
    us.length = (List.replicate n q).flatten.length → vs.length = (List.replicate n q).flatten.length → xs.toList.drop (i * q.length) = mkInts (List.replicate n q).flatten us → ys.toList.drop (i * q.length) = mkInts (List.replicate n q).flatten vs →
    (Op.eqItems dd e (P.cellsOf e) xs ys (List.range' i n)).run P w = .ok (decide (us = vs)) w
  | 0, i, us, vs, h1, h2, _, _ => by
    obtain rfl : us = [] := List.eq_nil_of_length_eq_zero (by simpa using h1)
    obtain rfl : vs = [] := List.eq_nil_of_length_eq_zero (by simpa using h2)
    simp [Op.eqItems]
  | n + 1, i, us, vs, h1, h2, hx, hy => by
    rw [List.replicate_succ, List.flatten_cons] at h1 h2 hx hy
    rw [List.length_append] at h1 h2
    have hx1 : (xs.toList.drop (i * P.cellsOf e)).take q.length = mkInts q (us.take q.length) := by rw [hc, hx, mkInts_take]; simp
    have hy1 : (ys.toList.drop (i * P.cellsOf e)).take q.length = mkInts q (vs.take q.length) := by rw [hc, hy, mkInts_take]; simp
    obtain ⟨a, b, p1, p2, p3⟩ := IH w xs ys (i * P.cellsOf e) (us.take q.length) (vs.take q.length) (by simp; omega) (by simp; omega) hx1 hy1
    have ea : (i + 1) * q.length = i * q.length + q.length := by rw [Nat.add_mul, Nat.one_mul]
    have hx2 : xs.toList.drop ((i + 1) * q.length) = mkInts (List.replicate n q).flatten (us.drop q.length) := by rw [ea, ← List.drop_drop, hx, mkInts_drop]; simp
    have hy2 : ys.toList.drop ((i + 1) * q.length) = mkInts (List.replicate n q).flatten (vs.drop q.length) := by rw [ea, ← List.drop_drop, hy, mkInts_drop]; simp
    have hr := items_eq w dd IH hc xs ys n (i + 1) (us.drop q.length) (vs.drop q.length) (by rw [List.length_drop]; omega) (by rw [List.length_drop]; omega) hx2 hy2
    rw [List.range'_succ]
    simp only [Op.eqItems, Sem.run_bind, p1, p2, p3, Result.andThen_ok]
    have he := split_eq q.length us vs
    by_cases e1 : us.take q.length = vs.take q.length
    · simp only [e1, decide_true, Bool.not_true, Bool.false_eq_true, if_false, hr]
      congr 1
      exact decide_eq_decide.2 ⟨fun h => he.2 ⟨e1, h⟩, fun h => (he.1 h).2⟩
    · have : ¬ us = vs := fun h => e1 (he.1 h).1
      simp [e1, this]

/-- Two values of such a type. -/
theorem agg_eq (w : World) (dd d : Nat) (IH : ∀ t ks, shape P d t = some ks → P.cellsOf t = ks.length → PartEq P dd t ks) {t : TypeId} {ks : List IntKind} (h : shape P (d + 1) t = some ks) (hk : ∀ q, P.underlying t ≠ some (.int q)) {us vs : List Int} (h1 : us.length = ks.length) (h2 : vs.length = ks.length) (xs ys : Array Value)
    (hx : xs.toList = mkInts ks us) (hy : ys.toList = mkInts ks vs) : (Op.equalIn (dd + 1) t (.agg xs) (.agg ys)).run P w = .ok (decide (us = vs)) w := by
  simp only [shape] at h
  cases hu : P.underlying t with
  | none => simp [hu] at h
  | some kd =>
    rw [hu] at h
    cases kd with
    | int q => exact absurd hu (hk q)
    | struct fs =>
      simp only at h
      split at h
      · cases h
      · rename_i hs
        obtain ⟨k1, rfl, hf⟩ := fields_eq w dd d IH xs ys fs.toList [] ks h
        have hfs : P.fieldsOf t = fs := by simp [Program.fieldsOf, hu]
        rw [run_equalIn_struct w dd t xs ys (by rw [hfs]; exact hu) (by simpa using hs), hfs]
        exact hf us vs h1 h2 (by simpa using hx) (by simpa using hy)
    | array n e =>
      simp only at h
      cases hq : shape P d e with
      | none => simp [hq] at h
      | some q =>
        rw [hq, Option.bind_some] at h
        split at h
        · rename_i hc
          obtain ⟨i, hi⟩ := Option.isSome_iff_exists.1 hc.2
          cases h
          rw [run_equalIn_array w dd xs ys hu hi, List.range_eq_range']
          exact items_eq w dd (IH e q hq hc.1) hc.1 xs ys n 0 us vs h1 h2 (by simpa using hx) (by simpa using hy)
        · cases h
    | _ => simp at h

theorem shape_part (d0 : Nat) : ∀ (d : Nat) (t : TypeId) (ks : List IntKind), shape P d t = some ks → P.cellsOf t = ks.length → PartEq P (d0 + d) t ks
  | 0, _, _, h, _ => by simp [shape] at h
  | d + 1, t, ks, h, hcell => by
    intro w xs ys off us vs h1 h2 hx hy
    cases hu : P.underlying t with
    | none => simp [shape, hu] at h
    | some kd =>
      have agg : (∀ q, P.underlying t ≠ some (.int q)) → (isAgg t).run P w = .ok true w → ∃ a b, (part t xs off).run P w = .ok a w ∧ (part t ys off).run P w = .ok b w ∧ (Op.equalIn (d0 + (d + 1)) t a b).run P w = .ok (decide (us = vs)) w := by
        intro hk ha
        obtain ⟨i, hi⟩ := info_of_underlying hu
        have hl : ∀ zs : Array Value, (zs.extract off (off + P.cellsOf t)).toList = (zs.toList.drop off).take ks.length := by
          intro zs
          rw [Array.toList_extract, hcell]
          simp [List.extract]
        refine ⟨.agg (xs.extract off (off + P.cellsOf t)), .agg (ys.extract off (off + P.cellsOf t)), ?_, ?_, ?_⟩
        · simp [part, ha, run_sizeOf w hi]
        · simp [part, ha, run_sizeOf w hi]
        · exact agg_eq w (d0 + d) d (fun t ks h hc => shape_part d0 d t ks h hc) h hk h1 h2 _ _ (by rw [hl, hx]) (by rw [hl, hy])
      cases kd with
      | int q =>
        simp only [shape, hu, Option.some.injEq] at h
        subst h
        match us, vs, h1, h2 with
        | [u], [v], _, _ =>
          have g : ∀ (zs : Array Value) (z : Int), (zs.toList.drop off).take 1 = [.int q z] → zs[off]? = some (.int q z) := by
            intro zs z hz
            have : (zs.toList.drop off)[0]? = some (.int q z) := by
              have := congrArg (fun l => l[0]?) hz
              simpa [List.getElem?_take] using this
            simpa using this
          have hp : P.plainKey t = true := by simp [Program.plainKey, hu]
          refine ⟨_, _, run_part_plain w hp (g xs u hx), run_part_plain w hp (g ys v hy), ?_⟩
          rw [show d0 + (d + 1) = (d0 + d) + 1 from rfl, run_equalIn_int w (d0 + d) t q q u v hu]
          by_cases e : u = v <;> simp [e]
      | struct fs => exact agg (by simp [hu]) (by simp [isAgg, run_underlying hu])
      | array n e => exact agg (by simp [hu]) (by simp [isAgg, run_underlying hu])
      | _ => simp [shape, hu] at h

theorem equal_agg {t m : Nat} {ks : List IntKind} (hm : m + 1 ≤ 10000) (hs : shape P (m + 1) t = some ks) (hk : ∀ q, P.underlying t ≠ some (.int q)) (w : World) (us vs : List Int) (h1 : us.length = ks.length) (h2 : vs.length = ks.length) :
    (Op.equal t (.agg (mkInts ks us).toArray) (.agg (mkInts ks vs).toArray)).run P w = .ok (decide (us = vs)) w :=
  agg_eq (P := P) w 9999 m (fun t ks h hc => by
    have := shape_part (P := P) (9999 - m) m t ks h hc
    rwa [show 9999 - m + m = 9999 by omega] at this) hs hk h1 h2 (mkInts ks us).toArray (mkInts ks vs).toArray rfl rfl
theorem EqOk_of {t m : Nat} {ks : List IntKind} (hm : m + 1 ≤ 10000) (hg : P.eqGuardType P.depth t = false) (hs : shape P (m + 1) t = some ks) (hk : (match P.underlying t with | some (.int _) => false | _ => true) = true) : EqOk P t ks := by
  refine ⟨hg, fun w us vs h1 h2 => ?_⟩
  have h := agg_eq (P := P) w 9999 m (fun t ks h hc => by
    have := shape_part (P := P) (9999 - m) m t ks h hc
    rwa [show 9999 - m + m = 9999 by omega] at this) hs (fun q e => by simp [e] at hk) h1 h2 (mkInts ks us).toArray (mkInts ks vs).toArray rfl rfl
  exact h
end
end Go.Sim
