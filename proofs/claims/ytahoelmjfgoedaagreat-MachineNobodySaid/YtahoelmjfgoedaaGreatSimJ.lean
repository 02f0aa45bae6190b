/- The model's append, slices out of parts, and calls, over the plain picture. Of no program. -/
import Derived.Test.YtahoelmjfgoedaaGreatSimI
namespace Go.Sim
open Go.RowKit Go.Proofs.YtahoelmjfgoedaaGreat.B

section
variable {P : Program} {w0 w w' : World} {env0 env : Env} {bad0 : Bs} {fps : List Nat} {base : Nat → Prop} {N : Nat} {s : St} {a : Act} {o : Oper}
  {next : Act → World → Prop} {Q : Exit → Act → World → Prop} {K : St → Prop}

theorem pures_eq : ∀ {xs : List AC} {ps : List PV}, puresOf xs = some ps → xs = ps.map .p
  | [], ps, h => by cases h; rfl
  | .p x :: xs, ps, h => by
    simp only [puresOf] at h
    obtain ⟨ps', h', rfl⟩ := Option.map_eq_some_iff.1 h
    rw [pures_eq h']; rfl
  | .tight _ _ :: _, _, h => by cases h
  | .own _ _ _ _ _ :: _, _, h => by cases h
  | .ptr _ _ :: _, _, h => by cases h
  | .ept _ _ _ _ :: _, _, h => by cases h
  | .rp _ :: _, _, h => by cases h
  | .fn _ _ _ :: _, _, h => by cases h
  | .hnd _ _ :: _, _, h => by cases h
  | .any :: _, _, h => by cases h

/-- Elements laid into a row, in the model. -/
theorem fillE_sound {bad : Nat → Prop} {sz : Nat} : ∀ {parts : List (Nat × Value)} {aparts : List (Nat × AV)} {ls ls' : List (List PV)} {cs : List Value},
    All2 (fun (p : Nat × AV) (q : Nat × Value) => q.1 = p.1 ∧ VRel w env bad p.2 q.2) aparts parts → cs.length = ls.length * sz → (∀ i (h : i < ls.length), ls[i].length = sz) →
    (∀ i (h : i < ls.length), ∀ j (h' : j < ls[i].length), ∃ u, cs[i * sz + j]? = some u ∧ PRel w bad ls[i][j] u) → fillE sz ls aparts = some ls' →
    ∃ cs' : List Value, Instr.fill (fun i => some (i * sz, sz)) cs.toArray parts = some cs'.toArray ∧ cs'.length = ls'.length * sz ∧ ls'.length = ls.length ∧ (∀ i (h : i < ls'.length), ls'[i].length = sz) ∧
      (∀ i (h : i < ls'.length), ∀ j (h' : j < ls'[i].length), ∃ u, cs'[i * sz + j]? = some u ∧ PRel w bad ls'[i][j] u)
  | [], [], ls, ls', cs, _, h1, h2, h3, hf => by cases hf; exact ⟨cs, rfl, h1, rfl, h2, h3⟩
  | (i, v) :: parts, (k, av) :: aparts, ls, ls', cs, hp, h1, h2, h3, hf => by
    obtain ⟨⟨hik, hv⟩, hp'⟩ := hp
    cases hik
    obtain ⟨xs, hxs, hf1⟩ := Option.bind_eq_some_iff.1 hf
    obtain ⟨ps, hps, hf2⟩ := Option.bind_eq_some_iff.1 hf1
    clear hf hf1
    obtain rfl := pures_eq hps
    split at hf2
    · rename_i hc
      obtain ⟨g2, gk2⟩ := cells_of hv hxs
      have hl2 := g2.len
      have hvs : v.cells.size = sz := by simp at hl2; omega
      have hle : (i + 1) * sz ≤ cs.length := by rw [h1]; exact Nat.mul_le_mul_right _ hc.2
      rw [Nat.succ_mul] at hle
      obtain ⟨cs', e, r1, r2, r3, r4⟩ := fillE_sound (ls := ls.set i ps) (cs := cs.take (i * sz) ++ v.cells.toList ++ cs.drop (i * sz + sz)) hp' (by simp; omega)
        (fun q hq => by
          rw [List.getElem_set]
          split
          · exact hc.1
          · exact h2 q (by simpa using hq))
        (fun q hq j hj => by
          have hq' : q < ls.length := by simpa using hq
          have e2 : (cs.take (i * sz) ++ v.cells.toList ++ cs.drop (i * sz + sz))[q * sz + j]? = if i * sz ≤ q * sz + j ∧ q * sz + j < i * sz + v.cells.toList.length then v.cells.toList[q * sz + j - i * sz]? else cs[q * sz + j]? := by
            rw [show i * sz + sz = i * sz + v.cells.toList.length by simp; omega, getElem?_splice (by simp; omega)]
          have hjs : j < sz := by
            rw [List.getElem_set] at hj
            split at hj
            · omega
            · have := h2 q hq'; omega
          by_cases hqi : i = q
          · subst hqi
            rw [if_pos ⟨by omega, by simp; omega⟩, show i * sz + j - i * sz = j by omega] at e2
            have := g2.get j (by simp; omega) (by simp; omega)
            rw [List.getElem_map] at this
            refine ⟨_, e2.trans (List.getElem?_eq_getElem (by simp; omega)), ?_⟩
            simp only [List.getElem_set_self]
            exact this
          · have hset : (ls.set i ps)[q] = ls[q] := List.getElem_set_ne hqi _
            have hj' : j < ls[q].length := by rw [← hset]; exact hj
            obtain ⟨u, u1, u2⟩ := h3 q hq' j hj'
            refine ⟨u, ?_, by simp only [hset]; exact u2⟩
            rw [e2, if_neg, u1]
            intro hx
            have hvl : v.cells.toList.length = sz := by simpa using hvs
            rcases Nat.lt_or_gt_of_ne hqi with hlt | hgt
            · have : (i + 1) * sz ≤ q * sz := Nat.mul_le_mul_right _ hlt
              rw [Nat.succ_mul] at this
              omega
            · have : (q + 1) * sz ≤ i * sz := Nat.mul_le_mul_right _ hgt
              rw [Nat.succ_mul] at this
              omega) hf2
      refine ⟨cs', ?_, r1, by simpa using r2, r3, r4⟩
      have hst := fill_step (l := cs) (off := i * sz) (sz := sz) (vs := v.cells.toList) (by simpa using hvs) (by omega)
      unfold Instr.fill
      simp only
      rw [if_neg (by simp; omega), ← e, ← hst, ← Array.foldl_toList, Array.toList_zipIdx]
    · cases hf2
  | [], _ :: _, _, _, _, h, _, _, _, _ => h.elim
  | _ :: _, [], _, _, _, h, _, _, _, _ => h.elim

/-- Elements laid into a row, in the model. -/
theorem fillX_sound {bad : Nat → Prop} {sz : Nat} : ∀ {parts : List (Nat × Value)} {aparts : List (Nat × AV)} {ls ls' : List (List AC)} {cs : List Value},
    All2 (fun (p : Nat × AV) (q : Nat × Value) => q.1 = p.1 ∧ VRel w env bad p.2 q.2) aparts parts → cs.length = ls.length * sz → (∀ i (h : i < ls.length), ls[i].length = sz) →
    (∀ i (h : i < ls.length), ∀ j (h' : j < ls[i].length), ∃ u, cs[i * sz + j]? = some u ∧ KRel w env bad ls[i][j] u) → fillX sz ls aparts = some ls' →
    ∃ cs' : List Value, Instr.fill (fun i => some (i * sz, sz)) cs.toArray parts = some cs'.toArray ∧ cs'.length = ls'.length * sz ∧ ls'.length = ls.length ∧ (∀ i (h : i < ls'.length), ls'[i].length = sz) ∧
      (∀ i (h : i < ls'.length), ∀ j (h' : j < ls'[i].length), ∃ u, cs'[i * sz + j]? = some u ∧ KRel w env bad ls'[i][j] u)
  | [], [], ls, ls', cs, _, h1, h2, h3, hf => by cases hf; exact ⟨cs, rfl, h1, rfl, h2, h3⟩
  | (i, v) :: parts, (k, av) :: aparts, ls, ls', cs, hp, h1, h2, h3, hf => by
    obtain ⟨⟨hik, hv⟩, hp'⟩ := hp
    cases hik
    obtain ⟨ps, hxs, hf2⟩ := Option.bind_eq_some_iff.1 hf
    clear hf
    split at hf2
    · rename_i hc
      obtain ⟨g2, gk2⟩ := cells_of hv hxs
      have hl2 := g2.len
      have hvs : v.cells.size = sz := by simp at hl2; omega
      have hle : (i + 1) * sz ≤ cs.length := by rw [h1]; exact Nat.mul_le_mul_right _ hc.2
      rw [Nat.succ_mul] at hle
      obtain ⟨cs', e, r1, r2, r3, r4⟩ := fillX_sound (ls := ls.set i ps) (cs := cs.take (i * sz) ++ v.cells.toList ++ cs.drop (i * sz + sz)) hp' (by simp; omega)
        (fun q hq => by
          rw [List.getElem_set]
          split
          · exact hc.1
          · exact h2 q (by simpa using hq))
        (fun q hq j hj => by
          have hq' : q < ls.length := by simpa using hq
          have e2 : (cs.take (i * sz) ++ v.cells.toList ++ cs.drop (i * sz + sz))[q * sz + j]? = if i * sz ≤ q * sz + j ∧ q * sz + j < i * sz + v.cells.toList.length then v.cells.toList[q * sz + j - i * sz]? else cs[q * sz + j]? := by
            rw [show i * sz + sz = i * sz + v.cells.toList.length by simp; omega, getElem?_splice (by simp; omega)]
          have hjs : j < sz := by
            rw [List.getElem_set] at hj
            split at hj
            · omega
            · have := h2 q hq'; omega
          by_cases hqi : i = q
          · subst hqi
            rw [if_pos ⟨by omega, by simp; omega⟩, show i * sz + j - i * sz = j by omega] at e2
            have := g2.get j (by omega) (by simp; omega)
            refine ⟨_, e2.trans (List.getElem?_eq_getElem (by simp; omega)), ?_⟩
            simp only [List.getElem_set_self]
            exact ⟨this, List.all_eq_true.1 gk2 _ (List.getElem_mem _)⟩
          · have hset : (ls.set i ps)[q] = ls[q] := List.getElem_set_ne hqi _
            have hj' : j < ls[q].length := by rw [← hset]; exact hj
            obtain ⟨u, u1, u2⟩ := h3 q hq' j hj'
            refine ⟨u, ?_, by simp only [hset]; exact u2⟩
            rw [e2, if_neg, u1]
            intro hx
            have hvl : v.cells.toList.length = sz := by simpa using hvs
            rcases Nat.lt_or_gt_of_ne hqi with hlt | hgt
            · have : (i + 1) * sz ≤ q * sz := Nat.mul_le_mul_right _ hlt
              rw [Nat.succ_mul] at this
              omega
            · have : (q + 1) * sz ≤ i * sz := Nat.mul_le_mul_right _ hgt
              rw [Nat.succ_mul] at this
              omega) hf2
      refine ⟨cs', ?_, r1, by simpa using r2, r3, r4⟩
      have hst := fill_step (l := cs) (off := i * sz) (sz := sz) (vs := v.cells.toList) (by simpa using hvs) (by omega)
      unfold Instr.fill
      simp only
      rw [if_neg (by simp; omega), ← e, ← hst, ← Array.foldl_toList, Array.toList_zipIdx]
    · cases hf2
  | [], _ :: _, _, _, _, h, _, _, _, _ => h.elim
  | _ :: _, [], _, _, _, h, _, _, _, _ => h.elim

theorem bsl_p {t e : TypeId} {n : Nat} {i : TypeInfo} {z : Value} {parts : List (Nat × Operand)} {aparts : List (Nat × AX)} (ho : o.op = .buildSlice t n parts.toArray) (ht : P.underlying t = some (.slice e)) (hi : P.info? e = some i) (hz : i.zero = some z)
    (hf : z.cells.toList.all flatv = true) (hzs : z.cells.size = i.size) (hpos : 0 < i.size) (hsmall : n * i.size ≤ 16777216) (hp : All2 (fun (q : Nat × AX) (p : Nat × Operand) => p.1 = q.1 ∧ trX p.2 = some q.2) aparts parts)
    (hd : ∀ n, o.dst = some n → n < N)
    {ls : List (List PV)} (hl : fillE i.size (List.replicate n (z.cells.toList.map .v)) (aparts.map fun (i, x) => (i, s.ev x)) = some ls) (h : K (s.putr o.dst (.c (.own s.regs.length 0 i.size n .free)) (s.regs ++ [.pc i.size ls]))) (hR : R P w0 env0 bad0 fps base N s a w) (hK : ∀ s' a' w', K s' → R P w0 env0 bad0 fps base N s' a' w' → next a' w') : o.wp P a w next Q := by
  have hn : n ≤ 16777216 := Nat.le_trans (Nat.le_mul_of_pos_right n hpos) hsmall
  refine new_done hR hd hK (v := .c (.own s.regs.length 0 i.size n .free)) (r := .pc i.size ls) (fun env hnl hsl hrs => ?_) h
  have hrel : All2 (fun (p : Nat × AV) (q : Nat × Value) => q.1 = p.1 ∧ VRel w env (badOf base env s.regs) p.2 q.2) (aparts.map fun (i, x) => (i, s.ev x)) (parts.map fun (i, x) => (i, a.eval x)) := by
    clear hl h ho
    induction aparts generalizing parts with
    | nil => cases parts with
      | nil => trivial
      | cons _ _ => exact hp.elim
    | cons q aparts ih => cases parts with
      | nil => exact hp.elim
      | cons p parts => exact ⟨⟨hp.1.1, ev_sound hsl hp.1.2⟩, ih hp.2⟩
  have hz0 : ∀ i' j, i' < n → j < i.size → ((List.range (n * i.size)).map fun q => z.cells[q % z.cells.size]!)[i' * i.size + j]? = z.cells.toList[j]? := by
    intro i' j g1 g2
    have hlt : i' * i.size + j < n * i.size := by
      have : (i' + 1) * i.size ≤ n * i.size := Nat.mul_le_mul_right _ (by omega)
      rw [Nat.succ_mul] at this
      omega
    have hmod : (i' * i.size + j) % z.cells.size = j := by rw [hzs, Nat.mul_comm, Nat.mul_add_mod, Nat.mod_eq_of_lt g2]
    rw [List.getElem?_map, List.getElem?_range hlt, Option.map_some, hmod, Array.getElem!_eq_getD, Array.getD_eq_getD_getElem?]
    have : j < z.cells.size := by omega
    simp [this]
  obtain ⟨cs', he, r1, r2, r3, r4⟩ := fillE_sound (cs := (List.range (n * i.size)).map fun q => z.cells[q % z.cells.size]!) hrel (by simp) (fun q hq => by simp [List.getElem_replicate, hzs]) (by
    intro q hq j hj
    have hq' : q < n := by simpa using hq
    have hj' : j < z.cells.toList.length := by simpa [List.getElem_replicate] using hj
    refine ⟨z.cells.toList[j], by rw [hz0 q j hq' (by simp at hj'; omega)]; exact List.getElem?_eq_getElem hj', ?_⟩
    simp only [List.getElem_replicate, List.getElem_map]
    exact .v (List.all_eq_true.1 hf _ (List.getElem_mem _))) hl
  rw [List.length_replicate] at r2
  refine ⟨.slice (some ⟨w.heap.size, 0, none⟩) n n, cs'.toArray, e, n, ?_, fun bad' hev => ?_, fun bad' => ?_⟩
  · have hrange : (Array.range (n * i.size)).map (fun q => z.cells[q % z.cells.size]!) = ((List.range (n * i.size)).map fun q => z.cells[q % z.cells.size]!).toArray := by
      apply Array.ext'
      rw [Array.toList_map, Array.toList_range]
    have hparts : (parts.toArray.map fun (x : Nat × Operand) => (x.1, a.eval x.2)).toList = parts.map fun (x : Nat × Operand) => (x.1, a.eval x.2) := by simp
    simp only [execOp, ho, Sem.run_bind, Instr.buildSlice, run_underlying ht, Result.andThen_ok, run_sizeOf' hi]
    rw [if_neg (by omega)]
    by_cases h0 : n * i.size = 0
    · have hn0 : n = 0 := by
        rcases Nat.eq_zero_or_pos n with h1 | h1
        · exact h1
        · have := Nat.mul_pos h1 hpos; omega
      subst hn0
      have hcs : cs' = [] := List.eq_nil_of_length_eq_zero (by rw [r1, r2]; simp)
      subst hcs
      have he' : Instr.fill (fun i_1 => some (i_1 * i.size, i.size)) #[] (parts.map fun (x : Nat × Operand) => (x.1, a.eval x.2)) = some #[] := by simpa using he
      simp [he', newRow, show Array.range 0 = #[] from rfl]
    · simp only [h0, if_false, Sem.run_bind, run_zero hi hz, Result.andThen_ok, Sem.run_pure]
      rw [hrange, hparts]
      simp only [he]
      simp [newRow]
  · refine ⟨hpos, r3, .inr ⟨w.heap.size, n, _, e, Env.push_at _ _, heap_alloc_new w _, by simp [r1, r2], by omega, by omega, fun q hq j hj => ?_⟩⟩
    obtain ⟨u, u1, u2⟩ := r4 q hq j hj
    exact ⟨u, by simpa using u1, u2.ev hev⟩
  · exact .c ⟨by simp [Env.push, hnl], .inr ⟨w.heap.size, n, n, by rw [← hnl, Env.push_at], by simp, by omega, .inr (.inr ⟨rfl, rfl, rfl⟩)⟩⟩

theorem bsl_x {t e : TypeId} {n : Nat} {i : TypeInfo} {z : Value} {parts : List (Nat × Operand)} {aparts : List (Nat × AX)} (ho : o.op = .buildSlice t n parts.toArray) (ht : P.underlying t = some (.slice e)) (hi : P.info? e = some i) (hz : i.zero = some z)
    (hf : z.cells.toList.all flatv = true) (hzs : z.cells.size = i.size) (hpos : 0 < i.size) (hsmall : n * i.size ≤ 16777216) (hp : All2 (fun (q : Nat × AX) (p : Nat × Operand) => p.1 = q.1 ∧ trX p.2 = some q.2) aparts parts)
    (hd : ∀ n, o.dst = some n → n < N)
    {ls : List (List AC)} (hl : fillX i.size (upL (List.replicate n (z.cells.toList.map .v))) (aparts.map fun (i, x) => (i, s.ev x)) = some ls) (h : K (s.putr o.dst (.c (.own s.regs.length 0 i.size n .free)) (s.regs ++ [.es i.size ls]))) (hR : R P w0 env0 bad0 fps base N s a w) (hK : ∀ s' a' w', K s' → R P w0 env0 bad0 fps base N s' a' w' → next a' w') : o.wp P a w next Q := by
  have hn : n ≤ 16777216 := Nat.le_trans (Nat.le_mul_of_pos_right n hpos) hsmall
  refine new_done hR hd hK (v := .c (.own s.regs.length 0 i.size n .free)) (r := .es i.size ls) (fun env hnl hsl hrs => ?_) h
  have hrel : All2 (fun (p : Nat × AV) (q : Nat × Value) => q.1 = p.1 ∧ VRel w env (badOf base env s.regs) p.2 q.2) (aparts.map fun (i, x) => (i, s.ev x)) (parts.map fun (i, x) => (i, a.eval x)) := by
    clear hl h ho
    induction aparts generalizing parts with
    | nil => cases parts with
      | nil => trivial
      | cons _ _ => exact hp.elim
    | cons q aparts ih => cases parts with
      | nil => exact hp.elim
      | cons p parts => exact ⟨⟨hp.1.1, ev_sound hsl hp.1.2⟩, ih hp.2⟩
  have hz0 : ∀ i' j, i' < n → j < i.size → ((List.range (n * i.size)).map fun q => z.cells[q % z.cells.size]!)[i' * i.size + j]? = z.cells.toList[j]? := by
    intro i' j g1 g2
    have hlt : i' * i.size + j < n * i.size := by
      have : (i' + 1) * i.size ≤ n * i.size := Nat.mul_le_mul_right _ (by omega)
      rw [Nat.succ_mul] at this
      omega
    have hmod : (i' * i.size + j) % z.cells.size = j := by rw [hzs, Nat.mul_comm, Nat.mul_add_mod, Nat.mod_eq_of_lt g2]
    rw [List.getElem?_map, List.getElem?_range hlt, Option.map_some, hmod, Array.getElem!_eq_getD, Array.getD_eq_getD_getElem?]
    have : j < z.cells.size := by omega
    simp [this]
  obtain ⟨cs', he, r1, r2, r3, r4⟩ := fillX_sound (cs := (List.range (n * i.size)).map fun q => z.cells[q % z.cells.size]!) hrel (by rw [upL_len]; simp) (upL_sz fun q hq => by simp [List.getElem_replicate, hzs]) (upL_rel (f := fun q j => ((List.range (n * i.size)).map fun q => z.cells[q % z.cells.size]!)[q * i.size + j]?) (by
    intro q hq j hj
    have hq' : q < n := by simpa using hq
    have hj' : j < z.cells.toList.length := by simpa [List.getElem_replicate] using hj
    refine ⟨z.cells.toList[j], by rw [hz0 q j hq' (by simp at hj'; omega)]; exact List.getElem?_eq_getElem hj', ?_⟩
    simp only [List.getElem_replicate, List.getElem_map]
    exact .v (List.all_eq_true.1 hf _ (List.getElem_mem _)))) hl
  rw [upL_len, List.length_replicate] at r2
  refine ⟨.slice (some ⟨w.heap.size, 0, none⟩) n n, cs'.toArray, e, n, ?_, fun bad' hev => ?_, fun bad' => ?_⟩
  · have hrange : (Array.range (n * i.size)).map (fun q => z.cells[q % z.cells.size]!) = ((List.range (n * i.size)).map fun q => z.cells[q % z.cells.size]!).toArray := by
      apply Array.ext'
      rw [Array.toList_map, Array.toList_range]
    have hparts : (parts.toArray.map fun (x : Nat × Operand) => (x.1, a.eval x.2)).toList = parts.map fun (x : Nat × Operand) => (x.1, a.eval x.2) := by simp
    simp only [execOp, ho, Sem.run_bind, Instr.buildSlice, run_underlying ht, Result.andThen_ok, run_sizeOf' hi]
    rw [if_neg (by omega)]
    by_cases h0 : n * i.size = 0
    · have hn0 : n = 0 := by
        rcases Nat.eq_zero_or_pos n with h1 | h1
        · exact h1
        · have := Nat.mul_pos h1 hpos; omega
      subst hn0
      have hcs : cs' = [] := List.eq_nil_of_length_eq_zero (by rw [r1, r2]; simp)
      subst hcs
      have he' : Instr.fill (fun i_1 => some (i_1 * i.size, i.size)) #[] (parts.map fun (x : Nat × Operand) => (x.1, a.eval x.2)) = some #[] := by simpa using he
      simp [he', newRow, show Array.range 0 = #[] from rfl]
    · simp only [h0, if_false, Sem.run_bind, run_zero hi hz, Result.andThen_ok, Sem.run_pure]
      rw [hrange, hparts]
      simp only [he]
      simp [newRow]
  · refine ⟨hpos, r3, .inr ⟨w.heap.size, n, _, e, Env.push_at _ _, heap_alloc_new w _, by simp [r1, r2], by omega, by omega, fun q hq j hj => ?_⟩⟩
    obtain ⟨u, u1, u2⟩ := r4 q hq j hj
    exact ⟨u, by simpa using u1, KRel.ev hev u2⟩
  · exact .c ⟨by simp [Env.push, hnl], .inr ⟨w.heap.size, n, n, by rw [← hnl, Env.push_at], by simp, by omega, .inr (.inr ⟨rfl, rfl, rfl⟩)⟩⟩

theorem sound_bsl {t e : TypeId} {n : Nat} {i : TypeInfo} {z : Value} {parts : List (Nat × Operand)} {aparts : List (Nat × AX)} (ho : o.op = .buildSlice t n parts.toArray) (ht : P.underlying t = some (.slice e)) (hi : P.info? e = some i) (hz : i.zero = some z)
    (hf : z.cells.toList.all flatv = true) (hzs : z.cells.size = i.size) (hpos : 0 < i.size) (hsmall : n * i.size ≤ 16777216) (hp : All2 (fun (q : Nat × AX) (p : Nat × Operand) => p.1 = q.1 ∧ trX p.2 = some q.2) aparts parts)
    (hd : ∀ n, o.dst = some n → n < N)
    (h : opW P (.bsl o.dst i.size n z.cells.toList aparts) s K) (hR : R P w0 env0 bad0 fps base N s a w) (hK : ∀ s' a' w', K s' → R P w0 env0 bad0 fps base N s' a' w' → next a' w') : o.wp P a w next Q := by
  simp only [opW] at h
  split at h
  · rename_i ls hl
    exact bsl_p ho ht hi hz hf hzs hpos hsmall hp hd hl h hR hK
  · split at h
    · rename_i ls hl
      exact bsl_x ho ht hi hz hf hzs hpos hsmall hp hd hl h hR hK
    · exact h.elim

end
end Go.Sim
