/- The model's operations that read, write and make memory, over the plain picture. Of no program. -/
import Derived.Test.YtahoelmjfgoedaaGreatSimE
namespace Go.Sim
open Go.RowKit Go.Proofs.YtahoelmjfgoedaaGreat.B

section
variable {P : Program} {w0 w w' : World} {env0 env : Env} {bad0 : Bs} {fps : List Nat} {base : Nat → Prop} {N : Nat} {s : St} {a : Act} {o : Oper}
  {next : Act → World → Prop} {nx : Act → Prop} {Q : Exit → Act → World → Prop} {K : St → Prop}

theorem all2_of_cells {bad : Nat → Prop} {cur : List Value} {l : List AC} {off n : Nat} (h : ∀ j, j < n → ∃ x u, l[off + j]? = some x ∧ cur[off + j]? = some u ∧ CRel w env bad x u) (h1 : off + n ≤ l.length) (h2 : off + n ≤ cur.length) :
    All2 (CRel w env bad) ((l.drop off).take n) ((cur.drop off).take n) := by
  refine All2.of_get (by simp; omega) fun i hi hi' => ?_
  have hin : i < n := by simp at hi; omega
  obtain ⟨x, u, e1, e2, h⟩ := h i hin
  rw [List.getElem_take, List.getElem_take, List.getElem_drop, List.getElem_drop]
  rw [List.getElem?_eq_getElem (by omega)] at e1 e2
  rw [Option.some.inj e1, Option.some.inj e2]
  exact h

/-- A pointer's cells, read as one value. -/
theorem load_run {t : TypeId} {x : Operand} {d : TypeDesc} {i : TypeInfo} {ad : Addr} {vs : List Value} {u : Value} (ho : o.op = .load t x) (ht : P.underlying t = some d) (hi : P.info? t = some i) 
    (e : a.eval x = .pointer (some ad)) (hl : vs.length = i.size) (hc : ∀ j v, vs[j]? = some v → w.cell? (ad.add j) = some v) (h1 : aggD d = true → u = .agg vs.toArray) (h0 : aggD d = false → vs = [u]) :
    (execOp a.eval o).run P w = .ok (.value u) w := by
  cases hag : aggD d with
  | true =>
    have hr := run_loadCells_list (P := P) (w := w) ad vs hc
    rw [hl] at hr
    simp [execOp, ho, e, Instr.loadAt, Instr.sureAddr, loadVar, run_isAgg' ht, hag, run_sizeOf' hi, hr, h1 hag]
  | false =>
    have h0' := h0 hag
    have hc0 := hc 0 u (by rw [h0']; rfl)
    have hadd : ad.add 0 = ad := by unfold Addr.add; simp
    rw [hadd] at hc0
    simp [execOp, ho, e, Instr.loadAt, Instr.sureAddr, loadVar, run_isAgg' ht, hag, hc0]

theorem sound_load {t : TypeId} {d : TypeDesc} {i : TypeInfo} {x : Operand} {ax : AX} (ho : o.op = .load t x) (ht : P.underlying t = some d) (hi : P.info? t = some i)
    (hx : trX x = some ax) (hd : ∀ n, o.dst = some n → n < N)
    (h : opW P (.load o.dst i.size (aggD d) ax) s K) (hR : R P w0 env0 bad0 fps base N s a w) (hK : ∀ s' a', K s' → R P w0 env0 bad0 fps base N s' a' w → nx a') : o.pureWp P a w nx := by
  simp only [opW] at h
  split at h
  · rename_i id off hb
    split at h
    · rename_i l hl
      obtain ⟨v, hlen, hp, h⟩ := h
      refine val_done hR hd hK (fun env hsl hrs => ?_) h
      have e := ev_sound hsl hx
      rw [hb] at e
      obtain ⟨_, g, c, he, e⟩ := c_of e
      obtain ⟨g', c', cur, ty, he', hg, hsz, hcell⟩ := hrs.reg id _ hl
      rw [he] at he'
      cases he'
      have hcl : l.length = cur.toList.length := by simpa using hsz
      have hall : All2 (CRel w env (badOf base env s.regs)) ((l.drop off).take i.size) ((cur.toList.drop off).take i.size) :=
        all2_of_cells (fun j hj => by
          obtain ⟨u, h1, h2, _⟩ := hcell (off + j) (by omega)
          exact ⟨_, u, List.getElem?_eq_getElem (by omega), by simpa using h1, h2⟩) hlen (by omega)
      obtain ⟨u, hv, h1, h0⟩ := pack_sound hall hp
      refine ⟨u, load_run ho ht hi e (by simp; omega) (fun j v hj => ?_) h1 h0, hv⟩
      rw [add_lit]
      rw [List.getElem?_take] at hj
      split at hj
      · rw [List.getElem?_drop] at hj
        simp [World.cell?, hg]
        simpa using hj
      · cases hj
    · exact h.elim
  · rename_i id sz i' j hb
    split at h
    · rename_i sz' ls hl
      obtain ⟨rfl, c, v, hc, hlen, hp, h⟩ := h
      refine val_done hR hd hK (fun env hsl hrs => ?_) h
      have e := ev_sound hsl hx
      rw [hb] at e
      obtain ⟨_, g, cc, he, e⟩ := c_of e
      obtain ⟨hz, hs, hrr⟩ := hrs.reg id _ hl
      obtain ⟨hi', rfl⟩ := List.getElem?_eq_some_iff.1 hc
      rcases hrr with ⟨he', _⟩ | ⟨g', c', cur, ty, he', hg, hsz, _, hcl, hcell⟩
      · rw [he] at he'; cases he'
      rw [he] at he'
      cases he'
      have hsi := hs i' hi'
      have hle : (i' + 1) * sz ≤ cur.size := by rw [hsz]; exact Nat.mul_le_mul_right _ (by omega)
      rw [Nat.succ_mul] at hle
      have hall : All2 (CRel w env (badOf base env s.regs)) (((ls[i'].drop j).take i.size).map AC.p) ((cur.toList.drop (i' * sz + j)).take i.size) := by
        refine All2.of_get (by simp; omega) fun q hq hq' => ?_
        have hqn : q < i.size := by simp at hq; omega
        obtain ⟨u, h1, h2⟩ := hcell i' hi' (j + q) (by omega)
        rw [List.getElem_map, List.getElem_take, List.getElem_drop, List.getElem_take, List.getElem_drop]
        have h1' : cur.toList[i' * sz + j + q]? = some u := by simpa [Nat.add_assoc] using h1
        rw [List.getElem?_eq_getElem (by simp; omega)] at h1'
        rw [Option.some.inj h1']
        exact h2
      obtain ⟨u, hv, h1, h0⟩ := pack_sound hall hp
      refine ⟨u, load_run ho ht hi e (by simp; omega) (fun q v hj => ?_) h1 h0, hv⟩
      rw [add_lit]
      rw [List.getElem?_take] at hj
      split at hj
      · rw [List.getElem?_drop] at hj
        simp [World.cell?, hg]
        simpa using hj
      · cases hj
    · rename_i sz' ls hl
      obtain ⟨rfl, c, v, hc, hlen, hp, h⟩ := h
      refine val_done hR hd hK (fun env hsl hrs => ?_) h
      have e := ev_sound hsl hx
      rw [hb] at e
      obtain ⟨_, g, cc, he, e⟩ := c_of e
      obtain ⟨hz, hs, hrr⟩ := hrs.reg id _ hl
      obtain ⟨hi', rfl⟩ := List.getElem?_eq_some_iff.1 hc
      rcases hrr with ⟨he', _⟩ | ⟨g', c', cur, ty, he', hg, hsz, _, hcl, hcell⟩
      · rw [he] at he'; cases he'
      rw [he] at he'
      cases he'
      have hsi := hs i' hi'
      have hle : (i' + 1) * sz ≤ cur.size := by rw [hsz]; exact Nat.mul_le_mul_right _ (by omega)
      rw [Nat.succ_mul] at hle
      have hall : All2 (CRel w env (badOf base env s.regs)) ((ls[i'].drop j).take i.size) ((cur.toList.drop (i' * sz + j)).take i.size) := by
        refine All2.of_get (by simp; omega) fun q hq hq' => ?_
        have hqn : q < i.size := by simp at hq; omega
        obtain ⟨u, h1, h2, _⟩ := hcell i' hi' (j + q) (by omega)
        rw [List.getElem_take, List.getElem_drop, List.getElem_take, List.getElem_drop]
        have h1' : cur.toList[i' * sz + j + q]? = some u := by simpa [Nat.add_assoc] using h1
        rw [List.getElem?_eq_getElem (by simp; omega)] at h1'
        rw [Option.some.inj h1']
        exact h2
      obtain ⟨u, hv, h1, h0⟩ := pack_sound hall hp
      refine ⟨u, load_run ho ht hi e (by simp; omega) (fun q v hj => ?_) h1 h0, hv⟩
      rw [add_lit]
      rw [List.getElem?_take] at hj
      split at hj
      · rw [List.getElem?_drop] at hj
        simp [World.cell?, hg]
        simpa using hj
      · cases hj
    · exact h.elim
  · rename_i l hb
    obtain ⟨v, hlen, hp, h⟩ := h
    refine val_done hR hd hK (fun env hsl hrs => ?_) h
    have e := ev_sound hsl hx
    rw [hb] at e
    obtain ⟨ad, e, _, _, U, hU⟩ := c_of e
    have hall : All2 (CRel w env (badOf base env s.regs)) ((l.take i.size).map AC.p) ((List.range i.size).map U) := by
      refine All2.of_get (by simp; omega) fun q hq hq' => ?_
      have hqn : q < i.size := by simp at hq; omega
      rw [List.getElem_map, List.getElem_take, List.getElem_map, List.getElem_range]
      exact (hU q (by omega)).2
    obtain ⟨u, hv, h1, h0⟩ := pack_sound hall hp
    refine ⟨u, load_run ho ht hi e (by simp) (fun q v hj => ?_) h1 h0, hv⟩
    rw [List.getElem?_map] at hj
    obtain ⟨q', hq', rfl⟩ := Option.map_eq_some_iff.1 hj
    obtain ⟨hql, rfl⟩ := List.getElem?_eq_some_iff.1 hq'
    rw [List.getElem_range]
    exact (hU q (by simp at hql; omega)).1
  · exact h.elim

theorem cells_of {bad : Nat → Prop} {v : AV} {u : Value} {l : List AC} (h : VRel w env bad v u) (hv : cellsOf v = some l) : All2 (CRel w env bad) l u.cells.toList ∧ l.all AC.known = true := by
  cases h with
  | @c y _ h =>
    have hv' : (if y.known then some [y] else none) = some l := hv
    by_cases hk : y.known = true
    · rw [if_pos hk] at hv'
      cases hv'
      have h1 := CRel.one hk h
      have : u.cells = #[u] := by cases u <;> simp_all [Value.cells, Value.oneCell']
      rw [this]
      exact ⟨⟨h, trivial⟩, by simp [hk]⟩
    · rw [if_neg hk] at hv'
      cases hv'
  | agg h hk => cases hv; exact ⟨h, hk⟩
  | tup => cases hv

theorem all2_one {bad : Nat → Prop} {l : List AC} {vs : List Value} (h : All2 (CRel w env bad) l vs) (hk : l.all AC.known = true) : ∀ v ∈ vs, v.oneCell' = true := by
  intro v hv
  obtain ⟨i, hi, rfl⟩ := List.getElem_of_mem hv
  have hl := h.len
  refine CRel.one (x := l[i]'(by omega)) ?_ (h.get i (by omega) hi)
  exact List.all_eq_true.1 hk _ (List.getElem_mem _)

/-- The place where a store writes. -/
theorem store_run {t : TypeId} {x y : Operand} {i : TypeInfo} {g off : Nat} {ty : TypeId} {cur : Array Value} {v : Value} (ho : o.op = .store t x y) (hi : P.info? t = some i) (e : a.eval x = .pointer (some ⟨g, off, none⟩)) (ev : a.eval y = v)
    (hg : w.heap[g]? = some (.cells cur ty (0, 0))) (hl : v.cells.toList.length = i.size) (hb : off + i.size ≤ cur.size) (h1 : ∀ u ∈ v.cells.toList, u.oneCell' = true) :
    (execOp a.eval o).run P w = .ok .skip (w.setRow g (cur.toList.take off ++ v.cells.toList ++ cur.toList.drop (off + i.size)).toArray) := by
  have hs := run_storeCells_at (P := P) g off ty v.cells.toList 0 cur w hg (by simp at hl ⊢; omega) h1
  simp only [Nat.add_zero] at hs
  have hl' : v.cells.size = i.size := by simpa using hl
  rw [hl] at hs
  simp [execOp, ho, e, ev, Instr.storeAt, Instr.sureAddr, storeVar, run_sizeOf' hi, hl', hs]

theorem getElem?_splice {α : Type} {l xs : List α} {off j : Nat} (h : off + xs.length ≤ l.length) :
    (l.take off ++ xs ++ l.drop (off + xs.length))[j]? = if off ≤ j ∧ j < off + xs.length then xs[j - off]? else l[j]? := by
  by_cases h1 : j < off
  · rw [if_neg (by omega), List.append_assoc, List.getElem?_append_left (by simp; omega), List.getElem?_take_of_lt h1]
  · by_cases h2 : j < off + xs.length
    · rw [if_pos ⟨by omega, h2⟩, List.append_assoc, List.getElem?_append_right (by simp; omega), List.getElem?_append_left (by simp; omega)]
      congr 1
      simp
      omega
    · rw [if_neg (by omega), List.getElem?_append_right (by simp; omega), List.getElem?_drop]
      congr 1
      simp
      omega

theorem store_es {t : TypeId} {i : TypeInfo} {x y : Operand} {ax ay : AX} (ho : o.op = .store t x y) (hi : P.info? t = some i) (hx : trX x = some ax) (hy : trX y = some ay) (hdn : o.dst = none) {id sz i' j : Nat} {xs : List AC} {r : Reg} {ls : List (List AC)}
    (hb : s.ev ax = .c (.ept id sz i' j)) (hxs : cellsOf (s.ev ay) = some xs) (hl : s.regs[id]? = some r) (hes : esOf r = some (sz, ls))
    (h : storeE i.size sz i' j xs ls fun l => K ⟨s.slots, s.regs.set id (.es sz l)⟩) (hR : R P w0 env0 bad0 fps base N s a w) (hK : ∀ s' a' w', K s' → R P w0 env0 bad0 fps base N s' a' w' → next a' w') : o.wp P a w next Q := by
  obtain ⟨⟨env, hrs, hsl, hev⟩, hsz, hdf⟩ := hR
  have hput : ∀ u, a.put o.dst u = a := fun u => by rw [hdn]; rfl
  obtain ⟨c, hc, hpn, hjn, h⟩ := h
  obtain ⟨_, g, cc, he, e⟩ := c_of (hb ▸ ev_sound hsl hx)
  obtain ⟨hz, hs, hrr⟩ := (hrs.reg id _ hl).toEs hes
  obtain ⟨hi', rfl⟩ := List.getElem?_eq_some_iff.1 hc
  rcases hrr with ⟨he', _⟩ | ⟨g', c', cur, ty, he', hg, hcs, hcm, hcl, hcell⟩
  · rw [he] at he'; cases he'
  rw [he] at he'
  cases he'
  obtain ⟨h2, hk⟩ := cells_of (ev_sound hsl hy) hxs
  have hlen := h2.len
  have hsi := hs i' hi'
  have hle : (i' + 1) * sz ≤ cur.size := by rw [hcs]; exact Nat.mul_le_mul_right _ (by omega)
  rw [Nat.succ_mul] at hle
  have hrun := store_run ho hi e rfl hg (by omega) (by omega) (all2_one h2 hk)
  have hvn : (a.eval y).cells.toList.length = i.size := by omega
  have hnew : (ls[i'].take j ++ xs ++ ls[i'].drop (j + i.size)).length = sz := by simp; omega
  obtain ⟨hrs', hev'⟩ := hrs.write (r' := .es sz (ls.set i' (ls[i'].take j ++ xs ++ ls[i'].drop (j + i.size)))) hl (esOf_live hes) he (cs := (cur.toList.take (i' * sz + j) ++ (a.eval y).cells.toList ++ cur.toList.drop (i' * sz + j + i.size)).toArray) rfl (fun hev' => by
    refine ⟨hz, fun q hq => ?_, .inr ⟨g, cc, _, ty, he, setRow_heap w g cur _ ty _ hg, by simp at hvn ⊢; omega, hcm, by simpa using hcl, fun q hq r hr => ?_⟩⟩
    · rw [List.getElem_set]
      split
      · exact hnew
      · exact hs q (by simpa using hq)
    · have hq' : q < ls.length := by simpa using hq
      have e2 : (cur.toList.take (i' * sz + j) ++ (a.eval y).cells.toList ++ cur.toList.drop (i' * sz + j + i.size)).toArray[q * sz + r]? =
          if i' * sz + j ≤ q * sz + r ∧ q * sz + r < i' * sz + j + (a.eval y).cells.toList.length then (a.eval y).cells.toList[q * sz + r - (i' * sz + j)]? else cur.toList[q * sz + r]? := by
        rw [List.getElem?_toArray, show i' * sz + j + i.size = i' * sz + j + (a.eval y).cells.toList.length by omega, getElem?_splice (by simp at hvn ⊢; omega)]
      have hrsz : r < sz := by
        rw [List.getElem_set] at hr
        split at hr
        · omega
        · have := hs q hq'; omega
      by_cases hqi : i' = q
      · subst hqi
        have e1 : ((ls.set i' (ls[i'].take j ++ xs ++ ls[i'].drop (j + i.size)))[i'])[r]? = some (((ls.set i' (ls[i'].take j ++ xs ++ ls[i'].drop (j + i.size)))[i'])[r]) := List.getElem?_eq_getElem hr
        generalize ((ls.set i' (ls[i'].take j ++ xs ++ ls[i'].drop (j + i.size)))[i'])[r] = z at e1 ⊢
        rw [List.getElem_set_self, show j + i.size = j + xs.length by omega, getElem?_splice (by omega)] at e1
        by_cases hin : j ≤ r ∧ r < j + xs.length
        · rw [if_pos hin] at e1
          obtain ⟨hr1, rfl⟩ := List.getElem?_eq_some_iff.1 e1
          rw [if_pos (by omega), show i' * sz + r - (i' * sz + j) = r - j by omega] at e2
          have := h2.get (r - j) (by simpa using hr1) (by omega)
          exact ⟨_, e2.trans (List.getElem?_eq_getElem (by omega)), CRel.ev hev' this, List.all_eq_true.1 hk _ (List.getElem_mem _)⟩
        · rw [if_neg hin] at e1
          obtain ⟨hr1, rfl⟩ := List.getElem?_eq_some_iff.1 e1
          rw [if_neg (by omega)] at e2
          obtain ⟨u, u1, u2⟩ := hcell i' hq' r hr1
          exact ⟨u, e2.trans (by simpa using u1), KRel.ev hev' u2⟩
      · have hset : (ls.set i' (ls[i'].take j ++ xs ++ ls[i'].drop (j + i.size)))[q] = ls[q] := List.getElem_set_ne hqi _
        have e1 : ((ls.set i' (ls[i'].take j ++ xs ++ ls[i'].drop (j + i.size)))[q])[r]? = some (((ls.set i' (ls[i'].take j ++ xs ++ ls[i'].drop (j + i.size)))[q])[r]) := List.getElem?_eq_getElem hr
        generalize ((ls.set i' (ls[i'].take j ++ xs ++ ls[i'].drop (j + i.size)))[q])[r] = z at e1 ⊢
        rw [hset] at e1
        obtain ⟨hr1, rfl⟩ := List.getElem?_eq_some_iff.1 e1
        obtain ⟨u, u1, u2⟩ := hcell q hq' r hr1
        refine ⟨u, ?_, KRel.ev hev' u2⟩
        rw [e2, if_neg, ← u1]
        · simp
        · intro hx
          rcases Nat.lt_or_gt_of_ne hqi with hlt | hgt
          · have : (i' + 1) * sz ≤ q * sz := Nat.mul_le_mul_right _ hlt
            rw [Nat.succ_mul] at this
            omega
          · have : (q + 1) * sz ≤ i' * sz := Nat.mul_le_mul_right _ hgt
            rw [Nat.succ_mul] at this
            omega)
  refine upon_skp hrun ?_
  rw [hput]
  exact hK _ _ _ h ⟨⟨env, hrs', fun n => (hsl n).ev hev', hev.trans hev'⟩, hsz, hdf⟩

theorem sound_store {t : TypeId} {i : TypeInfo} {x y : Operand} {ax ay : AX} (ho : o.op = .store t x y) (hi : P.info? t = some i)
    (hx : trX x = some ax) (hy : trX y = some ay) (hdn : o.dst = none)
    (h : opW P (.store i.size ax ay) s K) (hR : R P w0 env0 bad0 fps base N s a w) (hK : ∀ s' a' w', K s' → R P w0 env0 bad0 fps base N s' a' w' → next a' w') : o.wp P a w next Q := by
  have hR0 := hR
  obtain ⟨⟨env, hrs, hsl, hev⟩, hsz, hdf⟩ := hR
  have hput : ∀ u, a.put o.dst u = a := fun u => by rw [hdn]; rfl
  simp only [opW] at h
  split at h
  · rename_i id off xs hb hxs
    split at h
    · rename_i l hl
      obtain ⟨hn, hle, h⟩ := h
      obtain ⟨_, g, c, he, e⟩ := c_of (hb ▸ ev_sound hsl hx)
      obtain ⟨g', c', cur, ty, he', hg, hlc, hcell⟩ := hrs.reg id _ hl
      rw [he] at he'
      cases he'
      obtain ⟨h2, hk⟩ := cells_of (ev_sound hsl hy) hxs
      have hlen := h2.len
      have hrun := store_run ho hi e rfl hg (by omega) (by omega) (all2_one h2 hk)
      have hvn : (a.eval y).cells.toList.length = i.size := by omega
      have hvs : (a.eval y).cells.size = i.size := by simpa using hvn
      obtain ⟨hrs', hev'⟩ := hrs.write (r' := .ac (l.take off ++ xs ++ l.drop (off + i.size))) hl rfl he (cs := (cur.toList.take off ++ (a.eval y).cells.toList ++ cur.toList.drop (off + i.size)).toArray) rfl (fun hev' => by
        refine ⟨g, c, _, ty, he, setRow_heap w g cur _ ty _ hg, by simp; omega, fun j hj => ?_⟩
        have hjl : j < l.length := by simp at hj; omega
        have e1 : (l.take off ++ xs ++ l.drop (off + i.size))[j]? = some ((l.take off ++ xs ++ l.drop (off + i.size))[j]) := List.getElem?_eq_getElem hj
        generalize (l.take off ++ xs ++ l.drop (off + i.size))[j] = z at e1 ⊢
        rw [show off + i.size = off + xs.length by omega, getElem?_splice (by omega)] at e1
        have e2 : (cur.toList.take off ++ (a.eval y).cells.toList ++ cur.toList.drop (off + i.size)).toArray[j]? = if off ≤ j ∧ j < off + (a.eval y).cells.toList.length then (a.eval y).cells.toList[j - off]? else cur.toList[j]? := by
          rw [List.getElem?_toArray, show off + i.size = off + (a.eval y).cells.toList.length by omega, getElem?_splice (by simp at hvn ⊢; omega)]
        by_cases hin : off ≤ j ∧ j < off + xs.length
        · rw [if_pos hin] at e1
          obtain ⟨hj1, rfl⟩ := List.getElem?_eq_some_iff.1 e1
          rw [if_pos (by omega)] at e2
          exact ⟨_, e2.trans (List.getElem?_eq_getElem (by omega)), (h2.get (j - off) hj1 (by omega)).ev hev', List.all_eq_true.1 hk _ (List.getElem_mem _)⟩
        · rw [if_neg hin] at e1
          obtain ⟨hj1, rfl⟩ := List.getElem?_eq_some_iff.1 e1
          rw [if_neg (by omega)] at e2
          obtain ⟨u, u1, u2, u3⟩ := hcell j hjl
          exact ⟨u, e2.trans (by simpa using u1), u2.ev hev', u3⟩)
      refine upon_skp hrun ?_
      rw [hput]
      exact hK _ _ _ h ⟨⟨env, hrs', fun n => (hsl n).ev hev', hev.trans hev'⟩, hsz, hdf⟩
    · exact h.elim
  · rename_i id sz i' j xs hb hxs
    split at h
    · rename_i sz' ls hl
      obtain ⟨rfl, h⟩ := h
      rcases h with h | h
      rotate_left
      · exact store_es ho hi hx hy hdn hb hxs hl rfl h hR0 hK
      obtain ⟨c, ps, hc, hps, hpn, hjn, h⟩ := h
      obtain ⟨_, g, cc, he, e⟩ := c_of (hb ▸ ev_sound hsl hx)
      obtain ⟨hz, hs, hrr⟩ := hrs.reg id _ hl
      obtain ⟨hi', rfl⟩ := List.getElem?_eq_some_iff.1 hc
      rcases hrr with ⟨he', _⟩ | ⟨g', c', cur, ty, he', hg, hcs, hcm, hcl, hcell⟩
      · rw [he] at he'; cases he'
      rw [he] at he'
      cases he'
      obtain ⟨h2, hk⟩ := cells_of (ev_sound hsl hy) hxs
      have hxp : ∀ {xs : List AC} {ps : List PV}, puresOf xs = some ps → xs = ps.map .p := by
        intro xs
        induction xs with
        | nil => intro ps h; cases h; rfl
        | cons x xs ih =>
          intro ps h
          cases x with
          | p x =>
            simp only [puresOf] at h
            obtain ⟨ps', h', rfl⟩ := Option.map_eq_some_iff.1 h
            rw [ih h']; rfl
          | _ => cases h
      have hxe := hxp hps
      subst hxe
      have hlen := h2.len
      rw [List.length_map] at hlen
      have hsi := hs i' hi'
      have hle : (i' + 1) * sz ≤ cur.size := by rw [hcs]; exact Nat.mul_le_mul_right _ (by omega)
      rw [Nat.succ_mul] at hle
      have hrun := store_run ho hi e rfl hg (by omega) (by omega) (all2_one h2 hk)
      have hvn : (a.eval y).cells.toList.length = i.size := by omega
      have hnew : (ls[i'].take j ++ ps ++ ls[i'].drop (j + i.size)).length = sz := by simp; omega
      obtain ⟨hrs', hev'⟩ := hrs.write (r' := .pc sz (ls.set i' (ls[i'].take j ++ ps ++ ls[i'].drop (j + i.size)))) hl rfl he (cs := (cur.toList.take (i' * sz + j) ++ (a.eval y).cells.toList ++ cur.toList.drop (i' * sz + j + i.size)).toArray) rfl (fun hev' => by
        refine ⟨hz, fun q hq => ?_, .inr ⟨g, cc, _, ty, he, setRow_heap w g cur _ ty _ hg, by simp at hvn ⊢; omega, hcm, by simpa using hcl, fun q hq r hr => ?_⟩⟩
        · rw [List.getElem_set]
          split
          · exact hnew
          · exact hs q (by simpa using hq)
        · have hq' : q < ls.length := by simpa using hq
          have e2 : (cur.toList.take (i' * sz + j) ++ (a.eval y).cells.toList ++ cur.toList.drop (i' * sz + j + i.size)).toArray[q * sz + r]? =
              if i' * sz + j ≤ q * sz + r ∧ q * sz + r < i' * sz + j + (a.eval y).cells.toList.length then (a.eval y).cells.toList[q * sz + r - (i' * sz + j)]? else cur.toList[q * sz + r]? := by
            rw [List.getElem?_toArray, show i' * sz + j + i.size = i' * sz + j + (a.eval y).cells.toList.length by omega, getElem?_splice (by simp at hvn ⊢; omega)]
          have hrsz : r < sz := by
            rw [List.getElem_set] at hr
            split at hr
            · omega
            · have := hs q hq'; omega
          by_cases hqi : i' = q
          · subst hqi
            have e1 : ((ls.set i' (ls[i'].take j ++ ps ++ ls[i'].drop (j + i.size)))[i'])[r]? = some (((ls.set i' (ls[i'].take j ++ ps ++ ls[i'].drop (j + i.size)))[i'])[r]) := List.getElem?_eq_getElem hr
            generalize ((ls.set i' (ls[i'].take j ++ ps ++ ls[i'].drop (j + i.size)))[i'])[r] = z at e1 ⊢
            rw [List.getElem_set_self, show j + i.size = j + ps.length by omega, getElem?_splice (by omega)] at e1
            by_cases hin : j ≤ r ∧ r < j + ps.length
            · rw [if_pos hin] at e1
              obtain ⟨hr1, rfl⟩ := List.getElem?_eq_some_iff.1 e1
              rw [if_pos (by omega), show i' * sz + r - (i' * sz + j) = r - j by omega] at e2
              have := h2.get (r - j) (by simpa using hr1) (by omega)
              rw [List.getElem_map] at this
              exact ⟨_, e2.trans (List.getElem?_eq_getElem (by omega)), PRel.ev hev' this⟩
            · rw [if_neg hin] at e1
              obtain ⟨hr1, rfl⟩ := List.getElem?_eq_some_iff.1 e1
              rw [if_neg (by omega)] at e2
              obtain ⟨u, u1, u2⟩ := hcell i' hq' r hr1
              exact ⟨u, e2.trans (by simpa using u1), u2.ev hev'⟩
          · have hset : (ls.set i' (ls[i'].take j ++ ps ++ ls[i'].drop (j + i.size)))[q] = ls[q] := List.getElem_set_ne hqi _
            have e1 : ((ls.set i' (ls[i'].take j ++ ps ++ ls[i'].drop (j + i.size)))[q])[r]? = some (((ls.set i' (ls[i'].take j ++ ps ++ ls[i'].drop (j + i.size)))[q])[r]) := List.getElem?_eq_getElem hr
            generalize ((ls.set i' (ls[i'].take j ++ ps ++ ls[i'].drop (j + i.size)))[q])[r] = z at e1 ⊢
            rw [hset] at e1
            obtain ⟨hr1, rfl⟩ := List.getElem?_eq_some_iff.1 e1
            obtain ⟨u, u1, u2⟩ := hcell q hq' r hr1
            refine ⟨u, ?_, u2.ev hev'⟩
            rw [e2, if_neg, ← u1]
            · simp
            · intro hx
              rcases Nat.lt_or_gt_of_ne hqi with hlt | hgt
              · have : (i' + 1) * sz ≤ q * sz := Nat.mul_le_mul_right _ hlt
                rw [Nat.succ_mul] at this
                omega
              · have : (q + 1) * sz ≤ i' * sz := Nat.mul_le_mul_right _ hgt
                rw [Nat.succ_mul] at this
                omega)
      refine upon_skp hrun ?_
      rw [hput]
      exact hK _ _ _ h ⟨⟨env, hrs', fun n => (hsl n).ev hev', hev.trans hev'⟩, hsz, hdf⟩
    · rename_i sz' ls hl
      obtain ⟨rfl, h⟩ := h
      exact store_es ho hi hx hy hdn hb hxs hl rfl h hR0 hK
    · exact h.elim
  · exact h.elim

end
end Go.Sim
