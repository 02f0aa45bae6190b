/- The model's operations that make rows, index them and cut them, over the plain picture. Of no program. -/
import Derived.Test.YtahoelmjfgoedaaGreatSimF
namespace Go.Sim
open Go.RowKit Go.Proofs.YtahoelmjfgoedaaGreat.B

section
variable {P : Program} {w0 w w' : World} {env0 env : Env} {bad0 : Bs} {fps : List Nat} {base : Nat → Prop} {N : Nat} {s : St} {a : Act} {o : Oper}
  {next : Act → World → Prop} {nx : Act → Prop} {Q : Exit → Act → World → Prop} {K : St → Prop}

/-- An operation that makes a block. -/
theorem new_done (hR : R P w0 env0 bad0 fps base N s a w) (hd : ∀ n, o.dst = some n → n < N) (hK : ∀ s' a' w', K s' → R P w0 env0 bad0 fps base N s' a' w' → next a' w')
    {v : AV} {r : Reg} (h : ∀ env, env.n = s.regs.length → (∀ n, VRel w env (badOf base env s.regs) (lk s.slots n) (a.tmps.getD n undef)) → RS P w0 w fps base env s.regs →
      ∃ u cur ty c, (execOp a.eval o).run P w = .ok (.value u) (w.alloc (.cells cur ty)) ∧
        (∀ bad', Ev w env (badOf base env s.regs) (w.alloc (.cells cur ty)) (env.push (some (w.heap.size, c))) bad' → RRel P (w.alloc (.cells cur ty)) (env.push (some (w.heap.size, c))) bad' env.n r) ∧
        (∀ bad', VRel (w.alloc (.cells cur ty)) (env.push (some (w.heap.size, c))) bad' v u))
    (hk : K (s.putr o.dst v (s.regs ++ [r]))) : o.wp P a w next Q := by
  obtain ⟨⟨env, hrs, hsl, hev⟩, hsz, hdf⟩ := hR
  obtain ⟨u, cur, ty, c, hr, h1, h2⟩ := h env hrs.len hsl hrs
  obtain ⟨hrs', hev'⟩ := hrs.alloc (r := r) (c := c) rfl h1
  exact upon_val hr (hK _ _ _ hk (R.put' hsz hdf hsl hev hrs' hev' hd (h2 _)))

theorem push_ptr {bad : Nat → Prop} {c off : Nat} (hn : env.n = s.regs.length) : VRel w' (env.push (some (w.heap.size, c))) bad (.c (.ptr s.regs.length off)) (.pointer (some ⟨w.heap.size, off, none⟩)) :=
  .c ⟨by simp [Env.push, hn], _, c, by rw [← hn, Env.push_at], rfl⟩

theorem run_zero {t : TypeId} {i : TypeInfo} {z : Value} (hi : P.info? t = some i) (hz : i.zero = some z) (w : World) : (zeroValue t).run P w = .ok z w := by
  simp [zeroValue, typeInfo, hi, hz]

theorem sound_alloc {t : TypeId} {i : TypeInfo} {z : Value} (ho : o.op = .alloc t) (hi : P.info? t = some i) (hz : i.zero = some z) (hf : z.cells.toList.all flatv = true) (hd : ∀ n, o.dst = some n → n < N)
    (h : opW P (.alloc o.dst z.cells.toList) s K) (hR : R P w0 env0 bad0 fps base N s a w) (hK : ∀ s' a' w', K s' → R P w0 env0 bad0 fps base N s' a' w' → next a' w') : o.wp P a w next Q := by
  refine new_done hR hd hK (fun env hn hsl hrs => ⟨.pointer (some ⟨w.heap.size, 0, none⟩), z.cells, t, 1, ?_, fun bad' hev => ?_, fun bad' => push_ptr hn⟩) h
  · simp [execOp, ho, Instr.alloc, run_zero hi hz, newVar, newRow]
  · refine ⟨w.heap.size, 1, z.cells, t, Env.push_at _ _, heap_alloc_new w _, by simp, fun j hj => ?_⟩
    have hj' : j < z.cells.size := by simpa using hj
    refine ⟨z.cells[j], by simp [hj'], ?_, by simp [AC.known]⟩
    rw [List.getElem_map]
    refine show PRel _ _ _ _ from ?_
    rw [Array.getElem_toList]
    refine PRel.v ?_
    exact List.all_eq_true.1 hf _ (by simp)

theorem pc_of_rep {sz n : Nat} {z : List Value} {bad : Nat → Prop} (hf : z.all flatv = true) (hz : z.length = sz) {cur : Array Value} (hc : ∀ i j, i < n → j < sz → cur[i * sz + j]? = z[j]?) :
    ∀ i (h : i < (List.replicate n (z.map PV.v)).length), ∀ j (h' : j < (List.replicate n (z.map PV.v))[i].length), ∃ u, cur[i * sz + j]? = some u ∧ PRel w bad (List.replicate n (z.map PV.v))[i][j] u := by
  intro i hi j hj
  have hi' : i < n := by simpa using hi
  have hj' : j < z.length := by simpa [List.getElem_replicate] using hj
  refine ⟨z[j], by rw [hc i j hi' (by omega)]; exact List.getElem?_eq_getElem hj', ?_⟩
  simp only [List.getElem_replicate, List.getElem_map]
  exact .v (List.all_eq_true.1 hf _ (List.getElem_mem _))

theorem sound_allocA {t e : TypeId} {n : Nat} {i ie : TypeInfo} {z ze : Value} (ho : o.op = .alloc t) (_ht : P.underlying t = some (.array n e)) (hi : P.info? t = some i) (hz : i.zero = some z) (_hie : P.info? e = some ie) (_hze : ie.zero = some ze)
    (hf : ze.cells.toList.all flatv = true) (hsz : ze.cells.size = ie.size) (hpos : 0 < ie.size) (hrep : z.cells.toList = (List.replicate n ze.cells.toList).flatten) (hn' : n ≤ 9223372036854775807) (hd : ∀ n, o.dst = some n → n < N)
    (h : opW P (.allocA o.dst ie.size n ze.cells.toList) s K) (hR : R P w0 env0 bad0 fps base N s a w) (hK : ∀ s' a' w', K s' → R P w0 env0 bad0 fps base N s' a' w' → next a' w') : o.wp P a w next Q := by
  have hlen : ∀ m, ((List.replicate m ze.cells.toList).flatten).length = m * ie.size := by
    intro m
    induction m with
    | zero => simp
    | succ m ih => rw [List.replicate_succ, List.flatten_cons, List.length_append, ih, Nat.succ_mul]; simp [hsz]; omega
  have hget : ∀ m i' j, i' < m → j < ie.size → ((List.replicate m ze.cells.toList).flatten)[i' * ie.size + j]? = ze.cells.toList[j]? := by
    intro m
    induction m with
    | zero => intro i' j h; omega
    | succ m ih =>
      intro i' j h1 h2
      rw [List.replicate_succ, List.flatten_cons]
      cases i' with
      | zero => rw [Nat.zero_mul, Nat.zero_add, List.getElem?_append_left (by simp; omega)]
      | succ i' =>
        rw [List.getElem?_append_right (by simp [hsz, Nat.succ_mul]; omega), ← ih i' j (by omega) h2]
        congr 1
        simp [hsz, Nat.succ_mul]
        omega
  refine new_done hR hd hK (fun env hn hsl hrs => ⟨.pointer (some ⟨w.heap.size, 0, none⟩), z.cells, t, n, ?_, fun bad' hev => ?_, fun bad' => ?_⟩) h
  · simp [execOp, ho, Instr.alloc, run_zero hi hz, newVar, newRow]
  · refine ⟨hpos, fun q hq => by simp [List.getElem_replicate, hsz], .inr ⟨w.heap.size, n, z.cells, t, Env.push_at _ _, heap_alloc_new w _, ?_, hn', by simp, ?_⟩⟩
    · rw [← Array.length_toList, hrep, hlen]
    · refine pc_of_rep hf (by simp [hsz]) (fun i' j h1 h2 => ?_)
      rw [← Array.getElem?_toList, hrep, hget n i' j h1 h2]
  · exact .c ⟨by simp [Env.push, hn], _, n, by rw [← hn, Env.push_at], by simp⟩

theorem sound_box {t : TypeId} {x : Operand} {ax : AX} (ho : o.op = .box t x) (hx : trX x = some ax) (hd : ∀ n, o.dst = some n → n < N)
    (h : opW P (.box o.dst ax) s K) (hR : R P w0 env0 bad0 fps base N s a w) (hK : ∀ s' a' w', K s' → R P w0 env0 bad0 fps base N s' a' w' → next a' w') : o.wp P a w next Q := by
  simp only [opW] at h
  split at h
  · rename_i l hl
    refine new_done hR hd hK (fun env hn hsl hrs => ⟨.pointer (some ⟨w.heap.size, 0, none⟩), (a.eval x).cells, t, 1, ?_, fun bad' hev => ?_, fun bad' => push_ptr hn⟩) h
    · simp [execOp, ho, Instr.box, newVar, newRow]
    · obtain ⟨h2, hk⟩ := cells_of (ev_sound hsl hx) hl
      have hlen := h2.len
      refine ⟨w.heap.size, 1, (a.eval x).cells, t, Env.push_at _ _, heap_alloc_new w _, by simpa using hlen, fun j hj => ?_⟩
      have hj' : j < (a.eval x).cells.size := by simp at hlen; omega
      refine ⟨(a.eval x).cells[j], by simp [hj'], ?_, List.all_eq_true.1 hk _ (List.getElem_mem _)⟩
      have := h2.get j hj (by simpa using hj')
      rw [Array.getElem_toList] at this
      exact this.ev hev
  · exact h.elim

theorem sound_ixs {t e : TypeId} {i : TypeInfo} {x y : Operand} {ax ay : AX} (ho : o.op = .indexAddr t x y) (ht : P.underlying t = some (.slice e)) (hi : P.info? e = some i) (hx : trX x = some ax) (hy : trX y = some ay) (hd : ∀ n, o.dst = some n → n < N)
    (h : opW P (.ixs o.dst i.size ax ay) s K) (hR : R P w0 env0 bad0 fps base N s a w) (hK : ∀ s' a', K s' → R P w0 env0 bad0 fps base N s' a' w → nx a') : o.timeWp P a nx := by
  have hrun : ∀ ad n c k q, a.eval x = .slice (some ad) n c → a.eval y = .int k q → 0 ≤ q → q < (n : Int) → ∀ w', (execOp a.eval o).run P w' = .ok (.value (.pointer (some (ad.add (q.toNat * i.size))))) w' := by
    intro ad n c k q e1 e2 h1 h2 w'
    simp [execOp, ho, e1, e2, Instr.indexAt, asIntOf, run_underlying ht, run_sizeOf' hi, h1, h2]
  simp only [opW] at h
  split at h
  · rename_i k q sz' l hq hb
    obtain ⟨rfl, h0, c, hc, h⟩ := h
    refine val_doneT hR hd hK (fun env hsl _ => ?_) h
    have e2 := int_of (ev_sound hsl hy) hq
    have e1 := c_of (hb ▸ ev_sound hsl hx)
    obtain ⟨hql, rfl⟩ := List.getElem?_eq_some_iff.1 hc
    generalize hu : a.eval x = u at e1
    cases e1 with
    | @sl _ _ A n cc U hz hn hcc hm hsz hA hcell hrel =>
      obtain ⟨ad, rfl, hnb⟩ := hA (by omega)
      refine ⟨_, hrun ad n cc k q hu e2 h0 (by omega), .c ⟨_, rfl, by rw [block_of_add]; exact hnb, ?_, fun j => U q.toNat j, fun j hj => ⟨?_, hrel _ hql j hj⟩⟩⟩
      · have := World.block_lt_of_cell? w _ (hcell ad rfl q.toNat hql 0 (by rw [hsz]; exact hz))
        rw [block_of_add] at this ⊢
        exact this
      · rw [add_of_add]
        exact hcell ad rfl q.toNat hql j hj
  · rename_i k q id off sz' len cap hq hb
    obtain ⟨rfl, h0, h1, h⟩ := h
    refine val_doneT hR hd hK (fun env hsl _ => ?_) h
    have e2 := int_of (ev_sound hsl hy) hq
    obtain ⟨hid, e1⟩ := c_of (hb ▸ ev_sound hsl hx)
    rcases e1 with ⟨_, _, hl0, _⟩ | ⟨g, c, kk, he, e1, hl, _⟩
    · omega
    · refine ⟨_, hrun _ _ _ k q e1 e2 h0 h1, .c ⟨hid, g, c, he, ?_⟩⟩
      rw [add_lit, Nat.add_mul]
      simp
  · exact h.elim

theorem sound_ixa {t e : TypeId} {n : Nat} {i : TypeInfo} {x y : Operand} {ax ay : AX} (ho : o.op = .indexAddr t x y) (ht : P.underlying t = some (.array n e)) (hi : P.info? e = some i) (hx : trX x = some ax) (hy : trX y = some ay) (hd : ∀ n, o.dst = some n → n < N)
    (h : opW P (.ixa o.dst n i.size ax ay) s K) (hR : R P w0 env0 bad0 fps base N s a w) (hK : ∀ s' a', K s' → R P w0 env0 bad0 fps base N s' a' w → nx a') : o.timeWp P a nx := by
  have hrun : ∀ ad k q, a.eval x = .pointer (some ad) → a.eval y = .int k q → 0 ≤ q → q < (n : Int) → ∀ w', (execOp a.eval o).run P w' = .ok (.value (.pointer (some (ad.add (q.toNat * i.size))))) w' := by
    intro ad k q e1 e2 h1 h2 w'
    simp [execOp, ho, e1, e2, Instr.indexAt, asIntOf, run_underlying ht, run_sizeOf' hi, h1, h2, Instr.sureAddr]
  simp only [opW] at h
  split at h
  · rename_i k q id sz' b hq hb
    obtain ⟨rfl, h0, h1, h⟩ := h
    refine val_doneT hR hd hK (fun env hsl _ => ?_) h
    have e2 := int_of (ev_sound hsl hy) hq
    obtain ⟨hid, g, c, he, e1⟩ := c_of (hb ▸ ev_sound hsl hx)
    refine ⟨_, hrun _ k q e1 e2 h0 h1, .c ⟨hid, g, c, he, ?_⟩⟩
    rw [add_lit, Nat.add_mul]
    simp
  · rename_i k q id off hq hb
    obtain ⟨h0, h1, h⟩ := h
    refine val_doneT hR hd hK (fun env hsl _ => ?_) h
    have e2 := int_of (ev_sound hsl hy) hq
    obtain ⟨hid, g, c, he, e1⟩ := c_of (hb ▸ ev_sound hsl hx)
    refine ⟨_, hrun _ k q e1 e2 h0 h1, .c ⟨hid, g, c, he, ?_⟩⟩
    rw [add_lit]
  · rename_i k q l hq hb
    obtain ⟨h0, h1, h⟩ := h
    refine val_doneT hR hd hK (fun env hsl _ => ?_) h
    have e2 := int_of (ev_sound hsl hy) hq
    obtain ⟨ad, e1, r1, r2, U, hU⟩ := c_of (hb ▸ ev_sound hsl hx)
    refine ⟨_, hrun _ k q e1 e2 h0 h1, .c ⟨_, rfl, by rw [block_of_add]; exact r1, by rw [block_of_add]; exact r2, fun j => U (q.toNat * i.size + j), fun j hj => ?_⟩⟩
    rw [List.length_drop] at hj
    have := hU (q.toNat * i.size + j) (by omega)
    rw [add_of_add, List.getElem_drop]
    exact this
  · exact h.elim

theorem CRel.of_p {w : World} {env : Env} {bad : Nat → Prop} {x : PV} {v : Value} (h : PRel w bad x v) : CRel w env bad (.p x) v := h
theorem nat_of {bad : Nat → Prop} (hsl : ∀ n, VRel w env bad (lk s.slots n) (a.tmps.getD n undef)) {x : Option Operand} {ax : Option AX} (hx : trO x = some ax) {n : Nat} {q : Int} (hq : natOf (ax.map s.ev) n = some q) :
    (x = none ∧ q = n) ∨ ∃ y k, x = some y ∧ a.eval y = .int k q := by
  cases x with
  | none => cases hx; cases hq; exact .inl ⟨rfl, rfl⟩
  | some y =>
    obtain ⟨ay, hy, rfl⟩ := Option.map_eq_some_iff.1 hx
    obtain ⟨⟨k, q'⟩, h1, rfl⟩ := Option.map_eq_some_iff.1 hq
    exact .inr ⟨y, k, rfl, int_of (ev_sound hsl hy) h1⟩

/-- A cut's bounds, as the model reckons them. -/
theorem bounds_run {b : Bool} {len cap p q : Nat} {lo hi : Option Value} (h1 : p ≤ q) (h2 : q ≤ cap) (hlo : (lo = none ∧ p = 0) ∨ ∃ k, lo = some (.int k p)) (hhi : (hi = none ∧ q = len) ∨ ∃ k, hi = some (.int k q)) (w : World) :
    (Instr.sliceBounds b len cap lo hi none).run P w = .ok (p, q, cap) w := by
  rcases hlo with ⟨rfl, rfl⟩ | ⟨k, rfl⟩ <;> rcases hhi with ⟨rfl, rfl⟩ | ⟨k', rfl⟩ <;>
    simp [Instr.sliceBounds, Instr.sliceBound, asIntOf, h1, h2]

theorem bounds_run3 {b : Bool} {len cap p q : Nat} {lo hi : Option Value} {km : IntKind} (h1 : p ≤ q) (h2 : q ≤ cap) (hlo : (lo = none ∧ p = 0) ∨ ∃ k, lo = some (.int k p)) (hhi : ∃ k, hi = some (.int k q)) (w : World) :
    (Instr.sliceBounds b len cap lo hi (some (.int km q))).run P w = .ok (p, q, q) w := by
  rcases hlo with ⟨rfl, rfl⟩ | ⟨k, rfl⟩ <;> obtain ⟨k', rfl⟩ := hhi <;>
    simp [Instr.sliceBounds, Instr.sliceBound, asIntOf, h1, h2]

/-- A pure slice, cut. -/
theorem PRel.cut {bad : Nat → Prop} {sz : Nat} {l : List (List PV)} {A : Option Addr} {n c lo hi m : Nat} (h : PRel w bad (.sl sz l) (.slice A n c)) (h1 : lo ≤ hi) (h2 : hi ≤ n) (hm : hi ≤ m) :
    PRel w bad (.sl sz ((l.take hi).drop lo)) (.slice (if m = lo then A else A.map (·.add (lo * sz))) (hi - lo) (m - lo)) := by
  cases h with
  | sl U hz hn hc hm' hsz hA hcell hrel =>
    have hget : ∀ i (h : i < ((l.take hi).drop lo).length), ∃ h' : lo + i < l.length, ((l.take hi).drop lo)[i] = l[lo + i] := fun i h => by
      have h' : lo + i < l.length := by simp at h; omega
      exact ⟨h', by rw [List.getElem_drop, List.getElem_take]⟩
    refine .sl (fun i j => U (lo + i) j) hz (by simp; omega) (by omega) (by omega) (fun i h => ?_) (fun h0 => ?_) (fun ad e i hi' j hj => ?_) (fun i hi' j hj => ?_)
    · obtain ⟨h', e⟩ := hget i h
      rw [e]; exact hsz _ h'
    · obtain ⟨ad, rfl, hb⟩ := hA (by omega)
      rw [if_neg (by omega)]
      exact ⟨_, rfl, by rw [block_of_add]; exact hb⟩
    · obtain ⟨h', e'⟩ := hget i hi'
      obtain ⟨ad0, rfl, _⟩ := hA (by omega)
      have hlt : lo < hi := by simp at hi'; omega
      rw [if_neg (by omega)] at e
      cases e
      rw [add_of_add]
      have hj' : j < l[lo + i].length := by rw [← e']; exact hj
      have := hcell ad0 rfl (lo + i) h' j hj'
      rwa [Nat.add_mul, Nat.add_assoc] at this
    · obtain ⟨h', e'⟩ := hget i hi'
      have hj' : j < l[lo + i].length := by rw [← e']; exact hj
      have := hrel (lo + i) h' j hj'
      simp only [e']
      exact this

theorem sound_sls {t e : TypeId} {i : TypeInfo} {x : Operand} {lo hi mx : Option Operand} {ax : AX} {alo ahi amx : Option AX} (ho : o.op = .slice t x lo hi mx) (ht : P.underlying t = some (.slice e)) (hi' : P.info? e = some i) (hx : trX x = some ax)
    (hlo : trO lo = some alo) (hhi : trO hi = some ahi) (hmx : trO mx = some amx) (hfull : mx.isSome = true → hi.isSome = true) (hd : ∀ n, o.dst = some n → n < N)
    (h : opW P (.sls o.dst i.size ax alo ahi amx) s K) (hR : R P w0 env0 bad0 fps base N s a w) (hK : ∀ s' a', K s' → R P w0 env0 bad0 fps base N s' a' w → nx a') : o.pureWp P a w nx := by
  have hrun : ∀ A n c l h m, a.eval x = .slice A n c → (Instr.sliceBounds true n c (lo.map a.eval) (hi.map a.eval) (mx.map a.eval)).run P w = .ok (l, h, m) w →
      (execOp a.eval o).run P w = .ok (.value (.slice (if m = l then A else A.map (·.add (l * i.size))) (h - l) (m - l))) w := by
    intro A n c l h m e1 e2
    simp [execOp, ho, e1, Instr.sliceAt, Instr.slice, run_underlying ht, e2, run_sizeOf' hi']
  have hone : ∀ {env : Env} {bad : Nat → Prop} {q : Int} {n : Nat} {x : Option Operand} {ax : Option AX}, (∀ n, VRel w env bad (lk s.slots n) (a.tmps.getD n undef)) → trO x = some ax → natOf (ax.map s.ev) n = some q → 0 ≤ q →
      (x.map a.eval = none ∧ q.toNat = n) ∨ ∃ k, x.map a.eval = some (.int k (q.toNat : Int)) := by
    intro env bad q n x ax hsl h1 h2 h0
    rcases nat_of hsl h1 h2 with ⟨rfl, e⟩ | ⟨y, k, rfl, e⟩
    · exact .inl ⟨rfl, by omega⟩
    · exact .inr ⟨k, by rw [Option.map_some, e, Int.toNat_of_nonneg h0]⟩
  have hmax : ∀ {env : Env} {bad : Nat → Prop} {q : Int} {m : AV}, (∀ n, VRel w env bad (lk s.slots n) (a.tmps.getD n undef)) → amx.map s.ev = some m → (intOf' m).map (·.2) = some q → 0 ≤ q →
      (∃ k, mx.map a.eval = some (.int k (q.toNat : Int))) := by
    intro env bad q m hsl h1 h2 h0
    obtain ⟨am, rfl, rfl⟩ := Option.map_eq_some_iff.1 h1
    obtain ⟨y, rfl, hy⟩ : ∃ y, mx = some y ∧ trX y = some am := by
      cases mx with
      | none => cases hmx
      | some y => obtain ⟨z, h, hz⟩ := Option.map_eq_some_iff.1 hmx; cases hz; exact ⟨y, rfl, h⟩
    obtain ⟨⟨k, q'⟩, h3, rfl⟩ := Option.map_eq_some_iff.1 h2
    exact ⟨k, by rw [Option.map_some, int_of (ev_sound hsl hy) h3, Int.toNat_of_nonneg h0]⟩
  have hmx0 : amx.map s.ev = none → mx.map a.eval = none := by
    intro h
    cases mx with
    | none => rfl
    | some y => obtain ⟨z, _, hz⟩ := Option.map_eq_some_iff.1 hmx; rw [← hz] at h; cases h
  have hhs : ∀ {q : Nat} {n : Nat}, mx.isSome = true → ((hi.map a.eval = none ∧ q = n) ∨ ∃ k, hi.map a.eval = some (.int k (q : Int))) → ∃ k, hi.map a.eval = some (.int k (q : Int)) := by
    intro q n h1 h2
    rcases h2 with ⟨h2, _⟩ | h2
    · have := hfull h1
      cases hi with
      | none => cases this
      | some y => cases h2
    · exact h2
  have hms : ∀ {m : AV}, amx.map s.ev = some m → mx.isSome = true := by
    intro m h
    cases mx with
    | none => cases hmx; cases h
    | some y => rfl
  simp only [opW] at h
  split at h
  · rename_i sz' l hb
    split at h
    · rename_i ql qh e1 e2 e3
      obtain ⟨rfl, h0, h1, h2, h⟩ := h
      refine val_done hR hd hK (fun env hsl _ => ?_) h
      have hc := c_of (hb ▸ ev_sound hsl hx)
      generalize hu : a.eval x = u at hc
      obtain ⟨A, c, rfl, hcl⟩ : ∃ A c, u = .slice A l.length c ∧ l.length ≤ c := by
        cases hc with
        | sl U hz hn hc => exact ⟨_, _, by rw [hn], by omega⟩
      have hbr := bounds_run (P := P) (b := true) (len := l.length) (cap := c) (p := ql.toNat) (q := qh.toNat) (by omega) (by omega) (hone hsl hlo e1 h0) (hone hsl hhi e2 (by omega)) w
      rw [← hmx0 e3] at hbr
      exact ⟨_, hrun _ _ _ _ _ _ hu hbr, .c (PRel.cut hc (by omega) (by omega) (by omega))⟩
    · rename_i ql qh m e1 e2 e3
      obtain ⟨rfl, h0, h1, h2, h3, h⟩ := h
      refine val_done hR hd hK (fun env hsl _ => ?_) h
      have hc := c_of (hb ▸ ev_sound hsl hx)
      generalize hu : a.eval x = u at hc
      obtain ⟨A, c, rfl, hcl⟩ : ∃ A c, u = .slice A l.length c ∧ l.length ≤ c := by
        cases hc with
        | sl U hz hn hc => exact ⟨_, _, by rw [hn], by omega⟩
      obtain ⟨k, hk⟩ := hmax hsl e3 h3 (by omega)
      have hbr := bounds_run3 (P := P) (b := true) (len := l.length) (cap := c) (p := ql.toNat) (q := qh.toNat) (km := k) (by omega) (by omega) (hone hsl hlo e1 h0) (hhs (hms e3) (hone hsl hhi e2 (by omega))) w
      rw [← hk] at hbr
      have hcut := PRel.cut (m := qh.toNat) hc (show ql.toNat ≤ qh.toNat by omega) (show qh.toNat ≤ l.length by omega) (Nat.le_refl _)
      have hlen : ((l.take qh.toNat).drop ql.toNat).length = qh.toNat - ql.toNat := by simp; omega
      exact ⟨_, hrun _ _ _ _ _ _ hu hbr, .c ⟨hcut, _, by rw [hlen]⟩⟩
    · exact h.elim
  · rename_i id off sz' len cap hb
    split at h
    · rename_i ql qh e1 e2 e3
      obtain ⟨rfl, h0, h1, h2, hne, h⟩ := h
      refine val_done hR hd hK (fun env hsl _ => ?_) h
      obtain ⟨hid, hc⟩ := c_of (hb ▸ ev_sound hsl hx)
      by_cases hcut : ql = 0 ∨ ql < qh
      rotate_left
      · have hz : 0 < i.size := by omega
        rw [cutV, if_neg hcut]
        have hqe : qh.toNat - ql.toNat = 0 := by omega
        rcases hc with ⟨he, rfl, rfl, hu⟩ | ⟨g, c, kk, he, hu, hl, hcap⟩
        · omega
        · have hbr := bounds_run (P := P) (b := true) (len := len) (cap := kk) (p := ql.toNat) (q := qh.toNat) (by omega) (by omega) (hone hsl hlo e1 h0) (hone hsl hhi e2 (by omega)) w
          rw [← hmx0 e3] at hbr
          refine ⟨_, hrun _ _ _ _ _ _ hu hbr, .c ?_⟩
          rw [hqe]
          exact .sl (fun _ _ => .bool false) hz rfl (Nat.zero_le _) (by decide) (fun i h => by simp at h) (fun h => by omega) (fun _ _ i h => by simp at h) (fun i h => by simp at h)
      rw [cutV, if_pos hcut]
      rcases hc with ⟨he, rfl, rfl, hu⟩ | ⟨g, c, kk, he, hu, hl, hcap⟩
      · obtain rfl : ql = 0 := by omega
        obtain rfl : qh = 0 := by omega
        have hbr := bounds_run (P := P) (b := true) (len := 0) (cap := 0) (p := 0) (q := 0) (by omega) (by omega) (hone hsl hlo e1 (by omega)) (hone hsl hhi e2 (by omega)) w
        rw [← hmx0 e3] at hbr
        exact ⟨_, hrun _ _ _ _ _ _ hu hbr, .c ⟨hid, .inl ⟨he, rfl, rfl, by simp⟩⟩⟩
      · have hbr := bounds_run (P := P) (b := true) (len := len) (cap := kk) (p := ql.toNat) (q := qh.toNat) (by omega) (by omega) (hone hsl hlo e1 h0) (hone hsl hhi e2 (by omega)) w
        rw [← hmx0 e3] at hbr
        refine ⟨_, hrun _ _ _ _ _ _ hu hbr, .c ⟨hid, .inr ⟨g, c, kk - ql.toNat, he, ?_, by omega, ?_⟩⟩⟩
        · by_cases hz : ql = 0
          · subst hz
            simp [add_lit]
          · have : kk ≠ ql.toNat := by omega
            simp [this, add_lit, Nat.add_mul]
        · by_cases hz : ql = 0
          · subst hz
            rcases hcap with rfl | rfl | ⟨rfl, rfl, rfl⟩ <;> simp
          · rw [if_neg hz]; exact .inr (.inl rfl)
    · rename_i ql qh m e1 e2 e3
      obtain ⟨rfl, h0, h1, h2, hne, h3, h⟩ := h
      refine val_done hR hd hK (fun env hsl _ => ?_) h
      obtain ⟨hid, hc⟩ := c_of (hb ▸ ev_sound hsl hx)
      obtain ⟨k, hk⟩ := hmax hsl e3 h3 (by omega)
      rcases hc with ⟨he, rfl, rfl, hu⟩ | ⟨g, c, kk, he, hu, hl, hcap⟩
      · obtain rfl : ql = 0 := by omega
        obtain rfl : qh = 0 := by omega
        have hbr := bounds_run3 (P := P) (b := true) (len := 0) (cap := 0) (p := 0) (q := 0) (km := k) (by omega) (by omega) (hone hsl hlo e1 (by omega)) (hhs (hms e3) (hone hsl hhi e2 (by omega))) w
        have hk' : mx.map a.eval = some (.int k ((0 : Nat) : Int)) := by simpa using hk
        rw [← hk'] at hbr
        exact ⟨_, hrun _ _ _ _ _ _ hu hbr, .c ⟨hid, .inl ⟨he, rfl, rfl, by simp⟩⟩⟩
      · have hbr := bounds_run3 (P := P) (b := true) (len := len) (cap := kk) (p := ql.toNat) (q := qh.toNat) (km := k) (by omega) (by omega) (hone hsl hlo e1 h0) (hhs (hms e3) (hone hsl hhi e2 (by omega))) w
        rw [← hk] at hbr
        refine ⟨_, hrun _ _ _ _ _ _ hu hbr, .c ⟨hid, .inr ⟨g, c, qh.toNat - ql.toNat, he, ?_, by omega, .inl rfl⟩⟩⟩
        by_cases hz : ql = 0
        · subst hz
          simp [add_lit]
        · have : qh.toNat ≠ ql.toNat := by omega
          simp [this, add_lit, Nat.add_mul]
    · exact h.elim
  · rename_i hb
    have hnil : ∀ {env : Env} {bad : Nat → Prop}, (∀ n, VRel w env bad (lk s.slots n) (a.tmps.getD n undef)) → a.eval x = .slice none 0 0 := fun hsl => (val_of (ev_sound hsl hx) (x := .slice none 0 0) (by rw [hb]; rfl)).1
    split at h
    · rename_i ql qh e1 e2 e3
      obtain ⟨rfl, rfl, h⟩ := h
      refine val_done hR hd hK (fun env hsl _ => ?_) h
      have hbr := bounds_run (P := P) (b := true) (len := 0) (cap := 0) (p := 0) (q := 0) (by omega) (by omega) (hone hsl hlo e1 (by omega)) (hone hsl hhi e2 (by omega)) w
      rw [← hmx0 e3] at hbr
      exact ⟨_, hrun _ _ _ _ _ _ (hnil hsl) hbr, by simpa using VRel.c (CRel.of_p (PRel.v rfl))⟩
    · rename_i ql qh m e1 e2 e3
      obtain ⟨rfl, rfl, h3, h⟩ := h
      refine val_done hR hd hK (fun env hsl _ => ?_) h
      obtain ⟨k, hk⟩ := hmax hsl e3 h3 (by omega)
      have hbr := bounds_run3 (P := P) (b := true) (len := 0) (cap := 0) (p := 0) (q := 0) (km := k) (by omega) (by omega) (hone hsl hlo e1 (by omega)) (hhs (hms e3) (hone hsl hhi e2 (by omega))) w
      have hk' : mx.map a.eval = some (.int k ((0 : Nat) : Int)) := by simpa using hk
      rw [← hk'] at hbr
      exact ⟨_, hrun _ _ _ _ _ _ (hnil hsl) hbr, by simpa using VRel.c (CRel.of_p (PRel.v rfl))⟩
    · exact h.elim
  · exact h.elim

end
end Go.Sim
