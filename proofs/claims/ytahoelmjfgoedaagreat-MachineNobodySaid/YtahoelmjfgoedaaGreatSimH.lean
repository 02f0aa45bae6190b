/- The model's operations that build structs and slices, and the small ones, over the plain picture. Of no program. -/
import Derived.Test.YtahoelmjfgoedaaGreatSimG
namespace Go.Sim
open Go.RowKit Go.Proofs.YtahoelmjfgoedaaGreat.B

section
variable {P : Program} {w0 w w' : World} {env0 env : Env} {bad0 : Bs} {fps : List Nat} {base : Nat → Prop} {N : Nat} {s : St} {a : Act} {o : Oper}
  {next : Act → World → Prop} {nx : Act → Prop} {Q : Exit → Act → World → Prop} {K : St → Prop}

theorem fa_of {bad : Nat → Prop} {v : AV} {u : Value} {b : FA} (hv : VRel w env bad v u) (hb : faOf v = some b) : FRel w env bad b u := by
  unfold faOf at hb
  split at hb
  · cases hb; exact c_of hv
  · cases hb; exact c_of hv
  · cases hb

theorem sound_mkf {f : Fn} {fi ca : List Operand} {afi aca : List AX} (ho : o.op = .makeFunc f fi.toArray ca.toArray) (hfi : trXs fi = some afi) (hca : trXs ca = some aca) (hd : ∀ n, o.dst = some n → n < N)
    (h : opW P (.mkf o.dst f afi aca) s K) (hR : R P w0 env0 bad0 fps base N s a w) (hK : ∀ s' a', K s' → R P w0 env0 bad0 fps base N s' a' w → nx a') : o.pureWp P a w nx := by
  have hall : ∀ {env : Env} {bad : Nat → Prop}, (∀ n, VRel w env bad (lk s.slots n) (a.tmps.getD n undef)) → ∀ (xs : List Operand) (axs : List AX) (fs : List FA), trXs xs = some axs → allOf (fun x => faOf (s.ev x)) axs = some fs → All2 (FRel w env bad) fs (xs.map a.eval) := by
    intro env bad hsl xs
    induction xs with
    | nil => intro axs fs h1 h2; cases h1; cases h2; trivial
    | cons x xs ih =>
      intro axs fs h1 h2
      obtain ⟨ax, hx, h1⟩ := Option.bind_eq_some_iff.1 h1
      obtain ⟨axs', hxs, rfl⟩ := Option.map_eq_some_iff.1 h1
      obtain ⟨b, hb, h2⟩ := Option.bind_eq_some_iff.1 h2
      obtain ⟨fs', hfs, rfl⟩ := Option.map_eq_some_iff.1 h2
      exact ⟨fa_of (ev_sound hsl hx) hb, ih _ _ hxs hfs⟩
  simp only [opW] at h
  split at h
  · rename_i f1 f2 e1 e2
    refine val_done hR hd hK (fun env hsl _ => ?_) h
    exact ⟨_, by simp [execOp, ho, Instr.makeFunc], .c ⟨_, _, rfl, hall hsl fi afi f1 hfi e1, hall hsl ca aca f2 hca e2⟩⟩
  · exact h.elim

theorem sound_mm {x y : Operand} {ax ay : AX} {b : Bool} {ts : Array TypeId} (ho : o.op = .call { callee := .builtin (if b then .max else .min), args := #[x, y], argTypes := ts }) (hx : trX x = some ax) (hy : trX y = some ay) (hd : ∀ n, o.dst = some n → n < N)
    (h : opW P (.mm o.dst b ax ay) s K) (hR : R P w0 env0 bad0 fps base N s a w) (hK : ∀ s' a', K s' → R P w0 env0 bad0 fps base N s' a' w → nx a') : o.timeWp P a nx := by
  simp only [opW] at h
  split at h
  · rename_i k p k' q hp hq
    refine val_doneT hR hd hK (fun env hsl _ => ?_) h
    have e1 := int_of (ev_sound hsl hx) hp
    have e2 := int_of (ev_sound hsl hy) hq
    refine ⟨_, fun w' => ?_, vrel_v rfl⟩
    cases b
    · simp [execOp, ho, e1, e2, resolve, invoke, builtin, Builtin.min_, Builtin.min2]
    · simp [execOp, ho, e1, e2, resolve, invoke, builtin, Builtin.max_, Builtin.max2]
  · exact h.elim

theorem sound_ixt {t : TypeId} {x y : Operand} {ax ay : AX} (ho : o.op = .index t x y) (ht : P.underlying t = some .string) (hx : trX x = some ax) (hy : trX y = some ay) (hd : ∀ n, o.dst = some n → n < N)
    (h : opW P (.ixt o.dst ax ay) s K) (hR : R P w0 env0 bad0 fps base N s a w) (hK : ∀ s' a', K s' → R P w0 env0 bad0 fps base N s' a' w → nx a') : o.timeWp P a nx := by
  simp only [opW] at h
  split at h
  · rename_i k q b hq hb
    obtain ⟨h0, h1, h⟩ := h
    refine val_doneT hR hd hK (fun env hsl _ => ?_) h
    have e1 := (val_of (ev_sound hsl hx) hb).1
    have e2 := int_of (ev_sound hsl hy) hq
    refine ⟨_, fun w' => ?_, vrel_v rfl⟩
    simp [execOp, ho, e1, e2, Instr.index, asIntOf, run_underlying ht, h0, h1]
  · exact h.elim

theorem sound_ixv {t e : TypeId} {n : Nat} {i : TypeInfo} {d : TypeDesc} {x y : Operand} {ax ay : AX} (ho : o.op = .index t x y) (ht : P.underlying t = some (.array n e)) (hi : P.info? e = some i) (hdd : P.underlying e = some d) (hone : aggD d = false → i.size = 1)
    (hx : trX x = some ax) (hy : trX y = some ay) (hd : ∀ n, o.dst = some n → n < N)
    (h : opW P (.ixv o.dst n i.size (aggD d) ax ay) s K) (hR : R P w0 env0 bad0 fps base N s a w) (hK : ∀ s' a', K s' → R P w0 env0 bad0 fps base N s' a' w → nx a') : o.pureWp P a w nx := by
  simp only [opW] at h
  split at h
  · rename_i k q l hq hb
    obtain ⟨h0, h1, v, hlen, hp, h⟩ := h
    refine val_done hR hd hK (fun env hsl _ => ?_) h
    have e2 := int_of (ev_sound hsl hy) hq
    obtain ⟨vs, e, h2, hk⟩ := agg_of (hb ▸ ev_sound hsl hx)
    have hl := h2.len
    obtain ⟨u, hv, g1, g0⟩ := pack_sound ((h2.drop (q.toNat * i.size)).take i.size) hp
    refine ⟨u, ?_, hv⟩
    cases hag : aggD d with
    | true =>
      rw [g1 hag]
      simp [execOp, ho, e, e2, Instr.index, asIntOf, run_underlying ht, h0, h1, part, run_isAgg' hdd, hag, run_sizeOf' hi]
    | false =>
      have h1' := hone hag
      have h0' := g0 hag
      have : vs[q.toNat * i.size]? = some u := by
        rw [h1'] at h0' ⊢
        have := congrArg (·[0]?) h0'
        simpa [List.getElem?_take, List.getElem?_drop] using this
      simp [execOp, ho, e, e2, Instr.index, asIntOf, run_underlying ht, h0, h1, part, run_isAgg' hdd, hag, run_sizeOf' hi, this]
  · exact h.elim

theorem ints_of {bad : Nat → Prop} : ∀ {ks : List IntKind} {l : List AC} {ns : List Int} {vs : List Value}, intsOf ks l = some ns → All2 (CRel w env bad) l vs → vs = mkInts ks ns ∧ ns.length = ks.length
  | [], [], ns, vs, h, h2 => by
    cases h
    cases vs with
    | nil => exact ⟨rfl, rfl⟩
    | cons _ _ => exact h2.elim
  | k :: ks, x :: l, ns, vs, h, h2 => by
    cases x with
    | p x =>
      cases x with
      | v x =>
        cases x with
        | int k2 n =>
          have h' : (if k = k2 then (intsOf ks l).map (n :: ·) else none) = some ns := h
          by_cases hk : k = k2
          · rw [if_pos hk] at h'
            subst hk
            obtain ⟨ns', h4, rfl⟩ := Option.map_eq_some_iff.1 h'
            cases vs with
            | nil => exact h2.elim
            | cons v vs =>
              obtain ⟨rfl, hn⟩ := ints_of h4 h2.2
              have hv : v = .int k n := by
                have h3 : PRel w bad (.v (.int k n)) v := h2.1
                cases h3; rfl
              subst hv
              exact ⟨rfl, by simp [hn]⟩
          · rw [if_neg hk] at h'
            cases h'
        | _ => cases h
      | sl => cases h
    | _ => cases h
  | [], _ :: _, ns, vs, h, _ => by cases h
  | _ :: _, [], ns, vs, h, _ => by cases h

theorem sound_eqs {t u : TypeId} {b : Bool} {ks : List IntKind} {x y : Operand} {ax ay : AX} (ho : o.op = .binOp (if b then .neq else .eql) t x y u) (hx : trX x = some ax) (hy : trX y = some ay) (hd : ∀ n, o.dst = some n → n < N)
    (h : opW P (.eqs o.dst b t ks ax ay) s K) (hR : R P w0 env0 bad0 fps base N s a w) (hK : ∀ s' a', K s' → R P w0 env0 bad0 fps base N s' a' w → nx a') : o.pureWp P a w nx := by
  simp only [opW] at h
  split at h
  · rename_i l l' hb hb'
    split at h
    · rename_i ns ms hn hm
      obtain ⟨⟨hq1, hq2⟩, h⟩ := h
      refine val_done hR hd hK (fun env hsl _ => ?_) h
      obtain ⟨vs, e1, h2, _⟩ := agg_of (hb ▸ ev_sound hsl hx)
      obtain ⟨us, e2, h2', _⟩ := agg_of (hb' ▸ ev_sound hsl hy)
      obtain ⟨rfl, l1⟩ := ints_of hn h2
      obtain ⟨rfl, l2⟩ := ints_of hm h2'
      have hr := hq2 w ns ms l1 l2
      refine ⟨_, ?_, vrel_v rfl⟩
      cases b <;> simp [execOp, ho, e1, e2, eqGuard, binOp, hq1, hr]
    · exact h.elim
  · exact h.elim

theorem sound_mks {t e : TypeId} {i : TypeInfo} {z : Value} {x y : Operand} {ax ay : AX} (ho : o.op = .makeSlice t x y) (ht : P.underlying t = some (.slice e)) (hi : P.info? e = some i) (hz : i.zero = some z) (hf : z.cells.toList.all flatv = true)
    (hzs : z.cells.size = i.size) (hpos : 0 < i.size) (hx : trX x = some ax) (hy : trX y = some ay) (hd : ∀ n, o.dst = some n → n < N)
    (h : opW P (.mks o.dst i.size i.bytes z.cells.toList ax ay) s K) (hR : R P w0 env0 bad0 fps base N s a w) (hK : ∀ s' a' w', K s' → R P w0 env0 bad0 fps base N s' a' w' → next a' w') : o.wp P a w next Q := by
  simp only [opW] at h
  split at h
  · rename_i k n k' c hn hc
    obtain ⟨h0, h1, h2, h3, h⟩ := h
    obtain ⟨p, rfl⟩ := Int.eq_ofNat_of_zero_le h0
    obtain ⟨q, rfl⟩ := Int.eq_ofNat_of_zero_le (show 0 ≤ c by omega)
    rw [Int.toNat_natCast] at h
    refine new_done hR hd hK (fun env hnl hsl hrs => ⟨.slice (some ⟨w.heap.size, 0, none⟩) p q, (Array.range (q * i.size)).map (z.cells[· % z.cells.size]!), e, q, ?_, fun bad' hev => ?_, fun bad' => ?_⟩) h
    · have e1 := int_of (ev_sound hsl hx) hn
      have e2 := int_of (ev_sound hsl hy) hc
      have w1 : IntKind.i64.wrap (p : Int) = p := by simp [IntKind.wrap, IntKind.bits, IntKind.signed]; omega
      have w2 : IntKind.i64.wrap (q : Int) = q := by simp [IntKind.wrap, IntKind.bits, IntKind.signed]; omega
      have hb : ¬ ((i.bytes : Int) * (q : Int) > 281474976710656) := by rw [Int.mul_comm]; omega
      have f1 : ((281474976710656 : Int) < (i.bytes : Int) * (q : Int)) = False := eq_false (by omega)
      have f2 : (q < p) = False := eq_false (by omega)
      have f3 : ((p : Int) < 0) = False := eq_false (by omega)
      have f4 : ((q : Int) < 0) = False := eq_false (by omega)
      by_cases hq0 : q * i.size = 0
      · obtain rfl : q = 0 := by
          rcases Nat.eq_zero_or_pos q with h | h
          · exact h
          · have := Nat.mul_pos h hpos
            omega
        obtain rfl : p = 0 := by omega
        simp [execOp, ho, e1, e2, Instr.makeSlice, asInt, asIntOf, run_underlying ht, typeInfo, hi, run_sizeOf' hi, newRow, show IntKind.i64.wrap 0 = 0 from by decide +kernel, show Array.range 0 = #[] from rfl]
      · simp [execOp, ho, e1, e2, Instr.makeSlice, asInt, asIntOf, run_underlying ht, typeInfo, hi, w1, w2, f1, f2, f3, f4, run_sizeOf' hi, run_zero hi hz, newRow, hq0]
    · refine ⟨hpos, fun r hr => by simp [List.getElem_replicate, hzs], .inr ⟨w.heap.size, q, _, e, Env.push_at _ _, heap_alloc_new w _, by simp, by omega, by simp; omega, ?_⟩⟩
      refine pc_of_rep hf (by simp [hzs]) (fun i' j g1 g2 => ?_)
      have hlt : i' * i.size + j < q * i.size := by
        have : (i' + 1) * i.size ≤ q * i.size := Nat.mul_le_mul_right _ (by omega)
        rw [Nat.succ_mul] at this
        omega
      have hmod : (i' * i.size + j) % z.cells.size = j := by rw [hzs, Nat.mul_comm, Nat.mul_add_mod, Nat.mod_eq_of_lt g2]
      simp [hlt, hmod]
      rw [Array.getElem!_eq_getD, Array.getD_eq_getD_getElem?]
      have : j < z.cells.size := by omega
      simp [this]
    · exact .c ⟨by simp [Env.push, hnl], .inr ⟨w.heap.size, q, q, by rw [← hnl, Env.push_at], by simp, by omega, .inr (.inr ⟨rfl, rfl, rfl⟩)⟩⟩
  · exact h.elim

theorem fill_step {l : List Value} {off sz : Nat} {vs : List Value} (hs : vs.length = sz) (hb : off + sz ≤ l.length) :
    (vs.zipIdx.foldl (fun cs (x : Value × Nat) => cs.setIfInBounds (off + x.2) x.1) l.toArray) = (l.take off ++ vs ++ l.drop (off + sz)).toArray := by
  subst hs
  have : ∀ (vs : List Value) (k : Nat) (l : List Value), off + k + vs.length ≤ l.length →
      ((vs.zipIdx k).foldl (fun cs (x : Value × Nat) => cs.setIfInBounds (off + x.2) x.1) l.toArray) = (l.take (off + k) ++ vs ++ l.drop (off + k + vs.length)).toArray := by
    intro vs
    induction vs with
    | nil => intro k l h; simp
    | cons v vs ih =>
      intro k l h
      rw [List.zipIdx_cons, List.foldl_cons]
      simp only [List.setIfInBounds_toArray]
      rw [ih (k + 1) (l.set (off + k) v) (by simp at h ⊢; omega)]
      congr 1
      apply List.ext_getElem?
      intro j
      have hlen : off + k < l.length := by simp at h; omega
      rw [show off + (k + 1) = off + k + 1 by omega, show off + k + 1 + vs.length = off + k + (v :: vs).length by simp; omega]
      rw [getElem?_splice (by simpa using h)]
      by_cases h1 : j < off + k + 1
      · rw [List.append_assoc, List.getElem?_append_left (by simp; omega), List.getElem?_take_of_lt h1, List.getElem?_set]
        by_cases h2 : off + k = j
        · rw [if_pos h2, if_pos hlen, if_pos ⟨by omega, by simp; omega⟩]
          simp [h2]
        · rw [if_neg h2, if_neg (by omega)]
      · by_cases h3 : j < off + k + (v :: vs).length
        · rw [List.append_assoc, List.getElem?_append_right (by simp; omega), List.getElem?_append_left (by simp at h3 ⊢; omega), if_pos ⟨by omega, h3⟩]
          rw [show j - (off + k) = (j - (off + k + 1)) + 1 by omega, List.getElem?_cons_succ]
          congr 1
          simp
          omega
        · have hL : (List.take (off + k + 1) (l.set (off + k) v) ++ vs).length = off + k + 1 + vs.length := by simp; simp at h; omega
          have h4 : (v :: vs).length = vs.length + 1 := rfl
          rw [List.getElem?_append_right (by omega), if_neg (by omega), List.getElem?_drop]
          rw [List.getElem?_set_ne (by omega)]
          congr 1
          omega
  simpa using this vs 0 l (by omega)

/-- A struct's parts. -/
theorem fill_sound {bad : Nat → Prop} {place : Nat → Option (Nat × Nat)} : ∀ {parts : List (Nat × Value)} {aparts : List (Nat × Nat × AV)} {l l' : List AC} {cs : List Value},
    All2 (fun (p : Nat × Nat × AV) (q : Nat × Value) => place q.1 = some (p.1, p.2.1) ∧ VRel w env bad p.2.2 q.2) aparts parts → All2 (CRel w env bad) l cs → l.all AC.known = true → fillA l aparts = some l' →
    ∃ cs' : List Value, Instr.fill place cs.toArray parts = some cs'.toArray ∧ All2 (CRel w env bad) l' cs' ∧ l'.all AC.known = true
  | [], [], l, l', cs, _, h, hk, hf => by cases hf; exact ⟨cs, rfl, h, hk⟩
  | (i, v) :: parts, (off, sz, av) :: aparts, l, l', cs, hp, h, hk, hf => by
    obtain ⟨⟨hpl, hv⟩, hp'⟩ := hp
    obtain ⟨xs, hxs, hf⟩ := Option.bind_eq_some_iff.1 hf
    split at hf
    · rename_i hc
      obtain ⟨h2, hk2⟩ := cells_of hv hxs
      have hl := h.len
      have hl2 := h2.len
      have hvs : v.cells.size = sz := by simp at hl2; omega
      obtain ⟨cs', e, r1, r2⟩ := fill_sound (l := l.take off ++ xs ++ l.drop (off + sz)) (cs := cs.take off ++ v.cells.toList ++ cs.drop (off + sz)) hp'
        (((h.take off).append h2).append (h.drop (off + sz))) (by
          rw [List.all_eq_true] at hk hk2 ⊢
          intro x hx
          rcases List.mem_append.1 hx with hx | hx
          · rcases List.mem_append.1 hx with hx | hx
            · exact hk x (List.mem_of_mem_take hx)
            · exact hk2 x hx
          · exact hk x (List.mem_of_mem_drop hx)) hf
      refine ⟨cs', ?_, r1, r2⟩
      have hst := fill_step (l := cs) (off := off) (sz := sz) (vs := v.cells.toList) (by simpa using hvs) (by omega)
      unfold Instr.fill
      rw [hpl]
      simp only
      rw [if_neg (by simp; omega), ← e, ← hst, ← Array.foldl_toList, Array.toList_zipIdx]
    · cases hf
  | [], _ :: _, _, _, _, h, _, _, _ => h.elim
  | _ :: _, [], _, _, _, h, _, _, _ => h.elim

end
end Go.Sim
