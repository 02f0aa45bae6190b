/- The model's operations, told over: which operation of the picture each one is; those that leave memory alone. Of no program. -/
import Derived.Test.YtahoelmjfgoedaaGreatSimD
namespace Go.Sim
open Go.RowKit Go.Proofs.YtahoelmjfgoedaaGreat.B

def aggD : TypeDesc → Bool
  | .struct _ | .array _ _ => true
  | _ => false

/-- A type's zero cells, its number of cells, its bytes. -/
def zeroOf (P : Program) (t : TypeId) : Option (List Value) := ((P.info? t).bind (·.zero)).map (·.cells.toList)
def okZero (l : List Value) : Bool := l.all flatv
def kindsOf : List Value → Option (List IntKind)
  | [] => some []
  | .int k _ :: r => (kindsOf r).map (k :: ·)
  | _ :: _ => none
def trXs : List Operand → Option (List AX) := allOf trX
def trO : Option Operand → Option (Option AX)
  | none => some none
  | some x => (trX x).map some

theorem run_isAgg' {P : Program} {t : TypeId} {d : TypeDesc} (h : P.underlying t = some d) (w : World) : (isAgg t).run P w = .ok (aggD d) w := by
  cases d <;> simp [isAgg, run_underlying h, aggD]
theorem run_sizeOf' {P : Program} {t : TypeId} {i : TypeInfo} (h : P.info? t = some i) (w : World) : (sizeOf t).run P w = .ok i.size w := by
  simp [sizeOf, typeInfo, h]
theorem cellsOf_eq {P : Program} {t : TypeId} {i : TypeInfo} (h : P.info? t = some i) : P.cellsOf t = i.size := by simp [Program.cellsOf, h]
theorem info_of {P : Program} {t : TypeId} {d : TypeDesc} (h : P.underlying t = some d) : ∃ i, P.info? t = some i := by
  unfold Program.underlying at h
  cases hi : P.info? t with
  | none => rw [hi] at h; cases h
  | some i => exact ⟨i, rfl⟩

section
variable {P : Program} {w0 w w' : World} {env0 env : Env} {bad0 : Bs} {fps : List Nat} {base : Nat → Prop} {N : Nat} {s : St} {a : Act} {o : Oper}
  {next : Act → World → Prop} {nx : Act → Prop} {Q : Exit → Act → World → Prop} {K : St → Prop}

/-- An operation that tells a value and leaves memory alone. -/
theorem val_done (hR : R P w0 env0 bad0 fps base N s a w) (hd : ∀ n, o.dst = some n → n < N) (hK : ∀ s' a', K s' → R P w0 env0 bad0 fps base N s' a' w → nx a')
    {v : AV} (h : ∀ env, (∀ n, VRel w env (badOf base env s.regs) (lk s.slots n) (a.tmps.getD n undef)) → RS P w0 w fps base env s.regs → ∃ u, (execOp a.eval o).run P w = .ok (.value u) w ∧ VRel w env (badOf base env s.regs) v u)
    (hk : K (s.put o.dst v)) : o.pureWp P a w nx := by
  obtain ⟨⟨env, hrs, hsl, hev⟩, hsz, hdf⟩ := hR
  obtain ⟨u, hr, hv⟩ := h env hsl hrs
  exact ⟨u, hr, hK _ _ hk (R.put' (regs' := s.regs) hsz hdf hsl hev hrs (Ev.refl _ _ _) hd hv)⟩

/-- An operation that tells a value and neither asks nor turns memory. -/
theorem val_doneT (hR : R P w0 env0 bad0 fps base N s a w) (hd : ∀ n, o.dst = some n → n < N) (hK : ∀ s' a', K s' → R P w0 env0 bad0 fps base N s' a' w → nx a')
    {v : AV} (h : ∀ env, (∀ n, VRel w env (badOf base env s.regs) (lk s.slots n) (a.tmps.getD n undef)) → RS P w0 w fps base env s.regs → ∃ u, (∀ w', (execOp a.eval o).run P w' = .ok (.value u) w') ∧ VRel w env (badOf base env s.regs) v u)
    (hk : K (s.put o.dst v)) : o.timeWp P a nx := by
  obtain ⟨⟨env, hrs, hsl, hev⟩, hsz, hdf⟩ := hR
  obtain ⟨u, hr, hv⟩ := h env hsl hrs
  exact ⟨u, hr, hK _ _ hk (R.put' (regs' := s.regs) hsz hdf hsl hev hrs (Ev.refl _ _ _) hd hv)⟩

theorem sound_mv {x : Operand} {ax : AX} (ho : o.op = .move x ∨ o.op = .assign x) (hx : trX x = some ax) (hd : ∀ n, o.dst = some n → n < N) (h : opW P (.mv o.dst ax) s K)
    (hR : R P w0 env0 bad0 fps base N s a w) (hK : ∀ s' a', K s' → R P w0 env0 bad0 fps base N s' a' w → nx a') : o.timeWp P a nx :=
  val_doneT hR hd hK (fun env hsl _ => ⟨a.eval x, fun w' => by rcases ho with ho | ho <;> simp [execOp, ho], ev_sound hsl hx⟩) h

theorem sound_bin {op : BinOp} {t u : TypeId} {x y : Operand} {ax ay : AX} (ho : o.op = .binOp op t x y u) (hx : trX x = some ax) (hy : trX y = some ay) (hd : ∀ n, o.dst = some n → n < N)
    (h : opW P (.bin o.dst op ax ay) s K) (hR : R P w0 env0 bad0 fps base N s a w) (hK : ∀ s' a', K s' → R P w0 env0 bad0 fps base N s' a' w → nx a') : o.timeWp P a nx := by
  simp only [opW] at h
  split at h
  · rename_i p q hp hq
    obtain ⟨⟨env, hrs, hsl, hev⟩, hsz, hdf⟩ := hR
    have e1 := (val_of (ev_sound hsl hx) hp).1
    have e2 := (val_of (ev_sound hsl hy) hq).1
    obtain ⟨r, hr, hf, hk⟩ := bin_sound (P := P) (t := t) (x := x) (y := y) h
    refine ⟨r, fun w' => ?_, hK _ _ hk (R.put' (regs' := s.regs) hsz hdf hsl hev hrs (Ev.refl _ _ _) hd (vrel_v hf))⟩
    simp only [execOp, ho, e1, e2]
    rw [Sem.run_bind, hr]
    rfl
  · exact h.elim

theorem sound_beq {neg : Bool} {t u : TypeId} {x y : Operand} {ax ay : AX} (ho : o.op = .binOp (if neg then .neq else .eql) t x y u) (ht : P.underlying t = some .bool) (hx : trX x = some ax) (hy : trX y = some ay) (hd : ∀ n, o.dst = some n → n < N)
    (h : opW P (.beq o.dst neg ax ay) s K) (hR : R P w0 env0 bad0 fps base N s a w) (hK : ∀ s' a', K s' → R P w0 env0 bad0 fps base N s' a' w → nx a') : o.timeWp P a nx := by
  simp only [opW] at h
  split at h
  · rename_i p q hp hq
    refine val_doneT hR hd hK (fun env hsl _ => ?_) h
    have e1 := bool_of (ev_sound hsl hx) hp
    have e2 := bool_of (ev_sound hsl hy) hq
    refine ⟨_, fun w' => ?_, vrel_v rfl⟩
    cases neg <;> simp [execOp, ho, e1, e2, eqGuard, binOp, run_equal_bool ht]
  · exact h.elim

theorem sound_pick {c x y : Operand} {ac ax ay : AX} (ho : o.op = .pick c x y) (hc : trX c = some ac) (hx : trX x = some ax) (hy : trX y = some ay) (hd : ∀ n, o.dst = some n → n < N)
    (h : opW P (.pick o.dst ac ax ay) s K) (hR : R P w0 env0 bad0 fps base N s a w) (hK : ∀ s' a', K s' → R P w0 env0 bad0 fps base N s' a' w → nx a') : o.timeWp P a nx := by
  simp only [opW] at h
  split at h
  · rename_i t ht
    cases t with
    | true =>
      refine val_doneT hR hd hK (fun env hsl _ => ?_) (h.1 rfl)
      have e := bool_of (ev_sound hsl hc) ht
      exact ⟨a.eval x, fun w' => by simp [execOp, ho, e, asBool], ev_sound hsl hx⟩
    | false =>
      refine val_doneT hR hd hK (fun env hsl _ => ?_) (h.2 rfl)
      have e := bool_of (ev_sound hsl hc) ht
      exact ⟨a.eval y, fun w' => by simp [execOp, ho, e, asBool], ev_sound hsl hy⟩
  · exact h.elim

theorem sound_un {op : UnOp} {t : TypeId} {x : Operand} {ax : AX} (ho : o.op = .unOp op t x) (hx : trX x = some ax) (hd : ∀ n, o.dst = some n → n < N)
    (h : opW P (.un o.dst op ax) s K) (hR : R P w0 env0 bad0 fps base N s a w) (hK : ∀ s' a', K s' → R P w0 env0 bad0 fps base N s' a' w → nx a') : o.timeWp P a nx := by
  simp only [opW] at h
  split at h
  · rename_i b hb
    refine val_doneT hR hd hK (fun env hsl _ => ?_) h
    have e := (val_of (ev_sound hsl hx) hb).1
    exact ⟨_, fun w' => by simp [execOp, ho, e, Op.unary], vrel_v rfl⟩
  · rename_i k n hb
    refine val_doneT hR hd hK (fun env hsl _ => ?_) h
    have e := (val_of (ev_sound hsl hx) hb).1
    exact ⟨_, fun w' => by simp [execOp, ho, e, Op.unary, Op.intArith]; rfl, by simpa using vrel_v rfl⟩
  · exact h.elim

theorem sound_cvi {t u : TypeId} {k : IntKind} {d : TypeDesc} {x : Operand} {ax : AX} (ho : o.op = .convert t u x) (ht : P.underlying u = some (.int k)) (hu : P.underlying t = some d) (hx : trX x = some ax) (hd : ∀ n, o.dst = some n → n < N)
    (h : opW P (.cvi o.dst k ax) s K) (hR : R P w0 env0 bad0 fps base N s a w) (hK : ∀ s' a', K s' → R P w0 env0 bad0 fps base N s' a' w → nx a') : o.timeWp P a nx := by
  simp only [opW] at h
  split at h
  · rename_i k' n hb
    refine val_doneT hR hd hK (fun env hsl _ => ?_) h
    have e := int_of (ev_sound hsl hx) hb
    exact ⟨_, fun w' => by simp [execOp, ho, e, convert, run_underlying ht, run_underlying hu, Conv.intToInt], vrel_v rfl⟩
  · exact h.elim

theorem sound_nilc {x : Operand} {ax : AX} (ho : o.op = .nilCheck x) (hx : trX x = some ax) (hd : ∀ n, o.dst = some n → n < N)
    (h : opW P (.nilc o.dst ax) s K) (hR : R P w0 env0 bad0 fps base N s a w) (hK : ∀ s' a', K s' → R P w0 env0 bad0 fps base N s' a' w → nx a') : o.timeWp P a nx := by
  simp only [opW] at h
  split at h
  · rename_i id off hb
    refine val_doneT hR hd hK (fun env hsl _ => ?_) h
    have e := ev_sound hsl hx
    rw [hb] at e
    cases e with
    | c e => obtain ⟨hi, g, c, he, e⟩ := e; exact ⟨a.eval x, fun w' => by simp [execOp, ho, e], by rw [e]; exact .c ⟨hi, g, c, he, rfl⟩⟩
  · rename_i id sz i j hb
    refine val_doneT hR hd hK (fun env hsl _ => ?_) h
    have e := ev_sound hsl hx
    rw [hb] at e
    cases e with
    | c e => obtain ⟨hi, g, c, he, e⟩ := e; exact ⟨a.eval x, fun w' => by simp [execOp, ho, e], by rw [e]; exact .c ⟨hi, g, c, he, rfl⟩⟩
  · rename_i l hb
    refine val_doneT hR hd hK (fun env hsl _ => ?_) h
    have e := ev_sound hsl hx
    rw [hb] at e
    cases e with
    | c e => obtain ⟨ad, e, r⟩ := e; exact ⟨a.eval x, fun w' => by simp [execOp, ho, e], by rw [e]; exact .c ⟨ad, rfl, r⟩⟩
  · exact h.elim

theorem add_lit (g o n : Nat) : (⟨g, o, none⟩ : Addr).add n = ⟨g, o + n, none⟩ := by unfold Addr.add; split <;> simp_all

theorem sound_fad {t : TypeId} {fs : Array Field} {f : Field} {k : Nat} {i : TypeInfo} {x : Operand} {ax : AX} (ho : o.op = .fieldAddr t x k) (ht : P.underlying t = some (.struct fs)) (hf : fs[k]? = some f) (hi : P.info? f.type = some i) (h0 : i.size ≠ 0)
    (hx : trX x = some ax) (hd : ∀ n, o.dst = some n → n < N)
    (h : opW P (.fad o.dst f.offset ax) s K) (hR : R P w0 env0 bad0 fps base N s a w) (hK : ∀ s' a', K s' → R P w0 env0 bad0 fps base N s' a' w → nx a') : o.timeWp P a nx := by
  have hrun : ∀ ad, a.eval x = .pointer (some ad) → ∀ w', (execOp a.eval o).run P w' = .ok (.value (.pointer (some (ad.add f.offset)))) w' := by
    intro ad e w'
    simp [execOp, ho, e, Instr.fieldAt, Instr.sureAddr, fieldPlace, run_underlying ht, hf, run_sizeOf' hi, h0]
  simp only [opW] at h
  split at h
  · rename_i id off hb
    refine val_doneT hR hd hK (fun env hsl _ => ?_) h
    have e := ev_sound hsl hx
    rw [hb] at e
    cases e with
    | c e => obtain ⟨hi, g, c, he, e⟩ := e; exact ⟨_, hrun _ e, by rw [add_lit]; exact .c ⟨hi, g, c, he, rfl⟩⟩
  · rename_i id sz i j hb
    refine val_doneT hR hd hK (fun env hsl _ => ?_) h
    have e := ev_sound hsl hx
    rw [hb] at e
    cases e with
    | c e => obtain ⟨hi, g, c, he, e⟩ := e; exact ⟨_, hrun _ e, by rw [add_lit, Nat.add_assoc]; exact .c ⟨hi, g, c, he, rfl⟩⟩
  · rename_i l hb
    refine val_doneT hR hd hK (fun env hsl _ => ?_) h
    have e := ev_sound hsl hx
    rw [hb] at e
    cases e with
    | c e =>
      obtain ⟨ad, e, r1, r2, U, hU⟩ := e
      refine ⟨_, hrun _ e, .c ⟨_, rfl, by rw [block_of_add]; exact r1, by rw [block_of_add]; exact r2, fun j => U (f.offset + j), fun j hj => ?_⟩⟩
      rw [List.length_drop] at hj
      have := hU (f.offset + j) (by omega)
      rw [add_of_add, List.getElem_drop]
      exact this
  · exact h.elim

theorem sound_ext {x : Operand} {k : Nat} {ax : AX} (ho : o.op = .extract x k) (hx : trX x = some ax) (hd : ∀ n, o.dst = some n → n < N)
    (h : opW P (.ext o.dst ax k) s K) (hR : R P w0 env0 bad0 fps base N s a w) (hK : ∀ s' a', K s' → R P w0 env0 bad0 fps base N s' a' w → nx a') : o.timeWp P a nx := by
  simp only [opW] at h
  split at h
  · rename_i l hb
    obtain ⟨v, hv, h⟩ := h
    refine val_doneT hR hd hK (fun env hsl _ => ?_) h
    have e := ev_sound hsl hx
    rw [hb] at e
    obtain ⟨vs, e, hn, hg⟩ := tup_of e
    obtain ⟨h1, rfl⟩ := List.getElem?_eq_some_iff.1 hv
    exact ⟨vs[k]'(by omega), fun w' => by simp [execOp, ho, e, Instr.extract, List.getElem?_eq_getElem (show k < vs.length by omega)], hg k h1 (by omega)⟩
  · exact h.elim

theorem sound_len {x : Operand} {t e : TypeId} {ax : AX} (ho : o.op = .call { callee := .builtin .len, args := #[x], argTypes := #[t] }) (ht : P.underlying t = some (.slice e))
    (hx : trX x = some ax) (hd : ∀ n, o.dst = some n → n < N)
    (h : opW P (.len o.dst ax) s K) (hR : R P w0 env0 bad0 fps base N s a w) (hK : ∀ s' a', K s' → R P w0 env0 bad0 fps base N s' a' w → nx a') : o.timeWp P a nx := by
  simp only [opW] at h
  split at h
  · rename_i n hb
    refine val_doneT hR hd hK (fun env hsl _ => ?_) h
    obtain ⟨A, c, e⟩ := len_of (ev_sound hsl hx) hb
    exact ⟨.int .i64 n, fun w' => by simp [execOp, ho, e, resolve, invoke, builtin, Builtin.len_, run_underlying ht, goInt], vrel_v rfl⟩
  · exact h.elim

theorem sound_lens {x : Operand} {t : TypeId} {ax : AX} (ho : o.op = .call { callee := .builtin .len, args := #[x], argTypes := #[t] }) (ht : P.underlying t = some .string)
    (hx : trX x = some ax) (hd : ∀ n, o.dst = some n → n < N)
    (h : opW P (.lens o.dst ax) s K) (hR : R P w0 env0 bad0 fps base N s a w) (hK : ∀ s' a', K s' → R P w0 env0 bad0 fps base N s' a' w → nx a') : o.timeWp P a nx := by
  simp only [opW] at h
  split at h
  · rename_i b hb
    refine val_doneT hR hd hK (fun env hsl _ => ?_) h
    have e := (val_of (ev_sound hsl hx) hb).1
    exact ⟨.int .i64 b.size, fun w' => by simp [execOp, ho, e, resolve, invoke, builtin, Builtin.len_, run_underlying ht, goInt], vrel_v rfl⟩
  · exact h.elim

theorem pack_sound {w : World} {env : Env} {bad : Nat → Prop} {agg : Bool} {l : List AC} {v : AV} {vs : List Value} (h : All2 (CRel w env bad) l vs) (hp : pack agg l = some v) :
    ∃ u, VRel w env bad v u ∧ (agg = true → u = .agg vs.toArray) ∧ (agg = false → vs = [u]) := by
  unfold pack at hp
  cases agg with
  | true =>
    simp only [if_true] at hp
    split at hp
    · cases hp
      rename_i hk
      exact ⟨_, .agg h hk, (fun _ => rfl), (fun e => by cases e)⟩
    · cases hp
  | false =>
    simp only [Bool.false_eq_true, if_false] at hp
    split at hp
    · cases hp
      match vs, h with
      | [u], h => exact ⟨u, .c h.1, (fun e => by cases e), fun _ => rfl⟩
    · cases hp

theorem All2.drop {α β : Type} {R : α → β → Prop} : ∀ (n : Nat) {l : List α} {m : List β}, All2 R l m → All2 R (l.drop n) (m.drop n)
  | 0, _, _, h => h
  | _ + 1, [], [], _ => trivial
  | n + 1, _ :: _, _ :: _, h => All2.drop n h.2
  | _ + 1, [], _ :: _, h => h.elim
  | _ + 1, _ :: _, [], h => h.elim
theorem All2.take {α β : Type} {R : α → β → Prop} : ∀ (n : Nat) {l : List α} {m : List β}, All2 R l m → All2 R (l.take n) (m.take n)
  | 0, _, _, _ => trivial
  | _ + 1, [], [], _ => trivial
  | n + 1, _ :: _, _ :: _, h => ⟨h.1, All2.take n h.2⟩
  | _ + 1, [], _ :: _, h => h.elim
  | _ + 1, _ :: _, [], h => h.elim

theorem sound_fld {t : TypeId} {fs : Array Field} {f : Field} {k : Nat} {i : TypeInfo} {d : TypeDesc} {x : Operand} {ax : AX} (ho : o.op = .field t x k) (ht : P.underlying t = some (.struct fs)) (hf : fs[k]? = some f) (hi : P.info? f.type = some i)
    (hdd : P.underlying f.type = some d) (hone : aggD d = false → i.size = 1) (hx : trX x = some ax) (hd : ∀ n, o.dst = some n → n < N)
    (h : opW P (.fld o.dst f.offset i.size (aggD d) ax) s K) (hR : R P w0 env0 bad0 fps base N s a w) (hK : ∀ s' a', K s' → R P w0 env0 bad0 fps base N s' a' w → nx a') : o.timeWp P a nx := by
  simp only [opW] at h
  split at h
  · rename_i l hb
    obtain ⟨v, hlen, hp, h⟩ := h
    refine val_doneT hR hd hK (fun env hsl _ => ?_) h
    have e := ev_sound hsl hx
    rw [hb] at e
    obtain ⟨vs, e, h2, hk⟩ := agg_of e
    have hl := h2.len
    obtain ⟨u, hv, h1, h0⟩ := pack_sound ((h2.drop f.offset).take i.size) hp
    refine ⟨u, fun w' => ?_, hv⟩
    cases hag : aggD d with
    | true =>
      rw [h1 hag]
      simp [execOp, ho, e, Instr.field, run_underlying ht, hf, asAgg, part, run_isAgg' hdd, hag, run_sizeOf' hi]
    | false =>
      have h1' := hone hag
      have h0' := h0 hag
      have : vs[f.offset]? = some u := by
        rw [h1'] at h0'
        have := congrArg (·[0]?) h0'
        simpa [List.getElem?_take, List.getElem?_drop] using this
      simp [execOp, ho, e, Instr.field, run_underlying ht, hf, asAgg, part, run_isAgg' hdd, hag, this]
  · exact h.elim

end
end Go.Sim
