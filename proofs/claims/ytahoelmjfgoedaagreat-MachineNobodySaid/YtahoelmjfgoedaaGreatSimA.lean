/- A plain picture of a function's memory: values, rows of cells that the call owns, and how a world shows them. Of no program. -/
import Derived.Test.YtahoelmjfgoedaaGreatB
import Derived.Laws.Cells
import Derived.Laws.CopyRow
namespace Go.Sim
set_option linter.unusedVariables false
set_option linter.unusedSectionVars false
open Go.RowKit Go.Proofs.YtahoelmjfgoedaaGreat.B

/-- A value without memory of its own. -/
def flatv : Value → Bool
  | .bool _ | .int _ _ | .string _ | .nilFunc | .nilIface => true
  | .pointer none | .slice none 0 0 | .map none | .chan none => true
  | _ => false

/-- A pure cell: a plain value, or a slice that nobody writes any more. -/
inductive PV where
  | v (x : Value)
  | sl (sz : Nat) (l : List (List PV))

/-- What a closure carries. -/
inductive FA where
  | p (x : PV)
  | ptr (id off : Nat)

/-- How much room a slice has: all that its row has; so much; that is not known. -/
inductive Cap where
  | free
  | ex (k : Nat)
  | unk

/-- A map, a channel, a loop's yield. -/
inductive HK where
  | mp
  | ch
  | yl
  deriving DecidableEq

/-- A cell: pure; a pure slice without room; a slice over a row of the call's own, from its element off on; a pointer to a struct's cell; a pointer to an element's cell; a pointer to pure cells; a function; anything. -/
inductive AC where
  | p (x : PV)
  | tight (sz : Nat) (l : List (List PV))
  | own (id off sz len : Nat) (cap : Cap)
  | ptr (id off : Nat)
  | ept (id sz i j : Nat)
  | rp (cells : List PV)
  | fn (f : Fn) (first captured : List FA)
  | hnd (k : HK) (id : Nat)
  | any

/-- What lies in a slot: one cell, or a struct's or an array's cells; several such. -/
inductive AV where
  | c (x : AC)
  | agg (l : List AC)
  | tup (l : List AV)

/-- A value whole: a struct's cells, or one. -/
abbrev PW := Bool × List PV
/-- A map, in no order; a channel that is open, with its room. -/
inductive Ob where
  | mp (l : List (PW × PW))
  | ch (cap : Nat) (q : List PW)

/-- How a loop over a function stands; how a round has left it. -/
inductive LpSt where
  | ready
  | busy
  | done
  | over
  deriving DecidableEq
inductive LpEx where
  | ret
  | exit (id : Nat)
  deriving DecidableEq
def LpSt.of : LpSt → LoopState
  | .ready => .ready
  | .busy => .busy
  | .done => .done
  | .over => .exhausted
def LpEx.of : LpEx → Code
  | .ret => .ret
  | .exit id => .exit id
/-- Slots. -/
def lk : List (Nat × AV) → Nat → AV
  | [], _ => .c .any
  | (k, v) :: r, n => if k = n then v else lk r n
/-- A loop over a function, as the program lays it: its parameters, its assignments, its body. -/
structure LoopT where
  ps : Array Tmp
  asg : Code
  body : Code
/-- The loops over functions in a text, in the order of the text. -/
def codeLoops : Code → List LoopT
  | .seq a b => codeLoops a ++ codeLoops b
  | .cond _ a b => codeLoops a ++ codeLoops b
  | .block _ c => codeLoops c
  | .loop c => codeLoops c
  | .rangeFunc _ ps a b => [⟨ps, a, b⟩]
  | _ => []
def lpOf (P : Program) (f j : Nat) : Option (LoopT × Nat) := (P.funcs[f]?).bind fun fn => fn.body.bind fun c => ((codeLoops c)[j]?).map fun l => (l, fn.ntmps)

/-- A row: elements of sz pure cells; a struct's cells; elements of sz cells; a map or a channel; given up. -/
inductive Reg where
  | pc (sz : Nat) (ls : List (List PV))
  | ac (l : List AC)
  | es (sz : Nat) (ls : List (List AC))
  | ob (o : Ob)
  | lp (f j : Nat) (sl : List (Nat × AV)) (st : LpSt) (pe : Option LpEx)
  | dead

def Reg.live : Reg → Bool
  | .dead => false
  | _ => true

/-- Which blocks the rows are, and how many elements each has room for; a row without a block is nil's. -/
structure Env where
  n : Nat
  f : Nat → Option (Nat × Nat)
def Env.push (e : Env) (x : Option (Nat × Nat)) : Env := ⟨e.n + 1, fun i => if i = e.n then x else e.f i⟩
def Env.le (e e' : Env) : Prop := e.n ≤ e'.n ∧ ∀ i, i < e.n → e'.f i = e.f i
theorem Env.le_refl (e : Env) : e.le e := ⟨Nat.le_refl _, fun _ _ => rfl⟩
theorem Env.le_trans {a b c : Env} (h : a.le b) (k : b.le c) : a.le c := ⟨Nat.le_trans h.1 k.1, fun i hi => (k.2 i (Nat.lt_of_lt_of_le hi h.1)).trans (h.2 i hi)⟩
theorem Env.le_push (e : Env) (x : Option (Nat × Nat)) : e.le (e.push x) := ⟨Nat.le_succ _, fun i hi => by simp [Env.push, Nat.ne_of_lt hi]⟩
theorem Env.push_at (e : Env) (x : Option (Nat × Nat)) : (e.push x).f e.n = x := by simp [Env.push]

/-- Two lists, place by place. -/
def All2 {α β : Type} (R : α → β → Prop) : List α → List β → Prop
  | [], [] => True
  | a :: l, b :: m => R a b ∧ All2 R l m
  | _, _ => False
theorem All2.len {α β : Type} {R : α → β → Prop} : ∀ {l : List α} {m : List β}, All2 R l m → l.length = m.length
  | [], [], _ => rfl
  | _ :: _, _ :: _, h => by simp [All2.len h.2]
  | [], _ :: _, h => h.elim
  | _ :: _, [], h => h.elim
theorem All2.imp {α β : Type} {R S : α → β → Prop} (hs : ∀ a b, R a b → S a b) : ∀ {l : List α} {m : List β}, All2 R l m → All2 S l m
  | [], [], _ => trivial
  | _ :: _, _ :: _, h => ⟨hs _ _ h.1, All2.imp hs h.2⟩
  | [], _ :: _, h => h.elim
  | _ :: _, [], h => h.elim
theorem All2.get {α β : Type} {R : α → β → Prop} : ∀ {l : List α} {m : List β}, All2 R l m → ∀ i (h : i < l.length) (h' : i < m.length), R l[i] m[i]
  | _ :: _, _ :: _, h, 0, _, _ => h.1
  | _ :: _, _ :: _, h, i + 1, h1, h2 => All2.get h.2 i (by simpa using h1) (by simpa using h2)
  | [], _, _, i, h1, _ => by simp at h1
  | _ :: _, [], h, _, _, _ => h.elim
theorem All2.of_get {α β : Type} {R : α → β → Prop} : ∀ {l : List α} {m : List β}, l.length = m.length → (∀ i (h : i < l.length) (h' : i < m.length), R l[i] m[i]) → All2 R l m
  | [], [], _, _ => trivial
  | _ :: _, _ :: _, hn, h => ⟨h 0 (by simp) (by simp), All2.of_get (by simpa using hn) fun i h1 h2 => h (i + 1) (by simpa using h1) (by simpa using h2)⟩
  | [], _ :: _, hn, _ => by simp at hn
  | _ :: _, [], hn, _ => by simp at hn
theorem All2.append {α β : Type} {R : α → β → Prop} : ∀ {l l' : List α} {m m' : List β}, All2 R l m → All2 R l' m' → All2 R (l ++ l') (m ++ m')
  | [], _, [], _, _, h' => h'
  | _ :: _, _, _ :: _, _, h, h' => ⟨h.1, All2.append h.2 h'⟩
  | [], _, _ :: _, _, h, _ => h.elim
  | _ :: _, _, [], _, h, _ => h.elim

/-- A pure cell in a world; what it points to lies outside the blocks 'bad'. -/
inductive PRel (w : World) (bad : Nat → Prop) : PV → Value → Prop where
  | v {x : Value} (h : flatv x = true) : PRel w bad (.v x) x
  | sl {sz : Nat} {l : List (List PV)} {A : Option Addr} {n c : Nat} (U : Nat → Nat → Value) (hz : 0 < sz) (hn : n = l.length) (hc : n ≤ c) (hm : n ≤ 140737488351232)
      (hsz : ∀ i (h : i < l.length), l[i].length = sz) (hA : 0 < n → ∃ ad, A = some ad ∧ ¬ bad ad.block)
      (hcell : ∀ ad, A = some ad → ∀ i (h : i < l.length), ∀ j, j < l[i].length → w.cell? (ad.add (i * sz + j)) = some (U i j))
      (h : ∀ i (hi : i < l.length), ∀ j (hj : j < l[i].length), PRel w bad l[i][j] (U i j)) : PRel w bad (.sl sz l) (.slice A n c)

theorem flat_one {x : Value} (h : flatv x = true) : x.oneCell' = true := by
  cases x <;> simp_all [flatv, Value.oneCell']

theorem PRel.one {w : World} {bad : Nat → Prop} {x : PV} {v : Value} (h : PRel w bad x v) : v.oneCell' = true := by
  cases h with
  | v h => exact flat_one h
  | sl => rfl

/-- Nothing but bad blocks, and new ones, has turned. -/
structure Same (bad : Nat → Prop) (w w' : World) : Prop where
  size : w.heap.size ≤ w'.heap.size
  block : ∀ b, b < w.heap.size → ¬ bad b → w'.heap[b]? = w.heap[b]?

/-- Pure cells stay what they are where nothing but bad blocks, and new ones, turn. -/
theorem PRel.step {w w' : World} {bad bad' : Nat → Prop} {x : PV} {v : Value} (hk : Same bad w w')
    (hb : ∀ b, b < w.heap.size → bad' b → bad b) (h : PRel w bad x v) : PRel w' bad' x v := by
  induction h with
  | v h => exact .v h
  | @sl sz l A n c U hz hn hc hm hsz hA hcell h ih =>
    have hlt : ∀ ad, A = some ad → 0 < n → ad.block < w.heap.size := fun ad e h0 => by
      have h1 := hcell ad e 0 (by omega) 0 (by rw [hsz]; exact hz)
      have := World.block_lt_of_cell? w _ h1
      rwa [block_of_add] at this
    have hnb : ∀ ad, A = some ad → 0 < n → ¬ bad ad.block := fun ad e h0 => by
      obtain ⟨ad', e', h⟩ := hA h0
      rw [e] at e'
      cases e'
      exact h
    refine .sl U hz hn hc hm hsz (fun h0 => ?_) (fun ad e i hi j hj => ?_) ih
    · obtain ⟨ad, e, h⟩ := hA h0
      exact ⟨ad, e, fun hx => h (hb _ (hlt ad e h0) hx)⟩
    · rw [World.cell?_of_block (w := w) (by rw [block_of_add]; exact hk.block _ (hlt ad e (by omega)) (hnb ad e (by omega)))]
      exact hcell ad e i hi j hj

/-- A thing that a closure carries. -/
def FRel (w : World) (env : Env) (bad : Nat → Prop) : FA → Value → Prop
  | .p x, v => PRel w bad x v
  | .ptr id off, v => id < env.n ∧ ∃ g c, env.f id = some (g, c) ∧ v = .pointer (some ⟨g, off, none⟩)

/-- The value of a slice over a row. -/
def OwnV (env : Env) (id off sz len : Nat) (cap : Cap) (v : Value) : Prop :=
  id < env.n ∧ ((env.f id = none ∧ off = 0 ∧ len = 0 ∧ v = .slice none 0 0) ∨
    ∃ g c k, env.f id = some (g, c) ∧ v = .slice (some ⟨g, off * sz, none⟩) len k ∧ len ≤ k ∧ (cap = .ex k ∨ cap = .unk ∨ cap = .free ∧ off = 0 ∧ k = c))

/-- A map's, a channel's value. -/
def hndV : HK → Nat → Value
  | .mp, g => .map (some g)
  | .ch, g => .chan (some g)
  | .yl, g => .func (.yield g) #[] #[]

/-- A cell in a world. -/
def CRel (w : World) (env : Env) (bad : Nat → Prop) : AC → Value → Prop
  | .p x, v => PRel w bad x v
  | .tight sz l, v => PRel w bad (.sl sz l) v ∧ ∃ A, v = .slice A l.length l.length
  | .own id off sz len cap, v => OwnV env id off sz len cap v
  | .ept id sz i j, v => id < env.n ∧ ∃ g c, env.f id = some (g, c) ∧ v = .pointer (some ⟨g, i * sz + j, none⟩)
  | .ptr id off, v => id < env.n ∧ ∃ g c, env.f id = some (g, c) ∧ v = .pointer (some ⟨g, off, none⟩)
  | .rp cells, v => ∃ ad, v = .pointer (some ad) ∧ ¬ bad ad.block ∧ ad.block < w.heap.size ∧ ∃ U : Nat → Value, ∀ j (hj : j < cells.length), w.cell? (ad.add j) = some (U j) ∧ PRel w bad cells[j] (U j)
  | .fn f first captured, v => ∃ fs cs : List Value, v = .func f fs.toArray cs.toArray ∧ All2 (FRel w env bad) first fs ∧ All2 (FRel w env bad) captured cs
  | .hnd k id, v => id < env.n ∧ ∃ g c, env.f id = some (g, c) ∧ v = hndV k g
  | .any, _ => True

def AC.known : AC → Bool
  | .any => false
  | _ => true

theorem CRel.one {w : World} {env : Env} {bad : Nat → Prop} {x : AC} {v : Value} (hx : x.known = true) (h : CRel w env bad x v) : v.oneCell' = true := by
  cases x with
  | p x => exact PRel.one h
  | tight sz l => exact PRel.one h.1
  | own id off sz len cap => rcases h.2 with ⟨_, _, _, rfl⟩ | ⟨g, c, k, _, rfl, _⟩ <;> rfl
  | ptr id off => obtain ⟨_, g, c, _, rfl⟩ := h; rfl
  | ept id sz i j => obtain ⟨_, g, c, _, rfl⟩ := h; rfl
  | rp cells => obtain ⟨ad, rfl, _⟩ := h; rfl
  | fn f a b => obtain ⟨fs, cs, rfl, _⟩ := h; rfl
  | hnd k id => obtain ⟨_, g, c, _, rfl⟩ := h; cases k <;> rfl
  | any => cases hx

section
variable {w w' : World} {env env' : Env} {bad bad' : Nat → Prop}
theorem FRel.step (hk : Same bad w w') (hb : ∀ b, b < w.heap.size → bad' b → bad b) (he : env.le env') {x : FA} {v : Value} (h : FRel w env bad x v) : FRel w' env' bad' x v := by
  cases x with
  | p x => exact PRel.step hk hb h
  | ptr id off =>
    obtain ⟨hi, g, c, e, rfl⟩ := h
    exact ⟨Nat.lt_of_lt_of_le hi he.1, g, c, (he.2 id hi).trans e, rfl⟩
theorem OwnV.step (he : env.le env') {id off sz len : Nat} {cap : Cap} {v : Value} (h : OwnV env id off sz len cap v) : OwnV env' id off sz len cap v := by
  obtain ⟨hi, h⟩ := h
  refine ⟨Nat.lt_of_lt_of_le hi he.1, ?_⟩
  rw [he.2 id hi]
  exact h
theorem CRel.step (hk : Same bad w w') (hb : ∀ b, b < w.heap.size → bad' b → bad b) (he : env.le env') {x : AC} {v : Value} (h : CRel w env bad x v) : CRel w' env' bad' x v := by
  cases x with
  | p x => exact PRel.step hk hb h
  | tight sz l => exact ⟨PRel.step hk hb h.1, h.2⟩
  | own id off sz len cap => exact OwnV.step he h
  | ptr id off =>
    obtain ⟨hi, g, c, e, rfl⟩ := h
    exact ⟨Nat.lt_of_lt_of_le hi he.1, g, c, (he.2 id hi).trans e, rfl⟩
  | ept id sz i j =>
    obtain ⟨hi, g, c, e, rfl⟩ := h
    exact ⟨Nat.lt_of_lt_of_le hi he.1, g, c, (he.2 id hi).trans e, rfl⟩
  | rp cells =>
    obtain ⟨ad, rfl, hn, hlt, U, hU⟩ := h
    refine ⟨ad, rfl, fun hx => hn (hb _ hlt hx), Nat.lt_of_lt_of_le hlt hk.size, U, fun j hj => ⟨?_, PRel.step hk hb (hU j hj).2⟩⟩
    rw [World.cell?_of_block (w := w) (by rw [block_of_add]; exact hk.block _ hlt hn)]
    exact (hU j hj).1
  | fn f a b =>
    obtain ⟨fs, cs, rfl, h1, h2⟩ := h
    exact ⟨fs, cs, rfl, h1.imp fun _ _ h => FRel.step hk hb he h, h2.imp fun _ _ h => FRel.step hk hb he h⟩
  | hnd k id =>
    obtain ⟨hi, g, c, e, rfl⟩ := h
    exact ⟨Nat.lt_of_lt_of_le hi he.1, g, c, (he.2 id hi).trans e, rfl⟩
  | any => trivial
end

/-- What is in a slot, in a world. -/
inductive VRel (w : World) (env : Env) (bad : Nat → Prop) : AV → Value → Prop where
  | c {x : AC} {v : Value} (h : CRel w env bad x v) : VRel w env bad (.c x) v
  | agg {l : List AC} {vs : List Value} (h : All2 (CRel w env bad) l vs) (hk : l.all AC.known = true) : VRel w env bad (.agg l) (.agg vs.toArray)
  | tup {l : List AV} {vs : List Value} (hn : l.length = vs.length) (h : ∀ i (h1 : i < l.length) (h2 : i < vs.length), VRel w env bad l[i] vs[i]) : VRel w env bad (.tup l) (.tuple vs.toArray)

theorem VRel.step {w w' : World} {env env' : Env} {bad bad' : Nat → Prop} (hk : Same bad w w') (hb : ∀ b, b < w.heap.size → bad' b → bad b) (he : env.le env') {x : AV} {v : Value}
    (h : VRel w env bad x v) : VRel w' env' bad' x v := by
  induction h with
  | c h => exact .c (CRel.step hk hb he h)
  | agg h hk' => exact .agg (h.imp fun _ _ h => CRel.step hk hb he h) hk'
  | tup hn _ ih => exact .tup hn ih

/-- A whole value in a world. -/
def WRel (w : World) (bad : Nat → Prop) : PW → Value → Prop
  | (true, l), v => ∃ vs : List Value, v = .agg vs.toArray ∧ All2 (PRel w bad) l vs
  | (false, [x]), v => PRel w bad x v
  | (false, _), _ => False
theorem WRel.imp {w w' : World} {bad bad' : Nat → Prop} (hp : ∀ x v, PRel w bad x v → PRel w' bad' x v) : ∀ {p : PW} {v : Value}, WRel w bad p v → WRel w' bad' p v
  | (true, _), _, ⟨vs, e, h⟩ => ⟨vs, e, h.imp hp⟩
  | (false, [x]), v, h => hp x v h
  | (false, []), _, h => h.elim
  | (false, _ :: _ :: _), _, h => h.elim
/-- A map, a channel in a world, in the block g. -/
def ObRel (w : World) (bad : Nat → Prop) (g : Nat) : Ob → Prop
  | .mp l => ∃ (es : Array MapEntry) (clock : Nat) (l' : List (PW × PW)), w.heap[g]? = some (.map es clock) ∧ l'.Perm l ∧ All2 (fun (p : PW × PW) (e : MapEntry) => WRel w bad p.1 e.key ∧ WRel w bad p.2 e.val) l' es.toList
  | .ch cap q => ∃ (buf : Array Value) (s r : Nat), w.heap[g]? = some (.chan cap buf false s r false) ∧ All2 (WRel w bad) q buf.toList
theorem ObRel.carry {w w' : World} {bad bad' : Nat → Prop} {g : Nat} {o : Ob} (h : ObRel w bad g o) (hg : w'.heap[g]? = w.heap[g]?) (hp : ∀ x v, PRel w bad x v → PRel w' bad' x v) : ObRel w' bad' g o := by
  cases o with
  | mp l =>
    obtain ⟨es, clock, l', h1, h2, h3⟩ := h
    exact ⟨es, clock, l', hg.trans h1, h2, h3.imp fun _ _ h => ⟨WRel.imp hp h.1, WRel.imp hp h.2⟩⟩
  | ch cap q =>
    obtain ⟨buf, s, r, h1, h2⟩ := h
    exact ⟨buf, s, r, hg.trans h1, h2.imp fun _ _ h => WRel.imp hp h⟩

/-- A row in a world. -/
def RRel (P : Program) (w : World) (env : Env) (bad : Nat → Prop) (id : Nat) : Reg → Prop
  | .dead => True
  | .pc sz ls => 0 < sz ∧ (∀ i (h : i < ls.length), ls[i].length = sz) ∧ ((env.f id = none ∧ ls = []) ∨
      ∃ g c cur t, env.f id = some (g, c) ∧ w.heap[g]? = some (.cells cur t (0, 0)) ∧ cur.size = c * sz ∧ c ≤ 9223372036854775807 ∧ ls.length ≤ c ∧
        ∀ i (h : i < ls.length), ∀ j (h' : j < ls[i].length), ∃ u, cur[i * sz + j]? = some u ∧ PRel w bad ls[i][j] u)
  | .es sz ls => 0 < sz ∧ (∀ i (h : i < ls.length), ls[i].length = sz) ∧ ((env.f id = none ∧ ls = []) ∨
      ∃ g c cur t, env.f id = some (g, c) ∧ w.heap[g]? = some (.cells cur t (0, 0)) ∧ cur.size = c * sz ∧ c ≤ 9223372036854775807 ∧ ls.length ≤ c ∧
        ∀ i (h : i < ls.length), ∀ j (h' : j < ls[i].length), ∃ u, cur[i * sz + j]? = some u ∧ CRel w env bad ls[i][j] u ∧ ls[i][j].known = true)
  | .ob o => ∃ g c, env.f id = some (g, c) ∧ ObRel w bad g o
  | .lp f j sl st pe => ∃ g c L N fn tmps D, env.f id = some (g, c) ∧ lpOf P f j = some (L, N) ∧ w.heap[g]? = some (.loop { state := st.of, pending := pe.map LpEx.of, fn := fn, tmps := tmps, params := L.ps, assign := L.asg, body := L.body, defers := D }) ∧
      tmps.size = N ∧ ∀ n, VRel w env bad (lk sl n) (tmps.getD n undef)
  | .ac l => ∃ g c cur t, env.f id = some (g, c) ∧ w.heap[g]? = some (.cells cur t (0, 0)) ∧ l.length = cur.size ∧
      ∀ j (h : j < l.length), ∃ u, cur[j]? = some u ∧ CRel w env bad l[j] u ∧ l[j].known = true

/-- The blocks that a pure cell must not lie in. -/
def badOf (base : Nat → Prop) (env : Env) (regs : List Reg) (b : Nat) : Prop :=
  base b ∨ ∃ id r c, regs[id]? = some r ∧ r.live = true ∧ env.f id = some (b, c)

/-- All rows in a world: w0 is the world at the start; fps are the blocks of then that may turn; base are blocks that nobody here knows. -/
structure RS (P : Program) (w0 w : World) (fps : List Nat) (base : Nat → Prop) (env : Env) (regs : List Reg) : Prop where
  keep : Keep fps w0 w
  base_lt : ∀ b, base b → b < w0.heap.size ∧ b ∉ fps
  len : env.n = regs.length
  reg : ∀ id r, regs[id]? = some r → RRel P w env (badOf base env regs) id r
  own : ∀ id r g c, regs[id]? = some r → r.live = true → env.f id = some (g, c) → (g ∈ fps ∨ w0.heap.size ≤ g) ∧ g < w.heap.size
  inj : ∀ i j r r' g c c', regs[i]? = some r → regs[j]? = some r' → r.live = true → r'.live = true → env.f i = some (g, c) → env.f j = some (g, c') → i = j

end Go.Sim
