/- Words for memory: what a call keeps, a slice that reads as a list of a kind, an append onto a row of the call's own. Of no program. -/
import Derived.Below
import Derived.Laws.OwnMore
import Derived.Deep.AppendLies
import Derived.Deep.Draws
import Derived.Laws.Rows
import Derived.Maps.AppendAt
import Derived.RegionTactic
import Derived.OwnWalk
namespace Go.Proofs.YtahoelmjfgoedaaGreat.B
open Go.RowKit

theorem block_of_add (a : Addr) (n : Nat) : (a.add n).block = a.block := by unfold Addr.add; split <;> rfl
theorem add_of_add (a : Addr) (i j : Nat) : (a.add i).add j = a.add (i + j) := by
  unfold Addr.add
  by_cases hi : i = 0 <;> by_cases hj : j = 0 <;> simp [hi, hj, Nat.add_assoc]

/-- Of what was there all is as it was, but the blocks fp. -/
structure Keep (fp : List Nat) (w w' : World) : Prop where
  os : w'.os = w.os
  tape : w'.tape = w.tape
  output : w'.output = w.output
  size : w.heap.size ≤ w'.heap.size
  block : ∀ k, k < w.heap.size → k ∉ fp → w'.heap[k]? = w.heap[k]?

section
variable {fp fp' : List Nat} {w w' w'' : World}
theorem Keep.refl (fp : List Nat) (w : World) : Keep fp w w := ⟨rfl, rfl, rfl, Nat.le_refl _, fun _ _ _ => rfl⟩
theorem Keep.trans (h : Keep fp w w') (k : Keep fp w' w'') : Keep fp w w'' :=
  ⟨k.os.trans h.os, k.tape.trans h.tape, k.output.trans h.output, Nat.le_trans h.size k.size, fun i hi hn => (k.block i (Nat.lt_of_lt_of_le hi h.size) hn).trans (h.block i hi hn)⟩
/-- Two steps, the second one's blocks the first one's or new. -/
theorem Keep.trans' (h : Keep fp w w') (k : Keep fp' w' w'') (hs : ∀ b, b ∈ fp' → b ∈ fp ∨ w.heap.size ≤ b) : Keep fp w w'' :=
  ⟨k.os.trans h.os, k.tape.trans h.tape, k.output.trans h.output, Nat.le_trans h.size k.size, fun i hi hn => (k.block i (Nat.lt_of_lt_of_le hi h.size) (fun hm => by rcases hs i hm with h | h; exact hn h; omega)).trans (h.block i hi hn)⟩
theorem Keep.more (h : Keep fp w w') (hs : ∀ b, b ∈ fp → b ∈ fp') : Keep fp' w w' := ⟨h.os, h.tape, h.output, h.size, fun i hi hn => h.block i hi fun hm => hn (hs i hm)⟩
theorem Keep.of_below (h : Below w.heap.size w w') : Keep fp w w' := ⟨h.os, h.tape, h.output, h.size, fun i hi _ => h.block i hi⟩
theorem Keep.below (h : Keep [] w w') : Below w.heap.size w w' := ⟨h.os, h.tape, h.output, h.size, fun i hi => h.block i hi (by simp)⟩
theorem Keep.alloc (h : Keep fp w w') (o : Obj) : Keep fp w (w'.alloc o) :=
  h.trans ⟨rfl, rfl, rfl, by simp, fun k hk _ => Below.heap_alloc _ _ _ hk⟩
theorem Keep.drew (h : Keep fp w w') : Keep fp w w'.drew := ⟨h.os, h.tape, h.output, h.size, h.block⟩
theorem Keep.drewN (h : Keep fp w w') (n : Nat) : Keep fp w (w'.drewN n) := ⟨h.os, h.tape, h.output, h.size, h.block⟩
theorem Keep.set (h : Keep fp w w') {p : Addr} (hp : p.block ∈ fp ∨ w.heap.size ≤ p.block) (u : Value) : Keep fp w (w'.setCell p u) :=
  ⟨h.os, h.tape, h.output, by simpa [World.setCell] using h.size, fun k hk hn => (Below.heap_setCell _ _ _ _ (by rintro rfl; rcases hp with hp | hp; exact hn hp; omega)).trans (h.block k hk hn)⟩
theorem Keep.grown (h : Keep fp w w') {row : Option Nat} (hg : w'.grownBy w'' row) (hr : ∀ b, row = some b → b ∈ fp ∨ w.heap.size ≤ b) : Keep fp w w'' :=
  ⟨hg.os.trans h.os, hg.tape.trans h.tape, hg.output.trans h.output, Nat.le_trans h.size hg.size, fun k hk hn => (hg.block k (Nat.lt_of_lt_of_le hk h.size) (fun e => by rcases hr k e.symm with h | h; exact hn h; omega)).trans (h.block k hk hn)⟩
theorem Keep.cell (h : Keep fp w w') {p : Addr} (hp : p.block < w.heap.size) (hn : p.block ∉ fp) : w'.cell? p = w.cell? p := World.cell?_of_block (h.block p.block hp hn)
theorem Keep.frozen (h : Keep fp w w') {p : Addr} (hp : p.block < w.heap.size) (hn : p.block ∉ fp) : w'.frozen? p = w.frozen? p := World.frozen?_of_block (h.block p.block hp hn)
end

/-- A block that is known whole. -/
def Blk (w : World) (g : Nat) (t : TypeId) (cs : Array Value) : Prop := w.heap[g]? = some (.cells cs t (0, 0))
section
variable {w w' : World} {g : Nat} {t : TypeId} {cs : Array Value} {fp : List Nat}
theorem Blk.lt (h : Blk w g t cs) : g < w.heap.size := by
  rcases Nat.lt_or_ge g w.heap.size with hlt | hge
  · exact hlt
  · unfold Blk at h; rw [Array.getElem?_eq_none hge] at h; cases h
theorem Blk.cell (h : Blk w g t cs) (i : Nat) : w.cell? ⟨g, i, none⟩ = cs[i]? := cell_of_row w g i cs t (0, 0) h
theorem Blk.frozen (h : Blk w g t cs) (i : Nat) : w.frozen? ⟨g, i, none⟩ = false := by
  unfold Blk at h
  simp [World.frozen?, h]
theorem Blk.new (w : World) (t : TypeId) (cs : Array Value) : Blk (w.alloc (.cells cs t)) w.heap.size t cs := heap_alloc_new w _
theorem Blk.alloc (h : Blk w g t cs) (o : Obj) : Blk (w.alloc o) g t cs := (Below.heap_alloc w o g h.lt).trans h
theorem Blk.drew (h : Blk w g t cs) : Blk w.drew g t cs := h
theorem Blk.drewN (h : Blk w g t cs) (n : Nat) : Blk (w.drewN n) g t cs := h
theorem Blk.set_ (h : Blk w g t cs) (i : Nat) (u : Value) : Blk (w.setCell ⟨g, i, none⟩ u) g t (cs.setIfInBounds i u) := by
  unfold Blk at h ⊢
  simp [World.setCell, Array.getElem?_modify, h]
theorem Blk.far (h : Blk w g t cs) {p : Addr} (hp : g ≠ p.block) (u : Value) : Blk (w.setCell p u) g t cs := (Below.heap_setCell w p u g hp).trans h
theorem Blk.keep (h : Blk w g t cs) (hk : Keep fp w w') (hg : g ∉ fp) : Blk w' g t cs := (hk.block g h.lt hg).trans h
theorem Blk.grown {row : Option Nat} (h : Blk w g t cs) (hb : w.grownBy w' row) (hg : some g ≠ row) : Blk w' g t cs := (hb.block g h.lt hg).trans h
end

/-- A kind: how a thing lies in cells, all that it points to lying outside the blocks fp. -/
structure Kd (α : Type) where
  sz : Nat
  rd : World → List Nat → α → List Value → Prop
  len : ∀ {w fp x cs}, rd w fp x cs → cs.length = sz
  one : ∀ {w fp x cs}, rd w fp x cs → ∀ u ∈ cs, u.oneCell' = true
  step : ∀ {w w' fp fp' x cs}, Keep fp w w' → (∀ b, b ∈ fp' → b ∈ fp ∨ w.heap.size ≤ b) → rd w fp x cs → rd w' fp' x cs

/-- A kind without pointers. -/
def Kd.flat {α : Type} (n : Nat) (enc : α → List Value) (h : ∀ x, (enc x).length = n) (h1 : ∀ x, ∀ u ∈ enc x, u.oneCell' = true) : Kd α where
  sz := n
  rd := fun _ _ x cs => cs = enc x
  len := fun e => by subst e; exact h _
  one := fun e => by subst e; exact h1 _
  step := fun _ _ e => e

/-- Cells of many, one behind the other. -/
def Kd.cat {α : Type} (k : Kd α) (w : World) (fp : List Nat) : List α → List Value → Prop
  | [], cs => cs = []
  | x :: l, cs => ∃ c r, cs = c ++ r ∧ k.rd w fp x c ∧ k.cat w fp l r

section
variable {α : Type} {k : Kd α} {w w' : World} {fp fp' : List Nat}
theorem Kd.cat_len : ∀ {l : List α} {cs : List Value}, k.cat w fp l cs → cs.length = l.length * k.sz
  | [], cs, h => by cases h; simp
  | x :: l, cs, h => by
    obtain ⟨c, r, rfl, hc, hr⟩ := h
    rw [List.length_append, k.len hc, Kd.cat_len hr, List.length_cons, Nat.succ_mul, Nat.add_comm]
theorem Kd.cat_one : ∀ {l : List α} {cs : List Value}, k.cat w fp l cs → ∀ u ∈ cs, u.oneCell' = true
  | [], cs, h => by cases h; simp
  | x :: l, cs, h => by
    obtain ⟨c, r, rfl, hc, hr⟩ := h
    intro u hu
    rcases List.mem_append.1 hu with hu | hu
    · exact k.one hc u hu
    · exact Kd.cat_one hr u hu
theorem Kd.cat_step (hk : Keep fp w w') (hs : ∀ b, b ∈ fp' → b ∈ fp ∨ w.heap.size ≤ b) : ∀ {l : List α} {cs : List Value}, k.cat w fp l cs → k.cat w' fp' l cs
  | [], _, h => h
  | _ :: _, _, h => by
    obtain ⟨c, r, rfl, hc, hr⟩ := h
    exact ⟨c, r, rfl, k.step hk hs hc, Kd.cat_step hk hs hr⟩
theorem Kd.cat_append : ∀ {l l' : List α} {cs cs' : List Value}, k.cat w fp l cs → k.cat w fp l' cs' → k.cat w fp (l ++ l') (cs ++ cs')
  | [], _, _, _, h, h' => by cases h; exact h'
  | _ :: _, _, _, _, h, h' => by
    obtain ⟨c, r, rfl, hc, hr⟩ := h
    exact ⟨c, r ++ _, List.append_assoc .., hc, Kd.cat_append hr h'⟩
theorem Kd.cat_at : ∀ {l : List α} {cs : List Value}, k.cat w fp l cs → ∀ i (h : i < l.length), ∃ c, k.rd w fp l[i] c ∧ ∀ j u, c[j]? = some u → cs[i * k.sz + j]? = some u
  | [], _, _, i, h => by simp at h
  | x :: l, cs, hc, i, h => by
    obtain ⟨c, r, rfl, hx, hr⟩ := hc
    cases i with
    | zero =>
      refine ⟨c, hx, fun j u hu => ?_⟩
      rw [Nat.zero_mul, Nat.zero_add, List.getElem?_append_left (by rcases Nat.lt_or_ge j c.length with h | h; exact h; rw [List.getElem?_eq_none h] at hu; cases hu)]
      exact hu
    | succ i =>
      obtain ⟨c', h1, h2⟩ := Kd.cat_at hr i (by simpa using h)
      refine ⟨c', h1, fun j u hu => ?_⟩
      rw [List.getElem?_append_right (by rw [k.len hx, Nat.succ_mul]; omega), k.len hx, show (i + 1) * k.sz + j - k.sz = i * k.sz + j from by rw [Nat.succ_mul]; omega]
      exact h2 j u hu
end

/-- The slice's address, where it has elements, is that of cells that read so. -/
def Kd.C {α : Type} (k : Kd α) (w : World) (fp : List Nat) (A : Option Addr) (l : List α) : Prop :=
  ∃ cs, k.cat w fp l cs ∧ l.length ≤ 140737488351232 ∧ (0 < l.length → ∃ ad, A = some ad ∧ ad.block ∉ fp ∧ ∀ j u, cs[j]? = some u → w.cell? (ad.add j) = some u)

section
variable {α : Type} {k : Kd α} {w w' : World} {fp fp' : List Nat} {A : Option Addr} {l : List α}
theorem Kd.C_nil (k : Kd α) (w : World) (fp : List Nat) (A : Option Addr) : k.C w fp A [] := ⟨[], rfl, by simp, fun h => absurd h (by simp)⟩
theorem Kd.C_step (hk : Keep fp w w') (hs : ∀ b, b ∈ fp' → b ∈ fp ∨ w.heap.size ≤ b) (hz : 0 < k.sz) (h : k.C w fp A l) : k.C w' fp' A l := by
  obtain ⟨cs, hc, hl, ha⟩ := h
  refine ⟨cs, Kd.cat_step hk hs hc, hl, fun h0 => ?_⟩
  obtain ⟨ad, e, hn, hcell⟩ := ha h0
  have hlen := Kd.cat_len hc
  have hpos : 0 < cs.length := by rw [hlen]; exact Nat.mul_pos h0 hz
  have hb : ad.block < w.heap.size := by
    have := World.block_lt_of_cell? w _ (hcell 0 _ (List.getElem?_eq_getElem hpos))
    rwa [block_of_add] at this
  refine ⟨ad, e, fun hm => ?_, fun j u hu => ?_⟩
  · rcases hs _ hm with h | h
    · exact hn h
    · omega
  · rw [hk.cell (by rw [block_of_add]; exact hb) (by rw [block_of_add]; exact hn)]
    exact hcell j u hu
theorem Kd.C_at (h : k.C w fp A l) (i : Nat) (hi : i < l.length) : ∃ ad c, A = some ad ∧ ad.block ∉ fp ∧ k.rd w fp l[i] c ∧ ∀ j u, c[j]? = some u → w.cell? (ad.add (i * k.sz + j)) = some u := by
  obtain ⟨cs, hc, _, ha⟩ := h
  obtain ⟨ad, e, hn, hcell⟩ := ha (by omega)
  obtain ⟨c, h1, h2⟩ := Kd.cat_at hc i hi
  exact ⟨ad, c, e, hn, h1, fun j u hu => hcell _ u (h2 j u hu)⟩
end

/-- The value is a slice that reads so. -/
def Kd.S {α : Type} (k : Kd α) (w : World) (fp : List Nat) (l : List α) (v : Value) : Prop := ∃ A c, v = .slice A l.length c ∧ l.length ≤ c ∧ k.C w fp A l
theorem Kd.S_step {α : Type} {k : Kd α} {w w' : World} {fp fp' : List Nat} {l : List α} {v : Value} (hk : Keep fp w w') (hs : ∀ b, b ∈ fp' → b ∈ fp ∨ w.heap.size ≤ b) (hz : 0 < k.sz) (h : k.S w fp l v) : k.S w' fp' l v := by
  obtain ⟨A, c, rfl, hc, h⟩ := h
  exact ⟨A, c, rfl, hc, Kd.C_step hk hs hz h⟩

/-- The words of a slice type: t is '[]e', an element has size cells and bytes octets, z is its nought. -/
structure SlT (P : Program) (t e : TypeId) (size bytes : Nat) (z : Value) : Prop where
  under : P.underlying t = some (.slice e)
  info : (P.info? e).map (fun i => (i.zero, i.size, i.bytes)) = some (some z, size, bytes)
  zs : z.cells.size = size
  pos : 0 < size

/-- What an append takes its new elements from. -/
def Src (w : World) (size : Nat) (A : Option Addr) (m : Nat) (news : List Value) : Prop :=
  news.length = m * size ∧ (∀ u ∈ news, u.oneCell' = true) ∧ (0 < m → ∃ ad, A = some ad ∧ ∀ j u, news[j]? = some u → w.cell? (ad.add j) = some u)

theorem Src.of_C {α : Type} {k : Kd α} {w : World} {fp : List Nat} {A : Option Addr} {l : List α} (h : k.C w fp A l) : ∃ cs, k.cat w fp l cs ∧ Src w k.sz A l.length cs := by
  obtain ⟨cs, hc, _, ha⟩ := h
  refine ⟨cs, hc, Kd.cat_len hc, Kd.cat_one hc, fun h0 => ?_⟩
  obtain ⟨ad, e, _, hcell⟩ := ha h0
  exact ⟨ad, e, hcell⟩

section
variable {P : Program} {w : World} {t e : TypeId} {size bytes : Nat} {z : Value}

theorem run_append {ty : TypeId} (hT : SlT P t e size bytes z) {base : Nat} {v : Value} {n : Nat} {xs : List Value} (hown : w.ownsRow base e size v n xs)
    {A : Option Addr} {m c : Nat} {news : List Value} (hr : Src w size A m news) (h63 : n + m ≤ 140737488355328) (hbytes : (n + m) * bytes ≤ 140737488355328) (hbase : base ≤ w.heap.size) :
    ∃ v' w', (Builtin.append_ #[t, t] ty #[v, .slice A m c]).run P w = .ok v' w' ∧ w'.ownsRow base e size v' (n + m) (xs ++ news) ∧ w.grownBy w' v.ownBlock ∧
      (v'.ownBlock = v.ownBlock ∨ v'.ownBlock = some w.heap.size) := by
  obtain ⟨ht, hinfo, hzs, hsz⟩ := hT
  obtain ⟨i, hi, hz, hsize, hby⟩ := info_parts hinfo
  rcases A with _ | ad
  · have hm : m = 0 := by
      rcases Nat.eq_zero_or_pos m with h0 | h0
      · exact h0
      · obtain ⟨ad, h, _⟩ := hr.2.2 h0
        cases h
    subst hm
    have hn : news = [] := List.eq_nil_of_length_eq_zero (by simpa using hr.1)
    subst hn
    refine ⟨v, w, ?_, by simpa using hown, World.grownBy.refl w _, .inl rfl⟩
    rcases hown.2 with ⟨rfl, rfl⟩ | ⟨g, cap, cur, rfl, _, _, hnc, _⟩
    · simp [Builtin.append_, run_underlying ht, sizeOf, typeInfo, hi, Builtin.lenOf, Builtin.firstCells]
    · simp [Builtin.append_, run_underlying ht, sizeOf, typeInfo, hi, Builtin.lenOf, Builtin.firstCells, hnc, storeCells]
  · have hcells : ∀ j u, news[j]? = some u → w.cell? (ad.add j) = some u := by
      intro j u hu
      rcases Nat.eq_zero_or_pos m with h0 | h0
      · subst h0
        have hn : news = [] := List.eq_nil_of_length_eq_zero (by simpa using hr.1)
        subst hn
        simp at hu
      · obtain ⟨ad', h, hc⟩ := hr.2.2 h0
        injection h with h
        subst h
        exact hc j u hu
    obtain ⟨v', w', hrun, h2, h3, _, h5⟩ := run_append_own_at (P := P) w base t ty e i z size bytes ht hi hz hsize hby hzs hsz v n xs hown ad m c news hr.1 hcells hr.2.1 (by simp only [maxLen]; omega) hbytes hbase
    exact ⟨v', w', hrun, h2, h3, h5⟩

theorem wp_app {o : Oper} {a : Act} {K : Act → World → Prop} {Q : Exit → Act → World → Prop} {s x : Operand}
    (ho : o.op = .call { callee := .builtin .append, args := #[s, x], argTypes := #[t, t] }) (hT : SlT P t e size bytes z)
    {base : Nat} {v : Value} {n : Nat} {xs : List Value} (hs : a.eval s = v) (hown : w.ownsRow base e size v n xs)
    {A : Option Addr} {m c : Nat} {news : List Value} (hx : a.eval x = .slice A m c) (hr : Src w size A m news) (h63 : n + m ≤ 140737488355328) (hbytes : (n + m) * bytes ≤ 140737488355328) (hbase : base ≤ w.heap.size)
    (h : ∀ v' w', w'.ownsRow base e size v' (n + m) (xs ++ news) → w.grownBy w' v.ownBlock → (v'.ownBlock = v.ownBlock ∨ v'.ownBlock = some w.heap.size) → K (a.put o.dst v') w') : o.wp P a w K Q := by
  obtain ⟨v', w', hrun, h2, h3, h4⟩ := run_append (ty := o.type) hT hown hr h63 hbytes hbase (c := c)
  unfold Oper.wp execOp
  simp only [ho, resolve, invoke, builtin, Sem.run_bind, Sem.run_pure, Result.andThen_ok, List.map_toArray, List.map_cons, List.map_nil, hs, hx, hrun]
  exact h v' w' h2 h3 h4

/-- An append onto what the call owns, in a plain region. -/
theorem app {ops : Array Oper} {rest : List Oper} {o : Oper} {a : Act} {Q : Exit → Act → World → Prop} {s x : Operand}
    (ho : o.op = .call { callee := .builtin .append, args := #[s, x], argTypes := #[t, t] }) (hgd : o.guard = none) (hT : SlT P t e size bytes z)
    {base : Nat} {v : Value} {n : Nat} {xs : List Value} (hs : a.eval s = v) (hown : w.ownsRow base e size v n xs)
    {A : Option Addr} {m c : Nat} {news : List Value} (hx : a.eval x = .slice A m c) (hr : Src w size A m news) (h63 : n + m ≤ 140737488355328) (hbytes : (n + m) * bytes ≤ 140737488355328) (hbase : base ≤ w.heap.size)
    (h : ∀ v' w', w'.ownsRow base e size v' (n + m) (xs ++ news) → w.grownBy w' v.ownBlock → (v'.ownBlock = v.ownBlock ∨ v'.ownBlock = some w.heap.size) → wpList P ops Q rest (a.put o.dst v') w') : wpList P ops Q (o :: rest) a w :=
  wpList_plain hgd fun _ hK => wp_app ho hT hs hown hx hr h63 hbytes hbase fun v' w' h2 h3 h4 => hK _ _ (h v' w' h2 h3 h4)
end

end Go.Proofs.YtahoelmjfgoedaaGreat.B
