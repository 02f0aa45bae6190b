/- The octets of two states are the same just if the states are. No program stands here. -/
import Derived.Test.YtcfheegmggfkfaaCodeF
namespace Go.Sim
open Go.RowKit Go.Proofs.Ytcfheegmggfkfaa.B Go.Proofs
set_option maxRecDepth 100000
def InR (n : Int) : Prop := -9223372036854775808 ≤ n ∧ n < 9223372036854775808
theorem u64w (n : Int) : IntKind.u64.wrap n = n % 18446744073709551616 := by simp [IntKind.wrap, IntKind.bits, IntKind.signed]
theorem u8w (n : Int) : IntKind.u8.wrap n = n % 256 := by simp [IntKind.wrap, IntKind.bits, IntKind.signed]
theorem digit_at (x : Int) (i : Nat) (hi : i < 8) : digit x i = x % 18446744073709551616 / 256 ^ i % 256 := by rw [digit_eq x i hi, u8w, u64w]
theorem oct8_list (x : Int) : oct8 x = [digit x 7, digit x 6, digit x 5, digit x 4, digit x 3, digit x 2, digit x 1, digit x 0] := rfl
theorem oct8_inj {x y : Int} (hx : InR x) (hy : InR y) (h : oct8 x = oct8 y) : x = y := by
  rw [oct8_list, oct8_list] at h
  simp only [List.cons.injEq, and_true] at h
  rw [digit_at x 7 (by omega), digit_at x 6 (by omega), digit_at x 5 (by omega), digit_at x 4 (by omega), digit_at x 3 (by omega), digit_at x 2 (by omega), digit_at x 1 (by omega), digit_at x 0 (by omega),
    digit_at y 7 (by omega), digit_at y 6 (by omega), digit_at y 5 (by omega), digit_at y 4 (by omega), digit_at y 3 (by omega), digit_at y 2 (by omega), digit_at y 1 (by omega), digit_at y 0 (by omega)] at h
  obtain ⟨h7, h6, h5, h4, h3, h2, h1, h0⟩ := h
  obtain ⟨a1, a2⟩ := hx
  obtain ⟨b1, b2⟩ := hy
  have e : x % 18446744073709551616 = y % 18446744073709551616 := by
    have cx := Int.emod_nonneg x (b := 18446744073709551616) (by decide)
    have dx := Int.emod_lt_of_pos x (b := 18446744073709551616) (by decide)
    have cy := Int.emod_nonneg y (b := 18446744073709551616) (by decide)
    have dy := Int.emod_lt_of_pos y (b := 18446744073709551616) (by decide)
    generalize x % 18446744073709551616 = X at *
    generalize y % 18446744073709551616 = Y at *
    have g : ∀ (Z : Int), 0 ≤ Z → Z < 18446744073709551616 → Z = (Z / 256 ^ 7 % 256) * 256 ^ 7 + (Z / 256 ^ 6 % 256) * 256 ^ 6 + (Z / 256 ^ 5 % 256) * 256 ^ 5 + (Z / 256 ^ 4 % 256) * 256 ^ 4 + (Z / 256 ^ 3 % 256) * 256 ^ 3 + (Z / 256 ^ 2 % 256) * 256 ^ 2 + (Z / 256 ^ 1 % 256) * 256 ^ 1 + (Z / 256 ^ 0 % 256) * 256 ^ 0 := by
      intro Z h1 h2
      omega
    rw [g X cx dx, g Y cy dy, h7, h6, h5, h4, h3, h2, h1, h0]
  omega
theorem oct8_byte (x : Int) : ∀ b ∈ oct8 x, 0 ≤ b ∧ b < 256 := by
  intro b hb
  simp only [oct8, List.mem_map, List.mem_range] at hb
  obtain ⟨t, ht, rfl⟩ := hb
  rw [digit_at x _ (by omega)]
  exact ⟨Int.emod_nonneg _ (by decide), Int.emod_lt_of_pos _ (by decide)⟩
theorem V_byte (l : List Int) : ∀ b ∈ V l, 0 ≤ b ∧ b < 256 := by
  intro b hb
  obtain ⟨x, _, hx⟩ := List.mem_flatMap.1 hb
  exact oct8_byte x b hx
theorem V_inj : ∀ {a b : List Int}, (∀ n ∈ a, InR n) → (∀ n ∈ b, InR n) → V a = V b → a = b
  | [], [], _, _, _ => rfl
  | [], y :: b, _, _, h => by have := congrArg List.length h; rw [V_len, V_len] at this; simp at this
  | x :: a, [], _, _, h => by have := congrArg List.length h; rw [V_len, V_len] at this; simp at this
  | x :: a, y :: b, ha, hb, h => by
    have h' : oct8 x ++ V a = oct8 y ++ V b := h
    obtain ⟨h1, h2⟩ := List.append_inj h' (by simp [oct8])
    rw [oct8_inj (ha x (by simp)) (hb y (by simp)) h1, V_inj (fun n hn => ha n (by simp [hn])) (fun n hn => hb n (by simp [hn])) h2]
/-- A text of octets. -/
def strB (xs : List Int) : ByteArray := ⟨(xs.map fun b => UInt8.ofNat b.toNat).toArray⟩
theorem bytes_inj : ∀ {a b : List Int}, (∀ x ∈ a, 0 ≤ x ∧ x < 256) → (∀ x ∈ b, 0 ≤ x ∧ x < 256) → a.map (fun b => UInt8.ofNat b.toNat) = b.map (fun b => UInt8.ofNat b.toNat) → a = b
  | [], [], _, _, _ => rfl
  | [], _ :: _, _, _, h => by simp at h
  | _ :: _, [], _, _, h => by simp at h
  | x :: a, y :: b, ha, hb, h => by
    simp only [List.map_cons, List.cons.injEq] at h
    obtain ⟨x0, x1⟩ := ha x (by simp)
    obtain ⟨y0, y1⟩ := hb y (by simp)
    have hn := congrArg UInt8.toNat h.1
    rw [UInt8.toNat_ofNat', UInt8.toNat_ofNat', Nat.mod_eq_of_lt (by omega), Nat.mod_eq_of_lt (by omega)] at hn
    rw [show x = y by omega, bytes_inj (fun z hz => ha z (by simp [hz])) (fun z hz => hb z (by simp [hz])) h.2]
open Classical in
theorem str_eq {a b : List Int} (ha : ∀ n ∈ a, InR n) (hb : ∀ n ∈ b, InR n) : ((strB (V a)).toList == (strB (V b)).toList) = decide (a = b) := by
  have e : ((strB (V a)).toList = (strB (V b)).toList) ↔ a = b := by
    rw [ByteArray.toList_eq, ByteArray.toList_eq]
    refine ⟨fun h => V_inj ha hb (bytes_inj (V_byte a) (V_byte b) (by simpa [strB] using h)), fun h => by rw [h]⟩
  by_cases h : a = b
  · subst h; simp
  · have : ¬ (strB (V a)).toList = (strB (V b)).toList := fun h' => h (e.1 h')
    simp [h, this]
theorem str_self (a : List Int) : ((strB (V a)).toList == (strB (V a)).toList) = true := by simp

theorem flat_pre {α : Type} {g : α → List Int} (hg : ∀ x y r s, g x ++ r = g y ++ s → x = y ∧ r = s) : ∀ {l m : List α} {r s : List Int}, l.length = m.length → l.flatMap g ++ r = m.flatMap g ++ s → l = m ∧ r = s
  | [], [], _, _, _, h => ⟨rfl, h⟩
  | [], _ :: _, _, _, hl, _ => by simp at hl
  | _ :: _, [], _, _, hl, _ => by simp at hl
  | x :: l, y :: m, r, s, hl, h => by
    rw [List.flatMap_cons, List.flatMap_cons, List.append_assoc, List.append_assoc] at h
    obtain ⟨e1, h⟩ := hg _ _ _ _ h
    obtain ⟨e2, h⟩ := flat_pre hg (by simpa using hl) h
    exact ⟨by rw [e1, e2], h⟩
theorem ints_pre {l m : List Int} {r s : List Int} (hl : l.length = m.length) (h : l ++ r = m ++ s) : l = m ∧ r = s := List.append_inj h hl
theorem word_pre (x y : Int × Int × Int) (r s : List Int) (h : wordN x ++ r = wordN y ++ s) : x = y ∧ r = s := by
  obtain ⟨h1, h2⟩ := List.append_inj h rfl
  exact ⟨wordN_inj h1, h2⟩
theorem ent_pre (x y : Ent) (r s : List Int) (h : entN x ++ r = entN y ++ s) : x = y ∧ r = s := by
  obtain ⟨h1, h2⟩ := List.append_inj h rfl
  exact ⟨entN_inj h1, h2⟩
theorem cel_pre (x y : Cel) (r s : List Int) (h : celN x ++ r = celN y ++ s) : x = y ∧ r = s := by
  obtain ⟨h1, h2⟩ := List.append_inj h rfl
  exact ⟨celN_inj h1, h2⟩
theorem buf_pre (x y : List Ent) (r s : List Int) (h : bufN x ++ r = bufN y ++ s) : x = y ∧ r = s := by
  simp only [bufN, List.cons_append, List.cons.injEq] at h
  exact flat_pre ent_pre (by omega) h.2
theorem thr_pre (a b : Thr) (r s : List Int) (h : a.ns ++ r = b.ns ++ s) : a = b ∧ r = s := by
  simp only [Thr.ns, List.append_assoc, List.cons_append, List.nil_append, List.cons.injEq] at h
  obtain ⟨h1, h2, h3, h⟩ := h
  obtain ⟨h4, h⟩ := flat_pre (g := wordN) (l := [a.r0, a.r1, a.r2, a.r3]) (m := [b.r0, b.r1, b.r2, b.r3]) word_pre rfl h
  simp only [List.cons.injEq, and_true] at h4
  simp only [List.cons.injEq] at h
  obtain ⟨h5, h6, h7, h8, h⟩ := h
  obtain ⟨h9, h⟩ := ints_pre (by omega) h
  simp only [List.cons.injEq] at h
  obtain ⟨h10, h⟩ := h
  obtain ⟨h11, h⟩ := flat_pre (g := wordN) word_pre (by omega) h
  simp only [List.cons.injEq] at h
  obtain ⟨h12, h⟩ := h
  obtain ⟨h13, h⟩ := ints_pre (by omega) h
  simp only [List.cons.injEq] at h
  obtain ⟨h14, hfin⟩ := h
  obtain ⟨a0, a1, a2, a3, a4, a5, a6, a7, a8, a9, a10, a11, a12, a13⟩ := a
  obtain ⟨b0, b1, b2, b3, b4, b5, b6, b7, b8, b9, b10, b11, b12, b13⟩ := b
  simp only at h1 h2 h3 h4 h5 h6 h7 h9 h11 h13 h14
  obtain ⟨g0, g1, g2, g3⟩ := h4
  subst h1 h2 h3 g0 g1 g2 g3 h5 h6 h7 h9 h11 h13 h14
  exact ⟨rfl, hfin⟩
theorem sta_inj {a b : Sta} (h : a.ns = b.ns) : a = b := by
  simp only [Sta.ns, Sta.sharedN, List.append_assoc, List.cons_append, List.nil_append, List.cons.injEq] at h
  obtain ⟨h0, h⟩ := h
  obtain ⟨h1, h⟩ := flat_pre thr_pre (by omega) h
  simp only [List.cons.injEq] at h
  obtain ⟨h2, h⟩ := h
  obtain ⟨h3, h⟩ := flat_pre buf_pre (by omega) h
  simp only [List.cons.injEq] at h
  obtain ⟨h4, h⟩ := h
  obtain ⟨h5, h⟩ := flat_pre (g := wordN) word_pre (by omega) h
  simp only [List.cons.injEq] at h
  obtain ⟨h6, h⟩ := h
  obtain ⟨h7, h⟩ := flat_pre (g := wordN) word_pre (by omega) h
  simp only [List.cons.injEq] at h
  obtain ⟨h8, h⟩ := h
  obtain ⟨h9, h⟩ := flat_pre (g := celN) cel_pre (by omega) h
  simp only [List.cons.injEq] at h
  obtain ⟨h10, h⟩ := h
  obtain ⟨h11, h⟩ := ints_pre (by omega) h
  simp only [List.cons.injEq] at h
  obtain ⟨h12, h13, h⟩ := h
  obtain ⟨h14, h⟩ := ints_pre (by omega) h
  simp only [List.cons.injEq] at h
  exact (Sta.eq_iff a b).2 ⟨h1, h3, h5, h7, h9, h11, h12, h14, h.2⟩
theorem sta_ns (a b : Sta) : a.ns = b.ns ↔ a = b := ⟨sta_inj, fun h => by rw [h]⟩

/-- All its numbers are such as an int holds; it is not too large. -/
structure Sta.Fine (st : Sta) : Prop where
  threads : ∀ th ∈ st.threads, ∀ n ∈ th.ns, InR n
  buffers : ∀ b ∈ st.buffers, ∀ n ∈ bufN b, InR n
  roots : ∀ x ∈ st.roots, ∀ n ∈ wordN x, InR n
  slots : ∀ x ∈ st.slots, ∀ n ∈ wordN x, InR n
  cells : ∀ x ∈ st.cells, ∀ n ∈ celN x, InR n
  free : ∀ n ∈ st.free, InR n
  epoch : InR st.epoch
  marks : ∀ n ∈ st.marks, InR n
  counts : ∀ n ∈ st.counts, InR n
  weight : st.weight ≤ 900000000
theorem Sta.Fine.ns {st : Sta} (h : st.Fine) : ∀ n ∈ st.ns, InR n := by
  have hw := h.weight
  have q4 := thrW_len st.threads
  have q5 := bufW_len st.buffers
  have hb2 : thrW st.threads + bufW st.buffers + st.bulk + 2000 ≤ 900000000 := hw
  have hb3 : st.bulk = 80 * (st.roots.length + st.slots.length + st.cells.length + st.free.length + st.marks.length + st.counts.length) := rfl
  have hl : ∀ n : Nat, n ≤ 900000000 → InR (n : Int) := fun n hn => ⟨by omega, by omega⟩
  intro n hn
  simp only [Sta.ns, Sta.sharedN, List.mem_append, List.mem_singleton, List.mem_flatMap, wordsN, celsN] at hn
  rcases hn with ((((rfl | ⟨x, hx, hn⟩) | rfl) | ⟨x, hx, hn⟩) | ((((((((((((rfl | ⟨x, hx, hn⟩) | rfl) | ⟨x, hx, hn⟩) | rfl) | ⟨x, hx, hn⟩) | rfl) | hn) | rfl) | rfl) | hn) | rfl) | hn))
  · exact hl _ (by omega)
  · exact h.threads x hx n hn
  · exact hl _ (by omega)
  · exact h.buffers x hx n hn
  · exact hl _ (by omega)
  · exact h.roots x hx n hn
  · exact hl _ (by omega)
  · exact h.slots x hx n hn
  · exact hl _ (by omega)
  · exact h.cells x hx n hn
  · exact hl _ (by omega)
  · exact h.free n hn
  · exact h.epoch
  · exact hl _ (by omega)
  · exact h.marks n hn
  · exact hl _ (by omega)
  · exact h.counts n hn
theorem take_len {α : Type} (l : List α) (k : Nat) : (l.take k).length ≤ l.length := by rw [List.length_take]; omega
theorem Sta.Fine.few {st : Sta} (h : st.Fine) : st.few.Fine where
  threads := fun x hx => h.threads x (List.mem_of_mem_take hx)
  buffers := fun x hx => h.buffers x (List.mem_of_mem_take hx)
  roots := fun x hx => h.roots x (List.mem_of_mem_take hx)
  slots := fun x hx => h.slots x (List.mem_of_mem_take hx)
  cells := fun x hx => h.cells x (List.mem_of_mem_take hx)
  free := fun x hx => h.free x (List.mem_of_mem_take hx)
  epoch := h.epoch
  marks := h.marks
  counts := h.counts
  weight := by
    have hw : thrW st.threads + bufW st.buffers + 80 * (st.roots.length + st.slots.length + st.cells.length + st.free.length + st.marks.length + st.counts.length) + 2000 ≤ 900000000 := h.weight
    have e1 := thrW_take st.threads 4
    have e2 := bufW_take st.buffers 4
    have e3 := take_len st.roots 6
    have e4 := take_len st.slots 8
    have e5 := take_len st.cells 6
    have e6 := take_len st.free 8
    show thrW (st.threads.take 4) + bufW (st.buffers.take 4) + 80 * ((st.roots.take 6).length + (st.slots.take 8).length + (st.cells.take 6).length + (st.free.take 8).length + st.marks.length + st.counts.length) + 2000 ≤ 900000000
    omega
end Go.Sim
