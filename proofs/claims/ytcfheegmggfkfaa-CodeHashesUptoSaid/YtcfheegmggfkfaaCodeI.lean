/- The readings of a state's cells as plain numbers. -/
import Derived.Test.YtcfheegmggfkfaaRows
import Derived.Test.YtcfheegmggfkfaaCodeH
import Derived.OpenShut
import Derived.ChangeOld
import Derived.Below
import Derived.SizedLaws
import Derived.WalkKit
import Derived.ProofKit
import Derived.ShutString
namespace Go.Sim
open Go.RowKit Go.Proofs.Ytcfheegmggfkfaa Go.Proofs.Ytcfheegmggfkfaa.B Go.Proofs
open Go.Proofs.Ytcfheegmggfkfaa.Rows (uptoBulk uptoBulkAll uptoSmall)
set_option maxRecDepth 100000
set_option linter.unusedVariables false
set_option linter.unusedSimpArgs false
section
variable {H : Type} {enc : TypeId × Value → H} {w : World}
def nobad : Nat → Prop := fun _ => False
theorem bulk_pos : ∀ d : DataW H, 1 ≤ uptoBulk d := by
  intro d
  cases d with
  | lit l => cases l <;> simp [uptoBulk]
  | nil => simp [uptoBulk]
  | ptr d => simp [uptoBulk]
  | slice a b => simp [uptoBulk]
  | agg a => simp [uptoBulk]
  | iface t d => simp [uptoBulk]
  | map e => simp [uptoBulk]
  | held h => simp [uptoBulk]
theorem bulk_len : ∀ l : List (DataW H), l.length ≤ uptoBulkAll l
  | [] => Nat.zero_le _
  | d :: l => by
    have := bulk_len l
    have := bulk_pos d
    simp only [List.length_cons, uptoBulkAll]; omega
theorem bulk_mem : ∀ (l : List (DataW H)) (i : Nat) (d : DataW H), l[i]? = some d → uptoBulk d ≤ uptoBulkAll l
  | d :: l, 0, d', h => by
    simp only [List.getElem?_cons_zero, Option.some.injEq] at h
    subst h
    simp only [uptoBulkAll]; omega
  | d :: l, i + 1, d', h => by
    have := bulk_mem l i d' (by simpa using h)
    simp only [uptoBulkAll]; omega
  | [], _, _, h => by simp at h

/-- What is read at a type is such a thing. -/
def Reads (enc : TypeId × Value → H) (w : World) (t : TypeId) {α : Type} (cells : α → List PV) (F : α → Prop) (wt : α → Nat) (c : Nat) : Prop :=
  ∀ (fuel : Nat) (cs : List Value) (d : DataW H) (ps : List MemPlace), DataW.trod enc Try.prog w 0 (fun _ => true) true fuel t cs = some (d, ps) → uptoBulk d ≤ 1048576 →
    ∃ x : α, All2 (PRel w nobad) (cells x) cs ∧ F x ∧ wt x ≤ c * uptoBulk d

theorem inr_of {n : Int} (h : (Lit.int .i64 n).wf = true) : InR n := by
  simp [Lit.wf, IntKind.min, IntKind.max, IntKind.signed, IntKind.bits] at h
  exact ⟨by omega, by omega⟩
theorem reads_int {t : TypeId} (ht : Try.prog.underlying t = some (.int .i64)) (c : Nat) : Reads enc w t (fun n : Int => [.v (.int .i64 n)]) InR (fun _ => 0) c := by
  intro fuel cs d ps h hb
  obtain ⟨n, rfl, hx, hwf⟩ := DataW.trod_int ht h
  exact ⟨n, ⟨.v rfl, trivial⟩, inr_of hwf, Nat.zero_le _⟩

theorem all2_cut {α β : Type} {R : α → β → Prop} {l r : List α} {cs : List β} {off c : Nat} (h1 : All2 R l ((cs.drop off).take c)) (h2 : All2 R r (cs.drop (off + c))) : All2 R (l ++ r) (cs.drop off) := by
  have : cs.drop off = (cs.drop off).take c ++ cs.drop (off + c) := by rw [← List.drop_drop, List.take_append_drop]
  rw [this]
  exact h1.append h2
theorem all2_end {α β : Type} {R : α → β → Prop} {cs : List β} {off : Nat} (h : cs.length ≤ off) : All2 R ([] : List α) (cs.drop off) := by
  rw [List.drop_of_length_le h]
  trivial
theorem all2_all {α β : Type} {R : α → β → Prop} {l : List α} {cs : List β} (h : All2 R l (cs.drop 0)) : All2 R l cs := by simpa using h

/-- A slice of such things. -/
theorem reads_slice {t e : TypeId} {α : Type} {cells : α → List PV} {F : α → Prop} {wt : α → Nat} {c sz : Nat} (hr : Reads enc w e cells F wt c) (ht : Try.prog.underlying t = some (.slice e)) (hsz : Try.prog.cellsOf e = sz) (hz : 0 < sz) (hlen : ∀ x, (cells x).length = sz)
    {fuel : Nat} {cs : List Value} {d : DataW H} {ps : List MemPlace} (h : DataW.trod enc Try.prog w 0 (fun _ => true) true fuel t cs = some (d, ps)) (hb : uptoBulk d ≤ 1048576) :
    ∃ l : List α, All2 (PRel w nobad) [.sl sz (l.map cells)] cs ∧ (∀ x ∈ l, F x) ∧ l.length ≤ uptoBulk d ∧ (l.map wt).sum ≤ c * uptoBulk d := by
  rcases DataW.trod_slice ht h with ⟨rfl, hx⟩ | ⟨a, len, cap, elems, rest, n, _, rfl, hx, _, hlc, hcm, hel, hes, _, _⟩
  · exact ⟨[], ⟨.sl (fun _ _ => .bool false) hz rfl (Nat.le_refl _) (by decide) (fun i h => by simp at h) (fun h => by omega) (fun _ e => by cases e) (fun i h => by simp at h), trivial⟩, by simp, by simp, by simp⟩
  · obtain ⟨rfl, rfl⟩ := Prod.mk.inj hx
    simp only [uptoBulk] at hb
    have hbl := bulk_len (elems.map (·.1))
    rw [List.length_map] at hbl
    have hall : ∀ i, i < len → ∃ x : α, ∃ row : List Value, w.cells? 0 (a.add (i * sz)) sz = some row ∧ All2 (PRel w nobad) (cells x) row ∧ F x ∧ ∃ di, (elems.map (·.1))[i]? = some di ∧ wt x ≤ c * uptoBulk di := by
      intro i hi
      have he := hes i hi
      rw [hsz] at he
      have hil : i < elems.length := by omega
      rw [List.getElem?_eq_getElem hil] at he
      obtain ⟨row, hrow, htr⟩ := Option.bind_eq_some_iff.1 he
      have hm := bulk_mem (elems.map (·.1)) i (elems[i]).1 (by simp [hil])
      obtain ⟨x, h1, h2, h3⟩ := hr n row (elems[i]).1 (elems[i]).2 htr (by omega)
      exact ⟨x, row, hrow, h1, h2, _, by simp [hil], h3⟩
    have hlist : ∀ m, m ≤ len → ∃ l : List α, l.length = m ∧ (∀ x ∈ l, F x) ∧ (l.map wt).sum ≤ c * uptoBulkAll ((elems.map (·.1)).take m) ∧ ∀ i (hi : i < l.length), ∃ row, w.cells? 0 (a.add (i * sz)) sz = some row ∧ All2 (PRel w nobad) (cells l[i]) row := by
      intro m
      induction m with
      | zero => intro _; exact ⟨[], rfl, by simp, by simp, fun i h => by simp at h⟩
      | succ m ih =>
        intro hm
        obtain ⟨l, l1, l2, l3, l4⟩ := ih (by omega)
        obtain ⟨x, row, r1, r2, r3, di, r4, r5⟩ := hall m (by omega)
        have hml : m < (elems.map (·.1)).length := by simp; omega
        rw [List.getElem?_eq_getElem hml] at r4
        refine ⟨l ++ [x], by simp [l1], fun y hy => ?_, ?_, fun i hi => ?_⟩
        · rcases List.mem_append.1 hy with h | h
          · exact l2 y h
          · rw [List.mem_singleton.1 h]; exact r3
        · rw [List.map_append, List.sum_append, List.take_succ_eq_append_getElem hml, Option.some.inj r4]
          have : ∀ (p : List (DataW H)) (q : DataW H), uptoBulkAll (p ++ [q]) = uptoBulkAll p + uptoBulk q := by
            intro p q
            induction p with
            | nil => simp [uptoBulkAll]
            | cons y p ih => simp only [List.cons_append, uptoBulkAll, ih]; omega
          rw [this, Nat.mul_add]
          simp only [List.map_cons, List.map_nil, List.sum_cons, List.sum_nil]
          omega
        · by_cases he : i < l.length
          · rw [List.getElem_append_left he]
            exact l4 i he
          · have hie : i = m := by simp at hi; omega
            subst hie
            rw [List.getElem_append_right (by omega)]
            refine ⟨row, r1, ?_⟩
            simpa [l1] using r2
    obtain ⟨l, l1, l2, l3, l4⟩ := hlist len (Nat.le_refl _)
    have htk : (elems.map (·.1)).take len = elems.map (·.1) := List.take_of_length_le (by simp; omega)
    rw [htk] at l3
    refine ⟨l, ⟨?_, trivial⟩, l2, by simp only [uptoBulk]; omega, by simp only [uptoBulk]; rw [Nat.mul_add, Nat.mul_add]; omega⟩
    have hadd : ∀ i j : Nat, (a.add (i * sz)).add j = a.add (i * sz + j) := fun i j => Addr.add_add a (i * sz) j
    have key : ∀ i (hi : i < l.length) j, j < sz → ∃ u, w.cell? (a.add (i * sz + j)) = some u ∧ ∀ (hj : j < (cells l[i]).length), PRel w nobad (cells l[i])[j] u := by
      intro i hi j hj
      obtain ⟨row, hrow, hrel⟩ := l4 i hi
      obtain ⟨_, hrl, hrg⟩ := World.cells?_some hrow
      have hjr : j < row.length := by omega
      refine ⟨row[j], ?_, fun hjc => hrel.get j hjc hjr⟩
      have := hrg j hj
      rw [hadd, List.getElem?_eq_getElem hjr] at this
      exact this
    refine .sl (fun i j => if h : i < l.length ∧ j < sz then (key i h.1 j h.2).choose else .bool false) hz (by simp; omega) (by omega) (by omega) (fun i hi => ?_) (fun _ => ⟨a, rfl, fun h => h⟩) (fun ad e i hi j hj => ?_) (fun i hi j hj => ?_)
    · rw [List.getElem_map, hlen]
    · cases e
      have hi' : i < l.length := by simpa using hi
      have hj' : j < sz := by rw [List.getElem_map, hlen] at hj; exact hj
      rw [dif_pos ⟨hi', hj'⟩]
      exact (key i hi' j hj').choose_spec.1
    · have hi' : i < l.length := by simpa using hi
      have hj' : j < sz := by rw [List.getElem_map, hlen] at hj; exact hj
      rw [dif_pos ⟨hi', hj'⟩]
      have := (key i hi' j hj').choose_spec.2 (by rw [hlen]; exact hj')
      simpa only [List.getElem_map] using this
-- PRINTED

theorem c2 : Try.prog.cellsOf 2 = 1 := by kernel_rfl

theorem c3 : Try.prog.cellsOf 3 = 1 := by kernel_rfl

theorem c30 : Try.prog.cellsOf 30 = 1 := by kernel_rfl

theorem c31 : Try.prog.cellsOf 31 = 1 := by kernel_rfl

theorem c32 : Try.prog.cellsOf 32 = 1 := by kernel_rfl

theorem c33 : Try.prog.cellsOf 33 = 1 := by kernel_rfl

theorem c34 : Try.prog.cellsOf 34 = 1 := by kernel_rfl

theorem c35 : Try.prog.cellsOf 35 = 1 := by kernel_rfl

theorem c37 : Try.prog.cellsOf 37 = 9 := by kernel_rfl

theorem c41 : Try.prog.cellsOf 41 = 3 := by kernel_rfl

theorem c42 : Try.prog.cellsOf 42 = 12 := by kernel_rfl

theorem c44 : Try.prog.cellsOf 44 = 4 := by kernel_rfl

theorem c45 : Try.prog.cellsOf 45 = 1 := by kernel_rfl

theorem c47 : Try.prog.cellsOf 47 = 22 := by kernel_rfl

theorem c49 : Try.prog.cellsOf 49 = 1 := by kernel_rfl

theorem c68 : Try.prog.cellsOf 68 = 3 := by kernel_rfl

theorem c76 : Try.prog.cellsOf 76 = 3 := by kernel_rfl

theorem c78 : Try.prog.cellsOf 78 = 8 := by kernel_rfl

theorem c82 : Try.prog.cellsOf 82 = 6 := by kernel_rfl

theorem c84 : Try.prog.cellsOf 84 = 10 := by kernel_rfl

theorem reads_word : Reads enc w 41 (fun x : Int × Int × Int => [.v (.int .i64 x.1), .v (.int .i64 x.2.1), .v (.int .i64 x.2.2)]) (fun x => ∀ n ∈ wordN x, InR n) (fun _ => 0) 0 := by
  intro fuel cs d ps h hb
  obtain ⟨xs, n, _, hx, hlen, hxs, hf⟩ := DataW.trod_struct Try.underlying41 h
  obtain ⟨rfl, _⟩ := Prod.mk.inj hx
  rw [c41] at hlen
  have hxs : xs.length = 3 := hxs
  match xs, hxs, hf, hb with
  | [x0, x1, x2], _, hf, hb =>
    simp only [List.map_cons, List.map_nil, uptoBulk, uptoBulkAll] at hb ⊢
    have b0 := bulk_pos x0.1
    have h0 : DataW.trod enc Try.prog w 0 (fun _ => true) true n 2 ((cs.drop 0).take (Try.prog.cellsOf 2)) = some (x0.1, x0.2) := hf 0 _ rfl
    rw [c2] at h0
    obtain ⟨v0, r0, f0, s0⟩ := (reads_int Try.underlying2 0) n _ x0.1 x0.2 h0 (by omega)
    have b1 := bulk_pos x1.1
    have h1 : DataW.trod enc Try.prog w 0 (fun _ => true) true n 3 ((cs.drop 1).take (Try.prog.cellsOf 3)) = some (x1.1, x1.2) := hf 1 _ rfl
    rw [c3] at h1
    obtain ⟨v1, r1, f1, s1⟩ := (reads_int Try.underlying3 0) n _ x1.1 x1.2 h1 (by omega)
    have b2 := bulk_pos x2.1
    have h2 : DataW.trod enc Try.prog w 0 (fun _ => true) true n 3 ((cs.drop 2).take (Try.prog.cellsOf 3)) = some (x2.1, x2.2) := hf 2 _ rfl
    rw [c3] at h2
    obtain ⟨v2, r2, f2, s2⟩ := (reads_int Try.underlying3 0) n _ x2.1 x2.2 h2 (by omega)
    refine ⟨(v0, v1, v2), all2_all (all2_cut (off := 0) (c := 1) r0 (all2_cut (off := 1) (c := 1) r1 (all2_cut (off := 2) (c := 1) r2 (all2_end (by rw [hlen]; exact Nat.le_refl _))))), ?_, ?_⟩
    · intro n hn
      simp only [wordN, List.mem_cons, List.mem_nil_iff, or_false] at hn
      rcases hn with rfl | rfl | rfl
      all_goals assumption
    · exact Nat.zero_le _

theorem reads_bag : Reads enc w 68 (fun x : Int × Int × Int => [.v (.int .i64 x.1), .v (.int .i64 x.2.1), .v (.int .i64 x.2.2)]) (fun x => ∀ n ∈ wordN x, InR n) (fun _ => 0) 0 := by
  intro fuel cs d ps h hb
  obtain ⟨xs, n, _, hx, hlen, hxs, hf⟩ := DataW.trod_struct Try.underlying68 h
  obtain ⟨rfl, _⟩ := Prod.mk.inj hx
  rw [c68] at hlen
  have hxs : xs.length = 3 := hxs
  match xs, hxs, hf, hb with
  | [x0, x1, x2], _, hf, hb =>
    simp only [List.map_cons, List.map_nil, uptoBulk, uptoBulkAll] at hb ⊢
    have b0 := bulk_pos x0.1
    have h0 : DataW.trod enc Try.prog w 0 (fun _ => true) true n 3 ((cs.drop 0).take (Try.prog.cellsOf 3)) = some (x0.1, x0.2) := hf 0 _ rfl
    rw [c3] at h0
    obtain ⟨v0, r0, f0, s0⟩ := (reads_int Try.underlying3 0) n _ x0.1 x0.2 h0 (by omega)
    have b1 := bulk_pos x1.1
    have h1 : DataW.trod enc Try.prog w 0 (fun _ => true) true n 3 ((cs.drop 1).take (Try.prog.cellsOf 3)) = some (x1.1, x1.2) := hf 1 _ rfl
    rw [c3] at h1
    obtain ⟨v1, r1, f1, s1⟩ := (reads_int Try.underlying3 0) n _ x1.1 x1.2 h1 (by omega)
    have b2 := bulk_pos x2.1
    have h2 : DataW.trod enc Try.prog w 0 (fun _ => true) true n 2 ((cs.drop 2).take (Try.prog.cellsOf 2)) = some (x2.1, x2.2) := hf 2 _ rfl
    rw [c2] at h2
    obtain ⟨v2, r2, f2, s2⟩ := (reads_int Try.underlying2 0) n _ x2.1 x2.2 h2 (by omega)
    refine ⟨(v0, v1, v2), all2_all (all2_cut (off := 0) (c := 1) r0 (all2_cut (off := 1) (c := 1) r1 (all2_cut (off := 2) (c := 1) r2 (all2_end (by rw [hlen]; exact Nat.le_refl _))))), ?_, ?_⟩
    · intro n hn
      simp only [wordN, List.mem_cons, List.mem_nil_iff, or_false] at hn
      rcases hn with rfl | rfl | rfl
      all_goals assumption
    · exact Nat.zero_le _

theorem reads_place : Reads enc w 76 (fun x : Int × Int × Int => [.v (.int .i64 x.1), .v (.int .i64 x.2.1), .v (.int .i64 x.2.2)]) (fun x => ∀ n ∈ wordN x, InR n) (fun _ => 0) 0 := by
  intro fuel cs d ps h hb
  obtain ⟨xs, n, _, hx, hlen, hxs, hf⟩ := DataW.trod_struct Try.underlying76 h
  obtain ⟨rfl, _⟩ := Prod.mk.inj hx
  rw [c76] at hlen
  have hxs : xs.length = 3 := hxs
  match xs, hxs, hf, hb with
  | [x0, x1, x2], _, hf, hb =>
    simp only [List.map_cons, List.map_nil, uptoBulk, uptoBulkAll] at hb ⊢
    have b0 := bulk_pos x0.1
    have h0 : DataW.trod enc Try.prog w 0 (fun _ => true) true n 3 ((cs.drop 0).take (Try.prog.cellsOf 3)) = some (x0.1, x0.2) := hf 0 _ rfl
    rw [c3] at h0
    obtain ⟨v0, r0, f0, s0⟩ := (reads_int Try.underlying3 0) n _ x0.1 x0.2 h0 (by omega)
    have b1 := bulk_pos x1.1
    have h1 : DataW.trod enc Try.prog w 0 (fun _ => true) true n 3 ((cs.drop 1).take (Try.prog.cellsOf 3)) = some (x1.1, x1.2) := hf 1 _ rfl
    rw [c3] at h1
    obtain ⟨v1, r1, f1, s1⟩ := (reads_int Try.underlying3 0) n _ x1.1 x1.2 h1 (by omega)
    have b2 := bulk_pos x2.1
    have h2 : DataW.trod enc Try.prog w 0 (fun _ => true) true n 3 ((cs.drop 2).take (Try.prog.cellsOf 3)) = some (x2.1, x2.2) := hf 2 _ rfl
    rw [c3] at h2
    obtain ⟨v2, r2, f2, s2⟩ := (reads_int Try.underlying3 0) n _ x2.1 x2.2 h2 (by omega)
    refine ⟨(v0, v1, v2), all2_all (all2_cut (off := 0) (c := 1) r0 (all2_cut (off := 1) (c := 1) r1 (all2_cut (off := 2) (c := 1) r2 (all2_end (by rw [hlen]; exact Nat.le_refl _))))), ?_, ?_⟩
    · intro n hn
      simp only [wordN, List.mem_cons, List.mem_nil_iff, or_false] at hn
      rcases hn with rfl | rfl | rfl
      all_goals assumption
    · exact Nat.zero_le _

theorem reads_ent : Reads enc w 78 (fun x : Ent => [.v (.int .i64 x.1.1), .v (.int .i64 x.1.2.1), .v (.int .i64 x.1.2.2), .v (.int .i64 x.2.1.1), .v (.int .i64 x.2.1.2.1), .v (.int .i64 x.2.1.2.2), .v (.int .i64 x.2.2.1), .v (.int .i64 x.2.2.2)]) (fun x => ∀ n ∈ entN x, InR n) (fun _ => 0) 0 := by
  intro fuel cs d ps h hb
  obtain ⟨xs, n, _, hx, hlen, hxs, hf⟩ := DataW.trod_struct Try.underlying78 h
  obtain ⟨rfl, _⟩ := Prod.mk.inj hx
  rw [c78] at hlen
  have hxs : xs.length = 4 := hxs
  match xs, hxs, hf, hb with
  | [x0, x1, x2, x3], _, hf, hb =>
    simp only [List.map_cons, List.map_nil, uptoBulk, uptoBulkAll] at hb ⊢
    have b0 := bulk_pos x0.1
    have h0 : DataW.trod enc Try.prog w 0 (fun _ => true) true n 76 ((cs.drop 0).take (Try.prog.cellsOf 76)) = some (x0.1, x0.2) := hf 0 _ rfl
    rw [c76] at h0
    obtain ⟨v0, r0, f0, s0⟩ := (reads_place) n _ x0.1 x0.2 h0 (by omega)
    have b1 := bulk_pos x1.1
    have h1 : DataW.trod enc Try.prog w 0 (fun _ => true) true n 41 ((cs.drop 3).take (Try.prog.cellsOf 41)) = some (x1.1, x1.2) := hf 1 _ rfl
    rw [c41] at h1
    obtain ⟨v1, r1, f1, s1⟩ := (reads_word) n _ x1.1 x1.2 h1 (by omega)
    have b2 := bulk_pos x2.1
    have h2 : DataW.trod enc Try.prog w 0 (fun _ => true) true n 3 ((cs.drop 6).take (Try.prog.cellsOf 3)) = some (x2.1, x2.2) := hf 2 _ rfl
    rw [c3] at h2
    obtain ⟨v2, r2, f2, s2⟩ := (reads_int Try.underlying3 0) n _ x2.1 x2.2 h2 (by omega)
    have b3 := bulk_pos x3.1
    have h3 : DataW.trod enc Try.prog w 0 (fun _ => true) true n 3 ((cs.drop 7).take (Try.prog.cellsOf 3)) = some (x3.1, x3.2) := hf 3 _ rfl
    rw [c3] at h3
    obtain ⟨v3, r3, f3, s3⟩ := (reads_int Try.underlying3 0) n _ x3.1 x3.2 h3 (by omega)
    refine ⟨(v0, v1, (v2, v3)), all2_all (all2_cut (off := 0) (c := 3) r0 (all2_cut (off := 3) (c := 3) r1 (all2_cut (off := 6) (c := 1) r2 (all2_cut (off := 7) (c := 1) r3 (all2_end (by rw [hlen]; exact Nat.le_refl _)))))), ?_, ?_⟩
    · intro n hn
      simp only [entN, wordN, List.mem_cons, List.mem_nil_iff, or_false] at *
      rcases hn with rfl | rfl | rfl | rfl | rfl | rfl | rfl | rfl
      all_goals first | assumption | exact f0 _ (by simp) | exact f1 _ (by simp)
    · exact Nat.zero_le _

theorem reads_two : Reads enc w 82 (fun x : (Int × Int × Int) × (Int × Int × Int) => [.v (.int .i64 x.1.1), .v (.int .i64 x.1.2.1), .v (.int .i64 x.1.2.2), .v (.int .i64 x.2.1), .v (.int .i64 x.2.2.1), .v (.int .i64 x.2.2.2)]) (fun x => (∀ n ∈ wordN x.1, InR n) ∧ (∀ n ∈ wordN x.2, InR n)) (fun _ => 0) 0 := by
  intro fuel cs d ps h hb
  obtain ⟨xs, n, _, hx, hlen, hxs, hf⟩ := DataW.trod_array Try.underlying82 h
  obtain ⟨rfl, _⟩ := Prod.mk.inj hx
  rw [c82] at hlen
  have hxs : xs.length = 2 := hxs
  match xs, hxs, hf, hb with
  | [x0, x1], _, hf, hb =>
    simp only [List.map_cons, List.map_nil, uptoBulk, uptoBulkAll] at hb ⊢
    have b0 := bulk_pos x0.1
    have h0 : DataW.trod enc Try.prog w 0 (fun _ => true) true n 41 ((cs.drop (0 * Try.prog.cellsOf 41)).take (Try.prog.cellsOf 41)) = some (x0.1, x0.2) := hf 0 (by omega)
    rw [c41] at h0
    obtain ⟨v0, r0, f0, s0⟩ := (reads_word) n _ x0.1 x0.2 h0 (by omega)
    have b1 := bulk_pos x1.1
    have h1 : DataW.trod enc Try.prog w 0 (fun _ => true) true n 41 ((cs.drop (1 * Try.prog.cellsOf 41)).take (Try.prog.cellsOf 41)) = some (x1.1, x1.2) := hf 1 (by omega)
    rw [c41] at h1
    obtain ⟨v1, r1, f1, s1⟩ := (reads_word) n _ x1.1 x1.2 h1 (by omega)
    refine ⟨(v0, v1), all2_all (all2_cut (off := 0) (c := 3) r0 (all2_cut (off := 3) (c := 3) r1 (all2_end (by rw [hlen]; exact Nat.le_refl _)))), ?_, ?_⟩
    · exact ⟨f0, f1⟩
    · exact Nat.zero_le _

theorem reads_regs : Reads enc w 42 (fun x : (Int × Int × Int) × (Int × Int × Int) × (Int × Int × Int) × (Int × Int × Int) => [.v (.int .i64 x.1.1), .v (.int .i64 x.1.2.1), .v (.int .i64 x.1.2.2), .v (.int .i64 x.2.1.1), .v (.int .i64 x.2.1.2.1), .v (.int .i64 x.2.1.2.2), .v (.int .i64 x.2.2.1.1), .v (.int .i64 x.2.2.1.2.1), .v (.int .i64 x.2.2.1.2.2), .v (.int .i64 x.2.2.2.1), .v (.int .i64 x.2.2.2.2.1), .v (.int .i64 x.2.2.2.2.2)]) (fun x => (∀ n ∈ wordN x.1, InR n) ∧ (∀ n ∈ wordN x.2.1, InR n) ∧ (∀ n ∈ wordN x.2.2.1, InR n) ∧ (∀ n ∈ wordN x.2.2.2, InR n)) (fun _ => 0) 0 := by
  intro fuel cs d ps h hb
  obtain ⟨xs, n, _, hx, hlen, hxs, hf⟩ := DataW.trod_array Try.underlying42 h
  obtain ⟨rfl, _⟩ := Prod.mk.inj hx
  rw [c42] at hlen
  have hxs : xs.length = 4 := hxs
  match xs, hxs, hf, hb with
  | [x0, x1, x2, x3], _, hf, hb =>
    simp only [List.map_cons, List.map_nil, uptoBulk, uptoBulkAll] at hb ⊢
    have b0 := bulk_pos x0.1
    have h0 : DataW.trod enc Try.prog w 0 (fun _ => true) true n 41 ((cs.drop (0 * Try.prog.cellsOf 41)).take (Try.prog.cellsOf 41)) = some (x0.1, x0.2) := hf 0 (by omega)
    rw [c41] at h0
    obtain ⟨v0, r0, f0, s0⟩ := (reads_word) n _ x0.1 x0.2 h0 (by omega)
    have b1 := bulk_pos x1.1
    have h1 : DataW.trod enc Try.prog w 0 (fun _ => true) true n 41 ((cs.drop (1 * Try.prog.cellsOf 41)).take (Try.prog.cellsOf 41)) = some (x1.1, x1.2) := hf 1 (by omega)
    rw [c41] at h1
    obtain ⟨v1, r1, f1, s1⟩ := (reads_word) n _ x1.1 x1.2 h1 (by omega)
    have b2 := bulk_pos x2.1
    have h2 : DataW.trod enc Try.prog w 0 (fun _ => true) true n 41 ((cs.drop (2 * Try.prog.cellsOf 41)).take (Try.prog.cellsOf 41)) = some (x2.1, x2.2) := hf 2 (by omega)
    rw [c41] at h2
    obtain ⟨v2, r2, f2, s2⟩ := (reads_word) n _ x2.1 x2.2 h2 (by omega)
    have b3 := bulk_pos x3.1
    have h3 : DataW.trod enc Try.prog w 0 (fun _ => true) true n 41 ((cs.drop (3 * Try.prog.cellsOf 41)).take (Try.prog.cellsOf 41)) = some (x3.1, x3.2) := hf 3 (by omega)
    rw [c41] at h3
    obtain ⟨v3, r3, f3, s3⟩ := (reads_word) n _ x3.1 x3.2 h3 (by omega)
    refine ⟨(v0, v1, v2, v3), all2_all (all2_cut (off := 0) (c := 3) r0 (all2_cut (off := 3) (c := 3) r1 (all2_cut (off := 6) (c := 3) r2 (all2_cut (off := 9) (c := 3) r3 (all2_end (by rw [hlen]; exact Nat.le_refl _)))))), ?_, ?_⟩
    · exact ⟨f0, f1, f2, f3⟩
    · exact Nat.zero_le _

theorem reads_cel : Reads enc w 84 (fun x : Cel => [.v (.int .i64 x.1.1), .v (.int .i64 x.1.2.1), .v (.int .i64 x.1.2.2.1), .v (.int .i64 x.1.2.2.2), .v (.int .i64 x.2.1.1), .v (.int .i64 x.2.1.2.1), .v (.int .i64 x.2.1.2.2), .v (.int .i64 x.2.2.1), .v (.int .i64 x.2.2.2.1), .v (.int .i64 x.2.2.2.2)]) (fun x => ∀ n ∈ celN x, InR n) (fun _ => 0) 0 := by
  intro fuel cs d ps h hb
  obtain ⟨xs, n, _, hx, hlen, hxs, hf⟩ := DataW.trod_struct Try.underlying84 h
  obtain ⟨rfl, _⟩ := Prod.mk.inj hx
  rw [c84] at hlen
  have hxs : xs.length = 5 := hxs
  match xs, hxs, hf, hb with
  | [x0, x1, x2, x3, x4], _, hf, hb =>
    simp only [List.map_cons, List.map_nil, uptoBulk, uptoBulkAll] at hb ⊢
    have b0 := bulk_pos x0.1
    have h0 : DataW.trod enc Try.prog w 0 (fun _ => true) true n 3 ((cs.drop 0).take (Try.prog.cellsOf 3)) = some (x0.1, x0.2) := hf 0 _ rfl
    rw [c3] at h0
    obtain ⟨v0, r0, f0, s0⟩ := (reads_int Try.underlying3 0) n _ x0.1 x0.2 h0 (by omega)
    have b1 := bulk_pos x1.1
    have h1 : DataW.trod enc Try.prog w 0 (fun _ => true) true n 3 ((cs.drop 1).take (Try.prog.cellsOf 3)) = some (x1.1, x1.2) := hf 1 _ rfl
    rw [c3] at h1
    obtain ⟨v1, r1, f1, s1⟩ := (reads_int Try.underlying3 0) n _ x1.1 x1.2 h1 (by omega)
    have b2 := bulk_pos x2.1
    have h2 : DataW.trod enc Try.prog w 0 (fun _ => true) true n 3 ((cs.drop 2).take (Try.prog.cellsOf 3)) = some (x2.1, x2.2) := hf 2 _ rfl
    rw [c3] at h2
    obtain ⟨v2, r2, f2, s2⟩ := (reads_int Try.underlying3 0) n _ x2.1 x2.2 h2 (by omega)
    have b3 := bulk_pos x3.1
    have h3 : DataW.trod enc Try.prog w 0 (fun _ => true) true n 3 ((cs.drop 3).take (Try.prog.cellsOf 3)) = some (x3.1, x3.2) := hf 3 _ rfl
    rw [c3] at h3
    obtain ⟨v3, r3, f3, s3⟩ := (reads_int Try.underlying3 0) n _ x3.1 x3.2 h3 (by omega)
    have b4 := bulk_pos x4.1
    have h4 : DataW.trod enc Try.prog w 0 (fun _ => true) true n 82 ((cs.drop 4).take (Try.prog.cellsOf 82)) = some (x4.1, x4.2) := hf 4 _ rfl
    rw [c82] at h4
    obtain ⟨v4, r4, f4, s4⟩ := (reads_two) n _ x4.1 x4.2 h4 (by omega)
    refine ⟨((v0, v1, v2, v3), v4), all2_all (all2_cut (off := 0) (c := 1) r0 (all2_cut (off := 1) (c := 1) r1 (all2_cut (off := 2) (c := 1) r2 (all2_cut (off := 3) (c := 1) r3 (all2_cut (off := 4) (c := 6) r4 (all2_end (by rw [hlen]; exact Nat.le_refl _))))))), ?_, ?_⟩
    · intro n hn
      simp only [celN, wordN, List.mem_cons, List.mem_nil_iff, or_false] at *
      rcases hn with rfl | rfl | rfl | rfl | rfl | rfl | rfl | rfl | rfl | rfl
      all_goals first | assumption | exact f4.1 _ (by simp) | exact f4.2 _ (by simp)
    · exact Nat.zero_le _

theorem reads_micro : Reads enc w 44 (fun x : Int × Int × Int × List Int => [.v (.int .i64 x.1), .v (.int .i64 x.2.1), .v (.int .i64 x.2.2.1), .sl 1 (ints .i64 x.2.2.2)]) (fun x => InR x.1 ∧ InR x.2.1 ∧ InR x.2.2.1 ∧ ∀ n ∈ x.2.2.2, InR n) (fun x => x.2.2.2.length) 1 := by
  intro fuel cs d ps h hb
  obtain ⟨xs, n, _, hx, hlen, hxs, hf⟩ := DataW.trod_struct Try.underlying44 h
  obtain ⟨rfl, _⟩ := Prod.mk.inj hx
  rw [c44] at hlen
  have hxs : xs.length = 4 := hxs
  match xs, hxs, hf, hb with
  | [x0, x1, x2, x3], _, hf, hb =>
    simp only [List.map_cons, List.map_nil, uptoBulk, uptoBulkAll] at hb ⊢
    have b0 := bulk_pos x0.1
    have h0 : DataW.trod enc Try.prog w 0 (fun _ => true) true n 3 ((cs.drop 0).take (Try.prog.cellsOf 3)) = some (x0.1, x0.2) := hf 0 _ rfl
    rw [c3] at h0
    obtain ⟨v0, r0, f0, s0⟩ := (reads_int Try.underlying3 0) n _ x0.1 x0.2 h0 (by omega)
    have b1 := bulk_pos x1.1
    have h1 : DataW.trod enc Try.prog w 0 (fun _ => true) true n 3 ((cs.drop 1).take (Try.prog.cellsOf 3)) = some (x1.1, x1.2) := hf 1 _ rfl
    rw [c3] at h1
    obtain ⟨v1, r1, f1, s1⟩ := (reads_int Try.underlying3 0) n _ x1.1 x1.2 h1 (by omega)
    have b2 := bulk_pos x2.1
    have h2 : DataW.trod enc Try.prog w 0 (fun _ => true) true n 2 ((cs.drop 2).take (Try.prog.cellsOf 2)) = some (x2.1, x2.2) := hf 2 _ rfl
    rw [c2] at h2
    obtain ⟨v2, r2, f2, s2⟩ := (reads_int Try.underlying2 0) n _ x2.1 x2.2 h2 (by omega)
    have b3 := bulk_pos x3.1
    have h3 : DataW.trod enc Try.prog w 0 (fun _ => true) true n 35 ((cs.drop 3).take (Try.prog.cellsOf 35)) = some (x3.1, x3.2) := hf 3 _ rfl
    rw [c35] at h3
    obtain ⟨v3, r3, f3, l3, s3⟩ := reads_slice (reads_int Try.underlying2 0) Try.underlying35 c2 (by decide) (fun _ => rfl) h3 (by omega)
    refine ⟨(v0, v1, v2, v3), all2_all (all2_cut (off := 0) (c := 1) r0 (all2_cut (off := 1) (c := 1) r1 (all2_cut (off := 2) (c := 1) r2 (all2_cut (off := 3) (c := 1) r3 (all2_end (by rw [hlen]; exact Nat.le_refl _)))))), ?_, ?_⟩
    · exact ⟨f0, f1, f2, f3⟩
    · simp only []; omega

theorem reads_thr : Reads enc w 47 Thr.cells (fun th => ∀ n ∈ th.ns, InR n) (fun th => 1000 + th.bulk) 150 := by
  intro fuel cs d ps h hb
  obtain ⟨xs, n, _, hx, hlen, hxs, hf⟩ := DataW.trod_struct Try.underlying47 h
  obtain ⟨rfl, _⟩ := Prod.mk.inj hx
  rw [c47] at hlen
  have hxs : xs.length = 8 := hxs
  match xs, hxs, hf, hb with
  | [x0, x1, x2, x3, x4, x5, x6, x7], _, hf, hb =>
    simp only [List.map_cons, List.map_nil, uptoBulk, uptoBulkAll] at hb ⊢
    have b0 := bulk_pos x0.1
    have h0 : DataW.trod enc Try.prog w 0 (fun _ => true) true n 3 ((cs.drop 0).take (Try.prog.cellsOf 3)) = some (x0.1, x0.2) := hf 0 _ rfl
    rw [c3] at h0
    obtain ⟨v0, r0, f0, s0⟩ := (reads_int Try.underlying3 0) n _ x0.1 x0.2 h0 (by omega)
    have b1 := bulk_pos x1.1
    have h1 : DataW.trod enc Try.prog w 0 (fun _ => true) true n 3 ((cs.drop 1).take (Try.prog.cellsOf 3)) = some (x1.1, x1.2) := hf 1 _ rfl
    rw [c3] at h1
    obtain ⟨v1, r1, f1, s1⟩ := (reads_int Try.underlying3 0) n _ x1.1 x1.2 h1 (by omega)
    have b2 := bulk_pos x2.1
    have h2 : DataW.trod enc Try.prog w 0 (fun _ => true) true n 3 ((cs.drop 2).take (Try.prog.cellsOf 3)) = some (x2.1, x2.2) := hf 2 _ rfl
    rw [c3] at h2
    obtain ⟨v2, r2, f2, s2⟩ := (reads_int Try.underlying3 0) n _ x2.1 x2.2 h2 (by omega)
    have b3 := bulk_pos x3.1
    have h3 : DataW.trod enc Try.prog w 0 (fun _ => true) true n 42 ((cs.drop 3).take (Try.prog.cellsOf 42)) = some (x3.1, x3.2) := hf 3 _ rfl
    rw [c42] at h3
    obtain ⟨v3, r3, f3, s3⟩ := (reads_regs) n _ x3.1 x3.2 h3 (by omega)
    have b4 := bulk_pos x4.1
    have h4 : DataW.trod enc Try.prog w 0 (fun _ => true) true n 44 ((cs.drop 15).take (Try.prog.cellsOf 44)) = some (x4.1, x4.2) := hf 4 _ rfl
    rw [c44] at h4
    obtain ⟨v4, r4, f4, s4⟩ := (reads_micro) n _ x4.1 x4.2 h4 (by omega)
    have b5 := bulk_pos x5.1
    have h5 : DataW.trod enc Try.prog w 0 (fun _ => true) true n 45 ((cs.drop 19).take (Try.prog.cellsOf 45)) = some (x5.1, x5.2) := hf 5 _ rfl
    rw [c45] at h5
    obtain ⟨v5, r5, f5, l5, s5⟩ := reads_slice (reads_bag) Try.underlying45 c68 (by decide) (fun _ => rfl) h5 (by omega)
    have b6 := bulk_pos x6.1
    have h6 : DataW.trod enc Try.prog w 0 (fun _ => true) true n 35 ((cs.drop 20).take (Try.prog.cellsOf 35)) = some (x6.1, x6.2) := hf 6 _ rfl
    rw [c35] at h6
    obtain ⟨v6, r6, f6, l6, s6⟩ := reads_slice (reads_int Try.underlying2 0) Try.underlying35 c2 (by decide) (fun _ => rfl) h6 (by omega)
    have b7 := bulk_pos x7.1
    have h7 : DataW.trod enc Try.prog w 0 (fun _ => true) true n 3 ((cs.drop 21).take (Try.prog.cellsOf 3)) = some (x7.1, x7.2) := hf 7 _ rfl
    rw [c3] at h7
    obtain ⟨v7, r7, f7, s7⟩ := (reads_int Try.underlying3 0) n _ x7.1 x7.2 h7 (by omega)
    have s4 : v4.2.2.2.length ≤ 1 * uptoBulk x4.1 := s4
    refine ⟨(⟨v0, v1, v2, v3.1, v3.2.1, v3.2.2.1, v3.2.2.2, v4.1, v4.2.1, v4.2.2.1, v4.2.2.2, v5, v6, v7⟩ : Thr), all2_all (all2_cut (off := 0) (c := 1) r0 (all2_cut (off := 1) (c := 1) r1 (all2_cut (off := 2) (c := 1) r2 (all2_cut (off := 3) (c := 12) r3 (all2_cut (off := 15) (c := 4) r4 (all2_cut (off := 19) (c := 1) r5 (all2_cut (off := 20) (c := 1) r6 (all2_cut (off := 21) (c := 1) r7 (all2_end (by rw [hlen]; exact Nat.le_refl _)))))))))), ?_, ?_⟩
    · have hl : ∀ n : Nat, n ≤ 1048576 → InR (n : Int) := fun n hn => ⟨by omega, by omega⟩
      intro n hn
      simp only [Thr.ns, wordsN, List.flatMap_cons, List.flatMap_nil, List.mem_append, List.mem_cons, List.mem_flatMap, List.mem_nil_iff, or_false, List.append_nil] at hn
      obtain ⟨g1, g2, g3, g4⟩ := f3
      obtain ⟨k1, k2, k3, k4⟩ := f4
      rcases hn with (((((((((((rfl | rfl | rfl) | (hn | hn | hn | hn)) | (rfl | rfl)) | rfl) | rfl) | hn) | rfl) | ⟨x, hx, hn⟩) | rfl) | hn) | rfl)
      · assumption
      · assumption
      · assumption
      · exact g1 _ hn
      · exact g2 _ hn
      · exact g3 _ hn
      · exact g4 _ hn
      · assumption
      · assumption
      · assumption
      · exact hl _ (by omega)
      · exact k4 _ hn
      · exact hl _ (by omega)
      · exact f5 x hx n hn
      · exact hl _ (by omega)
      · exact f6 _ hn
      · assumption
    · have e : Thr.bulk ⟨v0, v1, v2, v3.1, v3.2.1, v3.2.2.1, v3.2.2.2, v4.1, v4.2.1, v4.2.2.1, v4.2.2.2, v5, v6, v7⟩ = 24 * (v4.2.2.2.length + v5.length + v6.length) := rfl
      rw [e]
      omega

theorem reads_buf : Reads enc w 49 (fun l : List Ent => [.sl 8 (ents l)]) (fun l => ∀ n ∈ bufN l, InR n) (fun l => 16 + 64 * l.length) 80 := by
  intro fuel cs d ps h hb
  have b0 := bulk_pos d
  obtain ⟨l, r, f, hl, _⟩ := reads_slice reads_ent Try.underlying49 c78 (by decide) (fun _ => rfl) h hb
  refine ⟨l, r, fun n hn => ?_, show 16 + 64 * l.length ≤ 80 * uptoBulk d by omega⟩
  simp only [bufN, entsN, List.mem_cons, List.mem_flatMap] at hn
  rcases hn with rfl | ⟨x, hx, hn⟩
  · exact ⟨by omega, by omega⟩
  · exact f x hx n hn
theorem thrW_sum : ∀ l : List Thr, thrW l = (l.map fun th => 1000 + th.bulk).sum
  | [] => rfl
  | th :: l => by simp only [thrW, List.map_cons, List.sum_cons, thrW_sum l]
theorem bufW_sum : ∀ l : List (List Ent), bufW l = (l.map fun b => 16 + 64 * b.length).sum
  | [] => rfl
  | b :: l => by simp only [bufW, List.map_cons, List.sum_cons, bufW_sum l]

theorem reads_state : Reads enc w 37 Sta.row Sta.Fine (fun _ => 0) 0 := by
  intro fuel cs d ps h hb
  obtain ⟨xs, n, _, hx, hlen, hxs, hf⟩ := DataW.trod_struct Try.underlying37 h
  obtain ⟨rfl, _⟩ := Prod.mk.inj hx
  rw [c37] at hlen
  have hxs : xs.length = 9 := hxs
  match xs, hxs, hf, hb with
  | [x0, x1, x2, x3, x4, x5, x6, x7, x8], _, hf, hb =>
    simp only [List.map_cons, List.map_nil, uptoBulk, uptoBulkAll] at hb ⊢
    have b0 := bulk_pos x0.1
    have h0 : DataW.trod enc Try.prog w 0 (fun _ => true) true n 30 ((cs.drop 0).take (Try.prog.cellsOf 30)) = some (x0.1, x0.2) := hf 0 _ rfl
    rw [c30] at h0
    obtain ⟨v0, r0, f0, l0, s0⟩ := reads_slice (reads_thr) Try.underlying30 c47 (by decide) (fun _ => rfl) h0 (by omega)
    have b1 := bulk_pos x1.1
    have h1 : DataW.trod enc Try.prog w 0 (fun _ => true) true n 31 ((cs.drop 1).take (Try.prog.cellsOf 31)) = some (x1.1, x1.2) := hf 1 _ rfl
    rw [c31] at h1
    obtain ⟨v1, r1, f1, l1, s1⟩ := reads_slice (reads_buf) Try.underlying31 c49 (by decide) (fun _ => rfl) h1 (by omega)
    have b2 := bulk_pos x2.1
    have h2 : DataW.trod enc Try.prog w 0 (fun _ => true) true n 32 ((cs.drop 2).take (Try.prog.cellsOf 32)) = some (x2.1, x2.2) := hf 2 _ rfl
    rw [c32] at h2
    obtain ⟨v2, r2, f2, l2, s2⟩ := reads_slice (reads_word) Try.underlying32 c41 (by decide) (fun _ => rfl) h2 (by omega)
    have b3 := bulk_pos x3.1
    have h3 : DataW.trod enc Try.prog w 0 (fun _ => true) true n 32 ((cs.drop 3).take (Try.prog.cellsOf 32)) = some (x3.1, x3.2) := hf 3 _ rfl
    rw [c32] at h3
    obtain ⟨v3, r3, f3, l3, s3⟩ := reads_slice (reads_word) Try.underlying32 c41 (by decide) (fun _ => rfl) h3 (by omega)
    have b4 := bulk_pos x4.1
    have h4 : DataW.trod enc Try.prog w 0 (fun _ => true) true n 33 ((cs.drop 4).take (Try.prog.cellsOf 33)) = some (x4.1, x4.2) := hf 4 _ rfl
    rw [c33] at h4
    obtain ⟨v4, r4, f4, l4, s4⟩ := reads_slice (reads_cel) Try.underlying33 c84 (by decide) (fun _ => rfl) h4 (by omega)
    have b5 := bulk_pos x5.1
    have h5 : DataW.trod enc Try.prog w 0 (fun _ => true) true n 34 ((cs.drop 5).take (Try.prog.cellsOf 34)) = some (x5.1, x5.2) := hf 5 _ rfl
    rw [c34] at h5
    obtain ⟨v5, r5, f5, l5, s5⟩ := reads_slice (reads_int Try.underlying3 0) Try.underlying34 c3 (by decide) (fun _ => rfl) h5 (by omega)
    have b6 := bulk_pos x6.1
    have h6 : DataW.trod enc Try.prog w 0 (fun _ => true) true n 2 ((cs.drop 6).take (Try.prog.cellsOf 2)) = some (x6.1, x6.2) := hf 6 _ rfl
    rw [c2] at h6
    obtain ⟨v6, r6, f6, s6⟩ := (reads_int Try.underlying2 0) n _ x6.1 x6.2 h6 (by omega)
    have b7 := bulk_pos x7.1
    have h7 : DataW.trod enc Try.prog w 0 (fun _ => true) true n 35 ((cs.drop 7).take (Try.prog.cellsOf 35)) = some (x7.1, x7.2) := hf 7 _ rfl
    rw [c35] at h7
    obtain ⟨v7, r7, f7, l7, s7⟩ := reads_slice (reads_int Try.underlying2 0) Try.underlying35 c2 (by decide) (fun _ => rfl) h7 (by omega)
    have b8 := bulk_pos x8.1
    have h8 : DataW.trod enc Try.prog w 0 (fun _ => true) true n 35 ((cs.drop 8).take (Try.prog.cellsOf 35)) = some (x8.1, x8.2) := hf 8 _ rfl
    rw [c35] at h8
    obtain ⟨v8, r8, f8, l8, s8⟩ := reads_slice (reads_int Try.underlying2 0) Try.underlying35 c2 (by decide) (fun _ => rfl) h8 (by omega)
    refine ⟨(⟨v0, v1, v2, v3, v4, v5, v6, v7, v8⟩ : Sta), all2_all (all2_cut (off := 0) (c := 1) r0 (all2_cut (off := 1) (c := 1) r1 (all2_cut (off := 2) (c := 1) r2 (all2_cut (off := 3) (c := 1) r3 (all2_cut (off := 4) (c := 1) r4 (all2_cut (off := 5) (c := 1) r5 (all2_cut (off := 6) (c := 1) r6 (all2_cut (off := 7) (c := 1) r7 (all2_cut (off := 8) (c := 1) r8 (all2_end (by rw [hlen]; exact Nat.le_refl _))))))))))), ?_, ?_⟩
    · refine ⟨f0, f1, f2, f3, f4, f5, f6, f7, f8, ?_⟩
      have e : Sta.weight ⟨v0, v1, v2, v3, v4, v5, v6, v7, v8⟩ = thrW v0 + bufW v1 + 80 * (v2.length + v3.length + v4.length + v5.length + v7.length + v8.length) + 2000 := rfl
      rw [e, thrW_sum, bufW_sum]
      omega
    · exact Nat.zero_le _
end
end Go.Sim
