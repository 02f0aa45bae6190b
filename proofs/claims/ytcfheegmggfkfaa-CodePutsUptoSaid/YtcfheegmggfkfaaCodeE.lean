import Derived.Test.YtcfheegmggfkfaaSimV
import Derived.Test.YtcfheegmggfkfaaCodeD
import Derived.Test.YtcfheegmggfkfaaChecked
import Derived.KernelRfl
namespace Go.Sim
open Go.RowKit Go.Proofs.Ytcfheegmggfkfaa.B Go.Proofs
set_option maxRecDepth 100000
set_option linter.unusedSimpArgs false
set_option linter.unusedVariables false

theorem eq41 : EqOk Try.prog 41 [.i64, .i64, .i64] := EqOk_of (m := 4) (by decide) (by kernel_rfl) (by kernel_rfl) (by kernel_rfl)
theorem eq42 : EqOk Try.prog 42 [.i64, .i64, .i64, .i64, .i64, .i64, .i64, .i64, .i64, .i64, .i64, .i64] := EqOk_of (m := 4) (by decide) (by kernel_rfl) (by kernel_rfl) (by kernel_rfl)
theorem eq68 : EqOk Try.prog 68 [.i64, .i64, .i64] := EqOk_of (m := 4) (by decide) (by kernel_rfl) (by kernel_rfl) (by kernel_rfl)
theorem eq78 : EqOk Try.prog 78 [.i64, .i64, .i64, .i64, .i64, .i64, .i64, .i64] := EqOk_of (m := 4) (by decide) (by kernel_rfl) (by kernel_rfl) (by kernel_rfl)
theorem eq84 : EqOk Try.prog 84 [.i64, .i64, .i64, .i64, .i64, .i64, .i64, .i64, .i64, .i64] := EqOk_of (m := 4) (by decide) (by kernel_rfl) (by kernel_rfl) (by kernel_rfl)

theorem not_false_t {b : Bool} (h : (!b) = false) : b = true := by cases b <;> simp_all
theorem wordN_inj {a b : Int × Int × Int} (h : wordN a = wordN b) : a = b := by simp only [wordN, List.cons.injEq, and_true] at h; exact Prod.ext h.1 (Prod.ext h.2.1 h.2.2)
theorem entN_inj {a b : Ent} (h : entN a = entN b) : a = b := by
  simp only [entN, List.cons.injEq, and_true] at h
  obtain ⟨⟨a1, a2, a3⟩, ⟨a4, a5, a6⟩, a7, a8⟩ := a
  obtain ⟨⟨b1, b2, b3⟩, ⟨b4, b5, b6⟩, b7, b8⟩ := b
  obtain ⟨rfl, rfl, rfl, rfl, rfl, rfl, rfl, rfl⟩ := h
  rfl
theorem celN_inj {a b : Cel} (h : celN a = celN b) : a = b := by
  simp only [celN, List.cons.injEq, and_true] at h
  obtain ⟨⟨a1, a2, a3, a4⟩, ⟨a5, a6, a7⟩, a8, a9, a10⟩ := a
  obtain ⟨⟨b1, b2, b3, b4⟩, ⟨b5, b6, b7⟩, b8, b9, b10⟩ := b
  obtain ⟨rfl, rfl, rfl, rfl, rfl, rfl, rfl, rfl, rfl, rfl⟩ := h
  rfl

def ac52 : ACode := (.seq (.reg [⟨none, (some 4), (.mv (some 4) (.k (.bool false)))⟩]) (.seq (.seq (.reg [⟨none, (some 6), (.mv (some 6) (.t 0))⟩, ⟨none, (some 7), (.len (some 7) (.t 6))⟩, ⟨none, (some 8), (.mv (some 8) (.t 1))⟩, ⟨none, (some 9), (.len (some 9) (.t 8))⟩, ⟨none, (some 10), (.bin (some 10) .neq (.t 7) (.t 9))⟩]) (.cond (.t 10) (.seq (.reg [⟨none, (some 4), (.mv (some 4) (.k (.bool false)))⟩]) .ret) .skip)) (.seq (.seq (.reg [⟨none, (some 5), (.mv (some 5) (.k (.int .i64 0)))⟩]) (.block 0 (.loop (.seq (.seq (.reg [⟨none, (some 11), (.mv (some 11) (.t 5))⟩, ⟨none, (some 12), (.mv (some 12) (.t 0))⟩, ⟨none, (some 13), (.len (some 13) (.t 12))⟩, ⟨none, (some 14), (.bin (some 14) .lss (.t 11) (.t 13))⟩]) (.cond (.t 14) .skip (.exit 0))) (.seq (.block 1 (.seq (.reg [⟨none, (some 17), (.mv (some 17) (.t 0))⟩, ⟨none, (some 18), (.mv (some 18) (.t 5))⟩, ⟨none, (some 19), (.ixs (some 19) 1 (.t 17) (.t 18))⟩, ⟨none, (some 20), (.load (some 20) 1 false (.t 19))⟩, ⟨none, (some 21), (.mv (some 21) (.t 1))⟩, ⟨none, (some 22), (.mv (some 22) (.t 5))⟩, ⟨none, (some 23), (.ixs (some 23) 1 (.t 21) (.t 22))⟩, ⟨none, (some 24), (.load (some 24) 1 false (.t 23))⟩, ⟨none, (some 25), (.bin (some 25) .neq (.t 20) (.t 24))⟩]) (.cond (.t 25) (.seq (.reg [⟨none, (some 4), (.mv (some 4) (.k (.bool false)))⟩]) .ret) .skip))) (.reg [⟨none, (some 15), (.mv (some 15) (.t 5))⟩, ⟨none, (some 16), (.bin (some 16) .add (.t 15) (.k (.int .i64 1)))⟩, ⟨none, (some 5), (.mv (some 5) (.t 16))⟩])))))) (.seq (.reg [⟨none, (some 4), (.mv (some 4) (.k (.bool true)))⟩]) .ret))))
theorem tr52 : ((Try.f52.name == "runtime.NumGoroutine") = false ∧ Try.f52.results = ([4].map ResultVar.tmp).toArray) ∧ Try.f52.ntmps = 26 ∧ (Try.f52.body.bind (trCode Try.prog Try.f52.ntmps)) = some ac52 := ⟨⟨by kernel_rfl, by kernel_rfl⟩, by kernel_rfl, by kernel_rfl⟩


theorem nums_eq_FS (xs ys : List Int) (hb : xs.length ≤ 9000000000000000) :
    FS Try.prog 52 [.c (.p (.sl 1 (ints .i64 xs))), .c (.p (.sl 1 (ints .i64 ys)))] [] fun res rg => ∃ t : Bool, res = .c (.p (.v (.bool t))) ∧ rg = [] ∧ (t = true ↔ xs = ys) := by
  refine FS_def [4] 26 Try.func52 tr52 rfl ?_
  unfold ac52
  refine codeW_seq fun K1 hK1 => codeW_reg ?_
  refine O_cons (W_it (W_mv rfl ?_))
  refine O_nil (hK1 _ ?_)
  clear hK1 K1
  refine codeW_seq fun K2 hK2 => ?_
  refine codeW_seq fun K3 hK3 => codeW_reg ?_
  refine O_cons (W_it (W_mv rfl ?_))
  refine O_cons (W_it (W_len rfl ?_))
  refine O_cons (W_it (W_mv rfl ?_))
  refine O_cons (W_it (W_len rfl ?_))
  rw [ints_len, ints_len]
  refine O_cons (W_it (W_neq rfl rfl ?_))
  refine O_nil (hK3 _ ?_)
  clear hK3 K3
  refine codeW_cond rfl (fun hc0 => ?_) (fun hc0 => ?_)
  · refine codeW_seq fun K4 hK4 => codeW_reg ?_
    refine O_cons (W_it (W_mv rfl ?_))
    refine O_nil (hK4 _ ?_)
    clear hK4 K4
    refine codeW_ret (Fin.here (.inr rfl) ⟨false, rfl, rfl, fun h => (by cases h), fun h => ?_⟩)
    subst h
    simp at hc0
  · have hl : xs.length = ys.length := by have := of_decide_eq_true (not_false_t hc0); omega
    refine codeW_skip ?_
    refine (hK2 _ ?_ : K2 _)
    try clear hK2 K2
    refine codeW_seq fun K5 hK5 => ?_
    refine codeW_seq fun K6 hK6 => codeW_reg ?_
    refine O_cons (W_it (W_mv rfl ?_))
    refine O_nil (hK6 _ ?_)
    clear hK6 K6
    refine codeW_block ?_
    refine codeW_weak (s' := ⟨[(5, .c (.p (.v (.int .i64 ((0 : Nat) : Int))))), (1, .c (.p (.sl 1 (ints .i64 ys)))), (0, .c (.p (.sl 1 (ints .i64 xs))))], []⟩) (Weak.ren [] rfl (by decide) trivial ⟨rfl, rfl, rfl, trivial⟩) ?_
    refine codeW_loop (fun k s => ∃ i : Nat, i + k = xs.length ∧ xs.take i = ys.take i ∧ s = ⟨[(5, .c (.p (.v (.int .i64 (i : Int))))), (1, .c (.p (.sl 1 (ints .i64 ys)))), (0, .c (.p (.sl 1 (ints .i64 xs))))], []⟩) xs.length ⟨0, by omega, by simp, rfl⟩ ?_
    rintro k s ⟨i, hik, hT, rfl⟩ K hK
    refine codeW_seq fun K7 hK7 => ?_
    refine codeW_seq fun K8 hK8 => codeW_reg ?_
    refine O_cons (W_it (W_mv rfl ?_))
    refine O_cons (W_it (W_mv rfl ?_))
    refine O_cons (W_it (W_len rfl ?_))
    rw [ints_len]
    refine O_cons (W_it (W_lss rfl rfl ?_))
    refine O_nil (hK8 _ ?_)
    clear hK8 K8
    refine codeW_cond rfl (fun hc1 => ?_) (fun hc1 => ?_)
    · have hi : i < xs.length := by have := of_decide_eq_true hc1; omega
      have hj : i < ys.length := by omega
      refine codeW_skip ?_
      refine (hK7 _ ?_ : K7 _)
      try clear hK7 K7
      refine codeW_seq fun K9 hK9 => ?_
      refine codeW_block ?_
      refine codeW_seq fun K10 hK10 => codeW_reg ?_
      refine O_cons (W_it (W_mv rfl ?_))
      refine O_cons (W_it (W_mv rfl ?_))
      first | refine O_cons (W_it (W_ixs_s rfl rfl (by omega) (ints_geti (i := i) hi) ?_)) | refine O_cons (W_it (W_ixs_o rfl rfl (by omega) (by omega) ?_))
      first | refine O_cons (W_it (W_load_p rfl rfl rfl rfl ?_)) | refine O_cons (W_it (W_load_r rfl rfl rfl ?_)) | refine O_cons (W_it (W_load_e rfl rfl rfl rfl rfl ?_))
      refine O_cons (W_it (W_mv rfl ?_))
      refine O_cons (W_it (W_mv rfl ?_))
      first | refine O_cons (W_it (W_ixs_s rfl rfl (by omega) (ints_geti (i := i) hj) ?_)) | refine O_cons (W_it (W_ixs_o rfl rfl (by omega) (by omega) ?_))
      first | refine O_cons (W_it (W_load_p rfl rfl rfl rfl ?_)) | refine O_cons (W_it (W_load_r rfl rfl rfl ?_)) | refine O_cons (W_it (W_load_e rfl rfl rfl rfl rfl ?_))
      refine O_cons (W_it (W_neq rfl rfl ?_))
      refine O_nil (hK10 _ ?_)
      clear hK10 K10
      refine codeW_cond rfl (fun hc2 => ?_) (fun hc2 => ?_)
      · refine codeW_seq fun K11 hK11 => codeW_reg ?_
        refine O_cons (W_it (W_mv rfl ?_))
        refine O_nil (hK11 _ ?_)
        clear hK11 K11
        refine codeW_ret (Fin.here (.inr rfl) ⟨false, rfl, rfl, fun h => (by cases h), fun h => ?_⟩)
        subst h
        simp at hc2
      · have he : (xs[i]'hi) = (ys[i]'hj) := of_decide_eq_true (not_false_t hc2)
        refine codeW_skip ?_
        refine (hK9 _ ?_ : K9 _)
        try clear hK9 K9
        refine codeW_reg ?_
        refine O_cons (W_it (W_mv rfl ?_))
        refine O_cons (W_it (W_add rfl rfl ?_))
        refine O_cons (W_it (W_mv rfl ?_))
        refine O_nil ?_
        refine hK _ ⟨k - 1, _, by omega, ?_, i + 1, by omega, by rw [List.take_succ_eq_append_getElem hi, List.take_succ_eq_append_getElem hj, hT, he], rfl⟩
        refine Weak.ren [] rfl (by decide) trivial ⟨?_, rfl, rfl, trivial⟩
        · show AV.c (.p (.v (.int .i64 (IntKind.i64.wrap ((i : Int) + 1))))) = AV.c (.p (.v (.int .i64 ((i + 1 : Nat) : Int))))
          rw [wrap64_id (by omega) (by omega)]
          rfl
    · have hi : i = xs.length := by have := of_decide_eq_false hc1; omega
      refine codeW_exit ?_
      refine (hK5 _ ?_ : K5 _)
      try clear hK5 K5
      refine codeW_seq fun K12 hK12 => codeW_reg ?_
      refine O_cons (W_it (W_mv rfl ?_))
      refine O_nil (hK12 _ ?_)
      clear hK12 K12
      refine codeW_ret (Fin.here (.inr rfl) ⟨true, rfl, rfl, fun _ => ?_, fun _ => rfl⟩)
      subst hi
      rw [List.take_length, hl, List.take_length] at hT
      exact hT

def ac51 : ACode := (.seq (.reg [⟨none, (some 4), (.mv (some 4) (.k (.bool false)))⟩]) (.seq (.seq (.reg [⟨none, (some 6), (.mv (some 6) (.t 0))⟩, ⟨none, (some 7), (.len (some 7) (.t 6))⟩, ⟨none, (some 8), (.mv (some 8) (.t 1))⟩, ⟨none, (some 9), (.len (some 9) (.t 8))⟩, ⟨none, (some 10), (.bin (some 10) .neq (.t 7) (.t 9))⟩]) (.cond (.t 10) (.seq (.reg [⟨none, (some 4), (.mv (some 4) (.k (.bool false)))⟩]) .ret) .skip)) (.seq (.seq (.reg [⟨none, (some 5), (.mv (some 5) (.k (.int .i64 0)))⟩]) (.block 0 (.loop (.seq (.seq (.reg [⟨none, (some 11), (.mv (some 11) (.t 5))⟩, ⟨none, (some 12), (.mv (some 12) (.t 0))⟩, ⟨none, (some 13), (.len (some 13) (.t 12))⟩, ⟨none, (some 14), (.bin (some 14) .lss (.t 11) (.t 13))⟩]) (.cond (.t 14) .skip (.exit 0))) (.seq (.block 1 (.seq (.reg [⟨none, (some 17), (.mv (some 17) (.t 0))⟩, ⟨none, (some 18), (.mv (some 18) (.t 5))⟩, ⟨none, (some 19), (.ixs (some 19) 1 (.t 17) (.t 18))⟩, ⟨none, (some 20), (.load (some 20) 1 false (.t 19))⟩, ⟨none, (some 21), (.mv (some 21) (.t 1))⟩, ⟨none, (some 22), (.mv (some 22) (.t 5))⟩, ⟨none, (some 23), (.ixs (some 23) 1 (.t 21) (.t 22))⟩, ⟨none, (some 24), (.load (some 24) 1 false (.t 23))⟩, ⟨none, (some 25), (.bin (some 25) .neq (.t 20) (.t 24))⟩]) (.cond (.t 25) (.seq (.reg [⟨none, (some 4), (.mv (some 4) (.k (.bool false)))⟩]) .ret) .skip))) (.reg [⟨none, (some 15), (.mv (some 15) (.t 5))⟩, ⟨none, (some 16), (.bin (some 16) .add (.t 15) (.k (.int .i64 1)))⟩, ⟨none, (some 5), (.mv (some 5) (.t 16))⟩])))))) (.seq (.reg [⟨none, (some 4), (.mv (some 4) (.k (.bool true)))⟩]) .ret))))
theorem tr51 : ((Try.f51.name == "runtime.NumGoroutine") = false ∧ Try.f51.results = ([4].map ResultVar.tmp).toArray) ∧ Try.f51.ntmps = 26 ∧ (Try.f51.body.bind (trCode Try.prog Try.f51.ntmps)) = some ac51 := ⟨⟨by kernel_rfl, by kernel_rfl⟩, by kernel_rfl, by kernel_rfl⟩


theorem ints_eq_FS (xs ys : List Int) (hb : xs.length ≤ 9000000000000000) :
    FS Try.prog 51 [.c (.p (.sl 1 (ints .i64 xs))), .c (.p (.sl 1 (ints .i64 ys)))] [] fun res rg => ∃ t : Bool, res = .c (.p (.v (.bool t))) ∧ rg = [] ∧ (t = true ↔ xs = ys) := by
  refine FS_def [4] 26 Try.func51 tr51 rfl ?_
  unfold ac51
  refine codeW_seq fun K1 hK1 => codeW_reg ?_
  refine O_cons (W_it (W_mv rfl ?_))
  refine O_nil (hK1 _ ?_)
  clear hK1 K1
  refine codeW_seq fun K2 hK2 => ?_
  refine codeW_seq fun K3 hK3 => codeW_reg ?_
  refine O_cons (W_it (W_mv rfl ?_))
  refine O_cons (W_it (W_len rfl ?_))
  refine O_cons (W_it (W_mv rfl ?_))
  refine O_cons (W_it (W_len rfl ?_))
  rw [ints_len, ints_len]
  refine O_cons (W_it (W_neq rfl rfl ?_))
  refine O_nil (hK3 _ ?_)
  clear hK3 K3
  refine codeW_cond rfl (fun hc0 => ?_) (fun hc0 => ?_)
  · refine codeW_seq fun K4 hK4 => codeW_reg ?_
    refine O_cons (W_it (W_mv rfl ?_))
    refine O_nil (hK4 _ ?_)
    clear hK4 K4
    refine codeW_ret (Fin.here (.inr rfl) ⟨false, rfl, rfl, fun h => (by cases h), fun h => ?_⟩)
    subst h
    simp at hc0
  · have hl : xs.length = ys.length := by have := of_decide_eq_true (not_false_t hc0); omega
    refine codeW_skip ?_
    refine (hK2 _ ?_ : K2 _)
    try clear hK2 K2
    refine codeW_seq fun K5 hK5 => ?_
    refine codeW_seq fun K6 hK6 => codeW_reg ?_
    refine O_cons (W_it (W_mv rfl ?_))
    refine O_nil (hK6 _ ?_)
    clear hK6 K6
    refine codeW_block ?_
    refine codeW_weak (s' := ⟨[(5, .c (.p (.v (.int .i64 ((0 : Nat) : Int))))), (1, .c (.p (.sl 1 (ints .i64 ys)))), (0, .c (.p (.sl 1 (ints .i64 xs))))], []⟩) (Weak.ren [] rfl (by decide) trivial ⟨rfl, rfl, rfl, trivial⟩) ?_
    refine codeW_loop (fun k s => ∃ i : Nat, i + k = xs.length ∧ xs.take i = ys.take i ∧ s = ⟨[(5, .c (.p (.v (.int .i64 (i : Int))))), (1, .c (.p (.sl 1 (ints .i64 ys)))), (0, .c (.p (.sl 1 (ints .i64 xs))))], []⟩) xs.length ⟨0, by omega, by simp, rfl⟩ ?_
    rintro k s ⟨i, hik, hT, rfl⟩ K hK
    refine codeW_seq fun K7 hK7 => ?_
    refine codeW_seq fun K8 hK8 => codeW_reg ?_
    refine O_cons (W_it (W_mv rfl ?_))
    refine O_cons (W_it (W_mv rfl ?_))
    refine O_cons (W_it (W_len rfl ?_))
    rw [ints_len]
    refine O_cons (W_it (W_lss rfl rfl ?_))
    refine O_nil (hK8 _ ?_)
    clear hK8 K8
    refine codeW_cond rfl (fun hc1 => ?_) (fun hc1 => ?_)
    · have hi : i < xs.length := by have := of_decide_eq_true hc1; omega
      have hj : i < ys.length := by omega
      refine codeW_skip ?_
      refine (hK7 _ ?_ : K7 _)
      try clear hK7 K7
      refine codeW_seq fun K9 hK9 => ?_
      refine codeW_block ?_
      refine codeW_seq fun K10 hK10 => codeW_reg ?_
      refine O_cons (W_it (W_mv rfl ?_))
      refine O_cons (W_it (W_mv rfl ?_))
      first | refine O_cons (W_it (W_ixs_s rfl rfl (by omega) (ints_geti (i := i) hi) ?_)) | refine O_cons (W_it (W_ixs_o rfl rfl (by omega) (by omega) ?_))
      first | refine O_cons (W_it (W_load_p rfl rfl rfl rfl ?_)) | refine O_cons (W_it (W_load_r rfl rfl rfl ?_)) | refine O_cons (W_it (W_load_e rfl rfl rfl rfl rfl ?_))
      refine O_cons (W_it (W_mv rfl ?_))
      refine O_cons (W_it (W_mv rfl ?_))
      first | refine O_cons (W_it (W_ixs_s rfl rfl (by omega) (ints_geti (i := i) hj) ?_)) | refine O_cons (W_it (W_ixs_o rfl rfl (by omega) (by omega) ?_))
      first | refine O_cons (W_it (W_load_p rfl rfl rfl rfl ?_)) | refine O_cons (W_it (W_load_r rfl rfl rfl ?_)) | refine O_cons (W_it (W_load_e rfl rfl rfl rfl rfl ?_))
      refine O_cons (W_it (W_neq rfl rfl ?_))
      refine O_nil (hK10 _ ?_)
      clear hK10 K10
      refine codeW_cond rfl (fun hc2 => ?_) (fun hc2 => ?_)
      · refine codeW_seq fun K11 hK11 => codeW_reg ?_
        refine O_cons (W_it (W_mv rfl ?_))
        refine O_nil (hK11 _ ?_)
        clear hK11 K11
        refine codeW_ret (Fin.here (.inr rfl) ⟨false, rfl, rfl, fun h => (by cases h), fun h => ?_⟩)
        subst h
        simp at hc2
      · have he : (xs[i]'hi) = (ys[i]'hj) := of_decide_eq_true (not_false_t hc2)
        refine codeW_skip ?_
        refine (hK9 _ ?_ : K9 _)
        try clear hK9 K9
        refine codeW_reg ?_
        refine O_cons (W_it (W_mv rfl ?_))
        refine O_cons (W_it (W_add rfl rfl ?_))
        refine O_cons (W_it (W_mv rfl ?_))
        refine O_nil ?_
        refine hK _ ⟨k - 1, _, by omega, ?_, i + 1, by omega, by rw [List.take_succ_eq_append_getElem hi, List.take_succ_eq_append_getElem hj, hT, he], rfl⟩
        refine Weak.ren [] rfl (by decide) trivial ⟨?_, rfl, rfl, trivial⟩
        · show AV.c (.p (.v (.int .i64 (IntKind.i64.wrap ((i : Int) + 1))))) = AV.c (.p (.v (.int .i64 ((i + 1 : Nat) : Int))))
          rw [wrap64_id (by omega) (by omega)]
          rfl
    · have hi : i = xs.length := by have := of_decide_eq_false hc1; omega
      refine codeW_exit ?_
      refine (hK5 _ ?_ : K5 _)
      try clear hK5 K5
      refine codeW_seq fun K12 hK12 => codeW_reg ?_
      refine O_cons (W_it (W_mv rfl ?_))
      refine O_nil (hK12 _ ?_)
      clear hK12 K12
      refine codeW_ret (Fin.here (.inr rfl) ⟨true, rfl, rfl, fun _ => ?_, fun _ => rfl⟩)
      subst hi
      rw [List.take_length, hl, List.take_length] at hT
      exact hT

def ac49 : ACode := (.seq (.reg [⟨none, (some 4), (.mv (some 4) (.k (.bool false)))⟩]) (.seq (.seq (.reg [⟨none, (some 6), (.mv (some 6) (.t 0))⟩, ⟨none, (some 7), (.len (some 7) (.t 6))⟩, ⟨none, (some 8), (.mv (some 8) (.t 1))⟩, ⟨none, (some 9), (.len (some 9) (.t 8))⟩, ⟨none, (some 10), (.bin (some 10) .neq (.t 7) (.t 9))⟩]) (.cond (.t 10) (.seq (.reg [⟨none, (some 4), (.mv (some 4) (.k (.bool false)))⟩]) .ret) .skip)) (.seq (.seq (.reg [⟨none, (some 5), (.mv (some 5) (.k (.int .i64 0)))⟩]) (.block 0 (.loop (.seq (.seq (.reg [⟨none, (some 11), (.mv (some 11) (.t 5))⟩, ⟨none, (some 12), (.mv (some 12) (.t 0))⟩, ⟨none, (some 13), (.len (some 13) (.t 12))⟩, ⟨none, (some 14), (.bin (some 14) .lss (.t 11) (.t 13))⟩]) (.cond (.t 14) .skip (.exit 0))) (.seq (.block 1 (.seq (.reg [⟨none, (some 17), (.mv (some 17) (.t 0))⟩, ⟨none, (some 18), (.mv (some 18) (.t 5))⟩, ⟨none, (some 19), (.ixs (some 19) 3 (.t 17) (.t 18))⟩, ⟨none, (some 20), (.load (some 20) 3 true (.t 19))⟩, ⟨none, (some 21), (.mv (some 21) (.t 1))⟩, ⟨none, (some 22), (.mv (some 22) (.t 5))⟩, ⟨none, (some 23), (.ixs (some 23) 3 (.t 21) (.t 22))⟩, ⟨none, (some 24), (.load (some 24) 3 true (.t 23))⟩, ⟨none, (some 25), (.eqs (some 25) true 41 [.i64, .i64, .i64] (.t 20) (.t 24))⟩]) (.cond (.t 25) (.seq (.reg [⟨none, (some 4), (.mv (some 4) (.k (.bool false)))⟩]) .ret) .skip))) (.reg [⟨none, (some 15), (.mv (some 15) (.t 5))⟩, ⟨none, (some 16), (.bin (some 16) .add (.t 15) (.k (.int .i64 1)))⟩, ⟨none, (some 5), (.mv (some 5) (.t 16))⟩])))))) (.seq (.reg [⟨none, (some 4), (.mv (some 4) (.k (.bool true)))⟩]) .ret))))
theorem tr49 : ((Try.f49.name == "runtime.NumGoroutine") = false ∧ Try.f49.results = ([4].map ResultVar.tmp).toArray) ∧ Try.f49.ntmps = 26 ∧ (Try.f49.body.bind (trCode Try.prog Try.f49.ntmps)) = some ac49 := ⟨⟨by kernel_rfl, by kernel_rfl⟩, by kernel_rfl, by kernel_rfl⟩


theorem words_eq_FS (xs ys : List (Int × Int × Int)) (hb : xs.length ≤ 9000000000000000) :
    FS Try.prog 49 [.c (.p (.sl 3 (words xs))), .c (.p (.sl 3 (words ys)))] [] fun res rg => ∃ t : Bool, res = .c (.p (.v (.bool t))) ∧ rg = [] ∧ (t = true ↔ xs = ys) := by
  refine FS_def [4] 26 Try.func49 tr49 rfl ?_
  unfold ac49
  refine codeW_seq fun K1 hK1 => codeW_reg ?_
  refine O_cons (W_it (W_mv rfl ?_))
  refine O_nil (hK1 _ ?_)
  clear hK1 K1
  refine codeW_seq fun K2 hK2 => ?_
  refine codeW_seq fun K3 hK3 => codeW_reg ?_
  refine O_cons (W_it (W_mv rfl ?_))
  refine O_cons (W_it (W_len rfl ?_))
  refine O_cons (W_it (W_mv rfl ?_))
  refine O_cons (W_it (W_len rfl ?_))
  rw [words_len, words_len]
  refine O_cons (W_it (W_neq rfl rfl ?_))
  refine O_nil (hK3 _ ?_)
  clear hK3 K3
  refine codeW_cond rfl (fun hc0 => ?_) (fun hc0 => ?_)
  · refine codeW_seq fun K4 hK4 => codeW_reg ?_
    refine O_cons (W_it (W_mv rfl ?_))
    refine O_nil (hK4 _ ?_)
    clear hK4 K4
    refine codeW_ret (Fin.here (.inr rfl) ⟨false, rfl, rfl, fun h => (by cases h), fun h => ?_⟩)
    subst h
    simp at hc0
  · have hl : xs.length = ys.length := by have := of_decide_eq_true (not_false_t hc0); omega
    refine codeW_skip ?_
    refine (hK2 _ ?_ : K2 _)
    try clear hK2 K2
    refine codeW_seq fun K5 hK5 => ?_
    refine codeW_seq fun K6 hK6 => codeW_reg ?_
    refine O_cons (W_it (W_mv rfl ?_))
    refine O_nil (hK6 _ ?_)
    clear hK6 K6
    refine codeW_block ?_
    refine codeW_weak (s' := ⟨[(5, .c (.p (.v (.int .i64 ((0 : Nat) : Int))))), (1, .c (.p (.sl 3 (words ys)))), (0, .c (.p (.sl 3 (words xs))))], []⟩) (Weak.ren [] rfl (by decide) trivial ⟨rfl, rfl, rfl, trivial⟩) ?_
    refine codeW_loop (fun k s => ∃ i : Nat, i + k = xs.length ∧ xs.take i = ys.take i ∧ s = ⟨[(5, .c (.p (.v (.int .i64 (i : Int))))), (1, .c (.p (.sl 3 (words ys)))), (0, .c (.p (.sl 3 (words xs))))], []⟩) xs.length ⟨0, by omega, by simp, rfl⟩ ?_
    rintro k s ⟨i, hik, hT, rfl⟩ K hK
    refine codeW_seq fun K7 hK7 => ?_
    refine codeW_seq fun K8 hK8 => codeW_reg ?_
    refine O_cons (W_it (W_mv rfl ?_))
    refine O_cons (W_it (W_mv rfl ?_))
    refine O_cons (W_it (W_len rfl ?_))
    rw [words_len]
    refine O_cons (W_it (W_lss rfl rfl ?_))
    refine O_nil (hK8 _ ?_)
    clear hK8 K8
    refine codeW_cond rfl (fun hc1 => ?_) (fun hc1 => ?_)
    · have hi : i < xs.length := by have := of_decide_eq_true hc1; omega
      have hj : i < ys.length := by omega
      refine codeW_skip ?_
      refine (hK7 _ ?_ : K7 _)
      try clear hK7 K7
      refine codeW_seq fun K9 hK9 => ?_
      refine codeW_block ?_
      refine codeW_seq fun K10 hK10 => codeW_reg ?_
      refine O_cons (W_it (W_mv rfl ?_))
      refine O_cons (W_it (W_mv rfl ?_))
      first | refine O_cons (W_it (W_ixs_s rfl rfl (by omega) (words_geti (i := i) hi) ?_)) | refine O_cons (W_it (W_ixs_o rfl rfl (by omega) (by omega) ?_))
      first | refine O_cons (W_it (W_load_p rfl rfl rfl rfl ?_)) | refine O_cons (W_it (W_load_r rfl rfl rfl ?_)) | refine O_cons (W_it (W_load_e rfl rfl rfl rfl rfl ?_))
      refine O_cons (W_it (W_mv rfl ?_))
      refine O_cons (W_it (W_mv rfl ?_))
      first | refine O_cons (W_it (W_ixs_s rfl rfl (by omega) (words_geti (i := i) hj) ?_)) | refine O_cons (W_it (W_ixs_o rfl rfl (by omega) (by omega) ?_))
      first | refine O_cons (W_it (W_load_p rfl rfl rfl rfl ?_)) | refine O_cons (W_it (W_load_r rfl rfl rfl ?_)) | refine O_cons (W_it (W_load_e rfl rfl rfl rfl rfl ?_))
      refine O_cons (W_it (W_eqs rfl rfl rfl rfl eq41 ?_))
      refine O_nil (hK10 _ ?_)
      clear hK10 K10
      refine codeW_cond rfl (fun hc2 => ?_) (fun hc2 => ?_)
      · refine codeW_seq fun K11 hK11 => codeW_reg ?_
        refine O_cons (W_it (W_mv rfl ?_))
        refine O_nil (hK11 _ ?_)
        clear hK11 K11
        refine codeW_ret (Fin.here (.inr rfl) ⟨false, rfl, rfl, fun h => (by cases h), fun h => ?_⟩)
        subst h
        simp at hc2
      · have he : (xs[i]'hi) = (ys[i]'hj) := wordN_inj (of_decide_eq_true (not_false_t hc2))
        refine codeW_skip ?_
        refine (hK9 _ ?_ : K9 _)
        try clear hK9 K9
        refine codeW_reg ?_
        refine O_cons (W_it (W_mv rfl ?_))
        refine O_cons (W_it (W_add rfl rfl ?_))
        refine O_cons (W_it (W_mv rfl ?_))
        refine O_nil ?_
        refine hK _ ⟨k - 1, _, by omega, ?_, i + 1, by omega, by rw [List.take_succ_eq_append_getElem hi, List.take_succ_eq_append_getElem hj, hT, he], rfl⟩
        refine Weak.ren [] rfl (by decide) trivial ⟨?_, rfl, rfl, trivial⟩
        · show AV.c (.p (.v (.int .i64 (IntKind.i64.wrap ((i : Int) + 1))))) = AV.c (.p (.v (.int .i64 ((i + 1 : Nat) : Int))))
          rw [wrap64_id (by omega) (by omega)]
          rfl
    · have hi : i = xs.length := by have := of_decide_eq_false hc1; omega
      refine codeW_exit ?_
      refine (hK5 _ ?_ : K5 _)
      try clear hK5 K5
      refine codeW_seq fun K12 hK12 => codeW_reg ?_
      refine O_cons (W_it (W_mv rfl ?_))
      refine O_nil (hK12 _ ?_)
      clear hK12 K12
      refine codeW_ret (Fin.here (.inr rfl) ⟨true, rfl, rfl, fun _ => ?_, fun _ => rfl⟩)
      subst hi
      rw [List.take_length, hl, List.take_length] at hT
      exact hT

def ac56 : ACode := (.seq (.reg [⟨none, (some 4), (.mv (some 4) (.k (.bool false)))⟩]) (.seq (.seq (.reg [⟨none, (some 6), (.mv (some 6) (.t 0))⟩, ⟨none, (some 7), (.len (some 7) (.t 6))⟩, ⟨none, (some 8), (.mv (some 8) (.t 1))⟩, ⟨none, (some 9), (.len (some 9) (.t 8))⟩, ⟨none, (some 10), (.bin (some 10) .neq (.t 7) (.t 9))⟩]) (.cond (.t 10) (.seq (.reg [⟨none, (some 4), (.mv (some 4) (.k (.bool false)))⟩]) .ret) .skip)) (.seq (.seq (.reg [⟨none, (some 5), (.mv (some 5) (.k (.int .i64 0)))⟩]) (.block 0 (.loop (.seq (.seq (.reg [⟨none, (some 11), (.mv (some 11) (.t 5))⟩, ⟨none, (some 12), (.mv (some 12) (.t 0))⟩, ⟨none, (some 13), (.len (some 13) (.t 12))⟩, ⟨none, (some 14), (.bin (some 14) .lss (.t 11) (.t 13))⟩]) (.cond (.t 14) .skip (.exit 0))) (.seq (.block 1 (.seq (.reg [⟨none, (some 17), (.mv (some 17) (.t 0))⟩, ⟨none, (some 18), (.mv (some 18) (.t 5))⟩, ⟨none, (some 19), (.ixs (some 19) 3 (.t 17) (.t 18))⟩, ⟨none, (some 20), (.load (some 20) 3 true (.t 19))⟩, ⟨none, (some 21), (.mv (some 21) (.t 1))⟩, ⟨none, (some 22), (.mv (some 22) (.t 5))⟩, ⟨none, (some 23), (.ixs (some 23) 3 (.t 21) (.t 22))⟩, ⟨none, (some 24), (.load (some 24) 3 true (.t 23))⟩, ⟨none, (some 25), (.eqs (some 25) true 68 [.i64, .i64, .i64] (.t 20) (.t 24))⟩]) (.cond (.t 25) (.seq (.reg [⟨none, (some 4), (.mv (some 4) (.k (.bool false)))⟩]) .ret) .skip))) (.reg [⟨none, (some 15), (.mv (some 15) (.t 5))⟩, ⟨none, (some 16), (.bin (some 16) .add (.t 15) (.k (.int .i64 1)))⟩, ⟨none, (some 5), (.mv (some 5) (.t 16))⟩])))))) (.seq (.reg [⟨none, (some 4), (.mv (some 4) (.k (.bool true)))⟩]) .ret))))
theorem tr56 : ((Try.f56.name == "runtime.NumGoroutine") = false ∧ Try.f56.results = ([4].map ResultVar.tmp).toArray) ∧ Try.f56.ntmps = 26 ∧ (Try.f56.body.bind (trCode Try.prog Try.f56.ntmps)) = some ac56 := ⟨⟨by kernel_rfl, by kernel_rfl⟩, by kernel_rfl, by kernel_rfl⟩


theorem bags_eq_FS (xs ys : List (Int × Int × Int)) (hb : xs.length ≤ 9000000000000000) :
    FS Try.prog 56 [.c (.p (.sl 3 (words xs))), .c (.p (.sl 3 (words ys)))] [] fun res rg => ∃ t : Bool, res = .c (.p (.v (.bool t))) ∧ rg = [] ∧ (t = true ↔ xs = ys) := by
  refine FS_def [4] 26 Try.func56 tr56 rfl ?_
  unfold ac56
  refine codeW_seq fun K1 hK1 => codeW_reg ?_
  refine O_cons (W_it (W_mv rfl ?_))
  refine O_nil (hK1 _ ?_)
  clear hK1 K1
  refine codeW_seq fun K2 hK2 => ?_
  refine codeW_seq fun K3 hK3 => codeW_reg ?_
  refine O_cons (W_it (W_mv rfl ?_))
  refine O_cons (W_it (W_len rfl ?_))
  refine O_cons (W_it (W_mv rfl ?_))
  refine O_cons (W_it (W_len rfl ?_))
  rw [words_len, words_len]
  refine O_cons (W_it (W_neq rfl rfl ?_))
  refine O_nil (hK3 _ ?_)
  clear hK3 K3
  refine codeW_cond rfl (fun hc0 => ?_) (fun hc0 => ?_)
  · refine codeW_seq fun K4 hK4 => codeW_reg ?_
    refine O_cons (W_it (W_mv rfl ?_))
    refine O_nil (hK4 _ ?_)
    clear hK4 K4
    refine codeW_ret (Fin.here (.inr rfl) ⟨false, rfl, rfl, fun h => (by cases h), fun h => ?_⟩)
    subst h
    simp at hc0
  · have hl : xs.length = ys.length := by have := of_decide_eq_true (not_false_t hc0); omega
    refine codeW_skip ?_
    refine (hK2 _ ?_ : K2 _)
    try clear hK2 K2
    refine codeW_seq fun K5 hK5 => ?_
    refine codeW_seq fun K6 hK6 => codeW_reg ?_
    refine O_cons (W_it (W_mv rfl ?_))
    refine O_nil (hK6 _ ?_)
    clear hK6 K6
    refine codeW_block ?_
    refine codeW_weak (s' := ⟨[(5, .c (.p (.v (.int .i64 ((0 : Nat) : Int))))), (1, .c (.p (.sl 3 (words ys)))), (0, .c (.p (.sl 3 (words xs))))], []⟩) (Weak.ren [] rfl (by decide) trivial ⟨rfl, rfl, rfl, trivial⟩) ?_
    refine codeW_loop (fun k s => ∃ i : Nat, i + k = xs.length ∧ xs.take i = ys.take i ∧ s = ⟨[(5, .c (.p (.v (.int .i64 (i : Int))))), (1, .c (.p (.sl 3 (words ys)))), (0, .c (.p (.sl 3 (words xs))))], []⟩) xs.length ⟨0, by omega, by simp, rfl⟩ ?_
    rintro k s ⟨i, hik, hT, rfl⟩ K hK
    refine codeW_seq fun K7 hK7 => ?_
    refine codeW_seq fun K8 hK8 => codeW_reg ?_
    refine O_cons (W_it (W_mv rfl ?_))
    refine O_cons (W_it (W_mv rfl ?_))
    refine O_cons (W_it (W_len rfl ?_))
    rw [words_len]
    refine O_cons (W_it (W_lss rfl rfl ?_))
    refine O_nil (hK8 _ ?_)
    clear hK8 K8
    refine codeW_cond rfl (fun hc1 => ?_) (fun hc1 => ?_)
    · have hi : i < xs.length := by have := of_decide_eq_true hc1; omega
      have hj : i < ys.length := by omega
      refine codeW_skip ?_
      refine (hK7 _ ?_ : K7 _)
      try clear hK7 K7
      refine codeW_seq fun K9 hK9 => ?_
      refine codeW_block ?_
      refine codeW_seq fun K10 hK10 => codeW_reg ?_
      refine O_cons (W_it (W_mv rfl ?_))
      refine O_cons (W_it (W_mv rfl ?_))
      first | refine O_cons (W_it (W_ixs_s rfl rfl (by omega) (words_geti (i := i) hi) ?_)) | refine O_cons (W_it (W_ixs_o rfl rfl (by omega) (by omega) ?_))
      first | refine O_cons (W_it (W_load_p rfl rfl rfl rfl ?_)) | refine O_cons (W_it (W_load_r rfl rfl rfl ?_)) | refine O_cons (W_it (W_load_e rfl rfl rfl rfl rfl ?_))
      refine O_cons (W_it (W_mv rfl ?_))
      refine O_cons (W_it (W_mv rfl ?_))
      first | refine O_cons (W_it (W_ixs_s rfl rfl (by omega) (words_geti (i := i) hj) ?_)) | refine O_cons (W_it (W_ixs_o rfl rfl (by omega) (by omega) ?_))
      first | refine O_cons (W_it (W_load_p rfl rfl rfl rfl ?_)) | refine O_cons (W_it (W_load_r rfl rfl rfl ?_)) | refine O_cons (W_it (W_load_e rfl rfl rfl rfl rfl ?_))
      refine O_cons (W_it (W_eqs rfl rfl rfl rfl eq68 ?_))
      refine O_nil (hK10 _ ?_)
      clear hK10 K10
      refine codeW_cond rfl (fun hc2 => ?_) (fun hc2 => ?_)
      · refine codeW_seq fun K11 hK11 => codeW_reg ?_
        refine O_cons (W_it (W_mv rfl ?_))
        refine O_nil (hK11 _ ?_)
        clear hK11 K11
        refine codeW_ret (Fin.here (.inr rfl) ⟨false, rfl, rfl, fun h => (by cases h), fun h => ?_⟩)
        subst h
        simp at hc2
      · have he : (xs[i]'hi) = (ys[i]'hj) := wordN_inj (of_decide_eq_true (not_false_t hc2))
        refine codeW_skip ?_
        refine (hK9 _ ?_ : K9 _)
        try clear hK9 K9
        refine codeW_reg ?_
        refine O_cons (W_it (W_mv rfl ?_))
        refine O_cons (W_it (W_add rfl rfl ?_))
        refine O_cons (W_it (W_mv rfl ?_))
        refine O_nil ?_
        refine hK _ ⟨k - 1, _, by omega, ?_, i + 1, by omega, by rw [List.take_succ_eq_append_getElem hi, List.take_succ_eq_append_getElem hj, hT, he], rfl⟩
        refine Weak.ren [] rfl (by decide) trivial ⟨?_, rfl, rfl, trivial⟩
        · show AV.c (.p (.v (.int .i64 (IntKind.i64.wrap ((i : Int) + 1))))) = AV.c (.p (.v (.int .i64 ((i + 1 : Nat) : Int))))
          rw [wrap64_id (by omega) (by omega)]
          rfl
    · have hi : i = xs.length := by have := of_decide_eq_false hc1; omega
      refine codeW_exit ?_
      refine (hK5 _ ?_ : K5 _)
      try clear hK5 K5
      refine codeW_seq fun K12 hK12 => codeW_reg ?_
      refine O_cons (W_it (W_mv rfl ?_))
      refine O_nil (hK12 _ ?_)
      clear hK12 K12
      refine codeW_ret (Fin.here (.inr rfl) ⟨true, rfl, rfl, fun _ => ?_, fun _ => rfl⟩)
      subst hi
      rw [List.take_length, hl, List.take_length] at hT
      exact hT

def ac48 : ACode := (.seq (.reg [⟨none, (some 4), (.mv (some 4) (.k (.bool false)))⟩]) (.seq (.seq (.reg [⟨none, (some 6), (.mv (some 6) (.t 0))⟩, ⟨none, (some 7), (.len (some 7) (.t 6))⟩, ⟨none, (some 8), (.mv (some 8) (.t 1))⟩, ⟨none, (some 9), (.len (some 9) (.t 8))⟩, ⟨none, (some 10), (.bin (some 10) .neq (.t 7) (.t 9))⟩]) (.cond (.t 10) (.seq (.reg [⟨none, (some 4), (.mv (some 4) (.k (.bool false)))⟩]) .ret) .skip)) (.seq (.seq (.reg [⟨none, (some 5), (.mv (some 5) (.k (.int .i64 0)))⟩]) (.block 0 (.loop (.seq (.seq (.reg [⟨none, (some 11), (.mv (some 11) (.t 5))⟩, ⟨none, (some 12), (.mv (some 12) (.t 0))⟩, ⟨none, (some 13), (.len (some 13) (.t 12))⟩, ⟨none, (some 14), (.bin (some 14) .lss (.t 11) (.t 13))⟩]) (.cond (.t 14) .skip (.exit 0))) (.seq (.block 1 (.seq (.reg [⟨none, (some 17), (.mv (some 17) (.t 0))⟩, ⟨none, (some 18), (.mv (some 18) (.t 5))⟩, ⟨none, (some 19), (.ixs (some 19) 8 (.t 17) (.t 18))⟩, ⟨none, (some 20), (.load (some 20) 8 true (.t 19))⟩, ⟨none, (some 21), (.mv (some 21) (.t 1))⟩, ⟨none, (some 22), (.mv (some 22) (.t 5))⟩, ⟨none, (some 23), (.ixs (some 23) 8 (.t 21) (.t 22))⟩, ⟨none, (some 24), (.load (some 24) 8 true (.t 23))⟩, ⟨none, (some 25), (.eqs (some 25) true 78 [.i64, .i64, .i64, .i64, .i64, .i64, .i64, .i64] (.t 20) (.t 24))⟩]) (.cond (.t 25) (.seq (.reg [⟨none, (some 4), (.mv (some 4) (.k (.bool false)))⟩]) .ret) .skip))) (.reg [⟨none, (some 15), (.mv (some 15) (.t 5))⟩, ⟨none, (some 16), (.bin (some 16) .add (.t 15) (.k (.int .i64 1)))⟩, ⟨none, (some 5), (.mv (some 5) (.t 16))⟩])))))) (.seq (.reg [⟨none, (some 4), (.mv (some 4) (.k (.bool true)))⟩]) .ret))))
theorem tr48 : ((Try.f48.name == "runtime.NumGoroutine") = false ∧ Try.f48.results = ([4].map ResultVar.tmp).toArray) ∧ Try.f48.ntmps = 26 ∧ (Try.f48.body.bind (trCode Try.prog Try.f48.ntmps)) = some ac48 := ⟨⟨by kernel_rfl, by kernel_rfl⟩, by kernel_rfl, by kernel_rfl⟩


theorem ents_eq_FS (xs ys : List Ent) (hb : xs.length ≤ 9000000000000000) :
    FS Try.prog 48 [.c (.p (.sl 8 (ents xs))), .c (.p (.sl 8 (ents ys)))] [] fun res rg => ∃ t : Bool, res = .c (.p (.v (.bool t))) ∧ rg = [] ∧ (t = true ↔ xs = ys) := by
  refine FS_def [4] 26 Try.func48 tr48 rfl ?_
  unfold ac48
  refine codeW_seq fun K1 hK1 => codeW_reg ?_
  refine O_cons (W_it (W_mv rfl ?_))
  refine O_nil (hK1 _ ?_)
  clear hK1 K1
  refine codeW_seq fun K2 hK2 => ?_
  refine codeW_seq fun K3 hK3 => codeW_reg ?_
  refine O_cons (W_it (W_mv rfl ?_))
  refine O_cons (W_it (W_len rfl ?_))
  refine O_cons (W_it (W_mv rfl ?_))
  refine O_cons (W_it (W_len rfl ?_))
  rw [ents_len, ents_len]
  refine O_cons (W_it (W_neq rfl rfl ?_))
  refine O_nil (hK3 _ ?_)
  clear hK3 K3
  refine codeW_cond rfl (fun hc0 => ?_) (fun hc0 => ?_)
  · refine codeW_seq fun K4 hK4 => codeW_reg ?_
    refine O_cons (W_it (W_mv rfl ?_))
    refine O_nil (hK4 _ ?_)
    clear hK4 K4
    refine codeW_ret (Fin.here (.inr rfl) ⟨false, rfl, rfl, fun h => (by cases h), fun h => ?_⟩)
    subst h
    simp at hc0
  · have hl : xs.length = ys.length := by have := of_decide_eq_true (not_false_t hc0); omega
    refine codeW_skip ?_
    refine (hK2 _ ?_ : K2 _)
    try clear hK2 K2
    refine codeW_seq fun K5 hK5 => ?_
    refine codeW_seq fun K6 hK6 => codeW_reg ?_
    refine O_cons (W_it (W_mv rfl ?_))
    refine O_nil (hK6 _ ?_)
    clear hK6 K6
    refine codeW_block ?_
    refine codeW_weak (s' := ⟨[(5, .c (.p (.v (.int .i64 ((0 : Nat) : Int))))), (1, .c (.p (.sl 8 (ents ys)))), (0, .c (.p (.sl 8 (ents xs))))], []⟩) (Weak.ren [] rfl (by decide) trivial ⟨rfl, rfl, rfl, trivial⟩) ?_
    refine codeW_loop (fun k s => ∃ i : Nat, i + k = xs.length ∧ xs.take i = ys.take i ∧ s = ⟨[(5, .c (.p (.v (.int .i64 (i : Int))))), (1, .c (.p (.sl 8 (ents ys)))), (0, .c (.p (.sl 8 (ents xs))))], []⟩) xs.length ⟨0, by omega, by simp, rfl⟩ ?_
    rintro k s ⟨i, hik, hT, rfl⟩ K hK
    refine codeW_seq fun K7 hK7 => ?_
    refine codeW_seq fun K8 hK8 => codeW_reg ?_
    refine O_cons (W_it (W_mv rfl ?_))
    refine O_cons (W_it (W_mv rfl ?_))
    refine O_cons (W_it (W_len rfl ?_))
    rw [ents_len]
    refine O_cons (W_it (W_lss rfl rfl ?_))
    refine O_nil (hK8 _ ?_)
    clear hK8 K8
    refine codeW_cond rfl (fun hc1 => ?_) (fun hc1 => ?_)
    · have hi : i < xs.length := by have := of_decide_eq_true hc1; omega
      have hj : i < ys.length := by omega
      refine codeW_skip ?_
      refine (hK7 _ ?_ : K7 _)
      try clear hK7 K7
      refine codeW_seq fun K9 hK9 => ?_
      refine codeW_block ?_
      refine codeW_seq fun K10 hK10 => codeW_reg ?_
      refine O_cons (W_it (W_mv rfl ?_))
      refine O_cons (W_it (W_mv rfl ?_))
      first | refine O_cons (W_it (W_ixs_s rfl rfl (by omega) (ents_geti (i := i) hi) ?_)) | refine O_cons (W_it (W_ixs_o rfl rfl (by omega) (by omega) ?_))
      first | refine O_cons (W_it (W_load_p rfl rfl rfl rfl ?_)) | refine O_cons (W_it (W_load_r rfl rfl rfl ?_)) | refine O_cons (W_it (W_load_e rfl rfl rfl rfl rfl ?_))
      refine O_cons (W_it (W_mv rfl ?_))
      refine O_cons (W_it (W_mv rfl ?_))
      first | refine O_cons (W_it (W_ixs_s rfl rfl (by omega) (ents_geti (i := i) hj) ?_)) | refine O_cons (W_it (W_ixs_o rfl rfl (by omega) (by omega) ?_))
      first | refine O_cons (W_it (W_load_p rfl rfl rfl rfl ?_)) | refine O_cons (W_it (W_load_r rfl rfl rfl ?_)) | refine O_cons (W_it (W_load_e rfl rfl rfl rfl rfl ?_))
      refine O_cons (W_it (W_eqs rfl rfl rfl rfl eq78 ?_))
      refine O_nil (hK10 _ ?_)
      clear hK10 K10
      refine codeW_cond rfl (fun hc2 => ?_) (fun hc2 => ?_)
      · refine codeW_seq fun K11 hK11 => codeW_reg ?_
        refine O_cons (W_it (W_mv rfl ?_))
        refine O_nil (hK11 _ ?_)
        clear hK11 K11
        refine codeW_ret (Fin.here (.inr rfl) ⟨false, rfl, rfl, fun h => (by cases h), fun h => ?_⟩)
        subst h
        simp at hc2
      · have he : (xs[i]'hi) = (ys[i]'hj) := entN_inj (of_decide_eq_true (not_false_t hc2))
        refine codeW_skip ?_
        refine (hK9 _ ?_ : K9 _)
        try clear hK9 K9
        refine codeW_reg ?_
        refine O_cons (W_it (W_mv rfl ?_))
        refine O_cons (W_it (W_add rfl rfl ?_))
        refine O_cons (W_it (W_mv rfl ?_))
        refine O_nil ?_
        refine hK _ ⟨k - 1, _, by omega, ?_, i + 1, by omega, by rw [List.take_succ_eq_append_getElem hi, List.take_succ_eq_append_getElem hj, hT, he], rfl⟩
        refine Weak.ren [] rfl (by decide) trivial ⟨?_, rfl, rfl, trivial⟩
        · show AV.c (.p (.v (.int .i64 (IntKind.i64.wrap ((i : Int) + 1))))) = AV.c (.p (.v (.int .i64 ((i + 1 : Nat) : Int))))
          rw [wrap64_id (by omega) (by omega)]
          rfl
    · have hi : i = xs.length := by have := of_decide_eq_false hc1; omega
      refine codeW_exit ?_
      refine (hK5 _ ?_ : K5 _)
      try clear hK5 K5
      refine codeW_seq fun K12 hK12 => codeW_reg ?_
      refine O_cons (W_it (W_mv rfl ?_))
      refine O_nil (hK12 _ ?_)
      clear hK12 K12
      refine codeW_ret (Fin.here (.inr rfl) ⟨true, rfl, rfl, fun _ => ?_, fun _ => rfl⟩)
      subst hi
      rw [List.take_length, hl, List.take_length] at hT
      exact hT

def ac50 : ACode := (.seq (.reg [⟨none, (some 4), (.mv (some 4) (.k (.bool false)))⟩]) (.seq (.seq (.reg [⟨none, (some 6), (.mv (some 6) (.t 0))⟩, ⟨none, (some 7), (.len (some 7) (.t 6))⟩, ⟨none, (some 8), (.mv (some 8) (.t 1))⟩, ⟨none, (some 9), (.len (some 9) (.t 8))⟩, ⟨none, (some 10), (.bin (some 10) .neq (.t 7) (.t 9))⟩]) (.cond (.t 10) (.seq (.reg [⟨none, (some 4), (.mv (some 4) (.k (.bool false)))⟩]) .ret) .skip)) (.seq (.seq (.reg [⟨none, (some 5), (.mv (some 5) (.k (.int .i64 0)))⟩]) (.block 0 (.loop (.seq (.seq (.reg [⟨none, (some 11), (.mv (some 11) (.t 5))⟩, ⟨none, (some 12), (.mv (some 12) (.t 0))⟩, ⟨none, (some 13), (.len (some 13) (.t 12))⟩, ⟨none, (some 14), (.bin (some 14) .lss (.t 11) (.t 13))⟩]) (.cond (.t 14) .skip (.exit 0))) (.seq (.block 1 (.seq (.reg [⟨none, (some 17), (.mv (some 17) (.t 0))⟩, ⟨none, (some 18), (.mv (some 18) (.t 5))⟩, ⟨none, (some 19), (.ixs (some 19) 10 (.t 17) (.t 18))⟩, ⟨none, (some 20), (.load (some 20) 10 true (.t 19))⟩, ⟨none, (some 21), (.mv (some 21) (.t 1))⟩, ⟨none, (some 22), (.mv (some 22) (.t 5))⟩, ⟨none, (some 23), (.ixs (some 23) 10 (.t 21) (.t 22))⟩, ⟨none, (some 24), (.load (some 24) 10 true (.t 23))⟩, ⟨none, (some 25), (.eqs (some 25) true 84 [.i64, .i64, .i64, .i64, .i64, .i64, .i64, .i64, .i64, .i64] (.t 20) (.t 24))⟩]) (.cond (.t 25) (.seq (.reg [⟨none, (some 4), (.mv (some 4) (.k (.bool false)))⟩]) .ret) .skip))) (.reg [⟨none, (some 15), (.mv (some 15) (.t 5))⟩, ⟨none, (some 16), (.bin (some 16) .add (.t 15) (.k (.int .i64 1)))⟩, ⟨none, (some 5), (.mv (some 5) (.t 16))⟩])))))) (.seq (.reg [⟨none, (some 4), (.mv (some 4) (.k (.bool true)))⟩]) .ret))))
theorem tr50 : ((Try.f50.name == "runtime.NumGoroutine") = false ∧ Try.f50.results = ([4].map ResultVar.tmp).toArray) ∧ Try.f50.ntmps = 26 ∧ (Try.f50.body.bind (trCode Try.prog Try.f50.ntmps)) = some ac50 := ⟨⟨by kernel_rfl, by kernel_rfl⟩, by kernel_rfl, by kernel_rfl⟩


theorem cells_eq_FS (xs ys : List Cel) (hb : xs.length ≤ 9000000000000000) :
    FS Try.prog 50 [.c (.p (.sl 10 (cels xs))), .c (.p (.sl 10 (cels ys)))] [] fun res rg => ∃ t : Bool, res = .c (.p (.v (.bool t))) ∧ rg = [] ∧ (t = true ↔ xs = ys) := by
  refine FS_def [4] 26 Try.func50 tr50 rfl ?_
  unfold ac50
  refine codeW_seq fun K1 hK1 => codeW_reg ?_
  refine O_cons (W_it (W_mv rfl ?_))
  refine O_nil (hK1 _ ?_)
  clear hK1 K1
  refine codeW_seq fun K2 hK2 => ?_
  refine codeW_seq fun K3 hK3 => codeW_reg ?_
  refine O_cons (W_it (W_mv rfl ?_))
  refine O_cons (W_it (W_len rfl ?_))
  refine O_cons (W_it (W_mv rfl ?_))
  refine O_cons (W_it (W_len rfl ?_))
  rw [cels_len, cels_len]
  refine O_cons (W_it (W_neq rfl rfl ?_))
  refine O_nil (hK3 _ ?_)
  clear hK3 K3
  refine codeW_cond rfl (fun hc0 => ?_) (fun hc0 => ?_)
  · refine codeW_seq fun K4 hK4 => codeW_reg ?_
    refine O_cons (W_it (W_mv rfl ?_))
    refine O_nil (hK4 _ ?_)
    clear hK4 K4
    refine codeW_ret (Fin.here (.inr rfl) ⟨false, rfl, rfl, fun h => (by cases h), fun h => ?_⟩)
    subst h
    simp at hc0
  · have hl : xs.length = ys.length := by have := of_decide_eq_true (not_false_t hc0); omega
    refine codeW_skip ?_
    refine (hK2 _ ?_ : K2 _)
    try clear hK2 K2
    refine codeW_seq fun K5 hK5 => ?_
    refine codeW_seq fun K6 hK6 => codeW_reg ?_
    refine O_cons (W_it (W_mv rfl ?_))
    refine O_nil (hK6 _ ?_)
    clear hK6 K6
    refine codeW_block ?_
    refine codeW_weak (s' := ⟨[(5, .c (.p (.v (.int .i64 ((0 : Nat) : Int))))), (1, .c (.p (.sl 10 (cels ys)))), (0, .c (.p (.sl 10 (cels xs))))], []⟩) (Weak.ren [] rfl (by decide) trivial ⟨rfl, rfl, rfl, trivial⟩) ?_
    refine codeW_loop (fun k s => ∃ i : Nat, i + k = xs.length ∧ xs.take i = ys.take i ∧ s = ⟨[(5, .c (.p (.v (.int .i64 (i : Int))))), (1, .c (.p (.sl 10 (cels ys)))), (0, .c (.p (.sl 10 (cels xs))))], []⟩) xs.length ⟨0, by omega, by simp, rfl⟩ ?_
    rintro k s ⟨i, hik, hT, rfl⟩ K hK
    refine codeW_seq fun K7 hK7 => ?_
    refine codeW_seq fun K8 hK8 => codeW_reg ?_
    refine O_cons (W_it (W_mv rfl ?_))
    refine O_cons (W_it (W_mv rfl ?_))
    refine O_cons (W_it (W_len rfl ?_))
    rw [cels_len]
    refine O_cons (W_it (W_lss rfl rfl ?_))
    refine O_nil (hK8 _ ?_)
    clear hK8 K8
    refine codeW_cond rfl (fun hc1 => ?_) (fun hc1 => ?_)
    · have hi : i < xs.length := by have := of_decide_eq_true hc1; omega
      have hj : i < ys.length := by omega
      refine codeW_skip ?_
      refine (hK7 _ ?_ : K7 _)
      try clear hK7 K7
      refine codeW_seq fun K9 hK9 => ?_
      refine codeW_block ?_
      refine codeW_seq fun K10 hK10 => codeW_reg ?_
      refine O_cons (W_it (W_mv rfl ?_))
      refine O_cons (W_it (W_mv rfl ?_))
      first | refine O_cons (W_it (W_ixs_s rfl rfl (by omega) (cels_geti (i := i) hi) ?_)) | refine O_cons (W_it (W_ixs_o rfl rfl (by omega) (by omega) ?_))
      first | refine O_cons (W_it (W_load_p rfl rfl rfl rfl ?_)) | refine O_cons (W_it (W_load_r rfl rfl rfl ?_)) | refine O_cons (W_it (W_load_e rfl rfl rfl rfl rfl ?_))
      refine O_cons (W_it (W_mv rfl ?_))
      refine O_cons (W_it (W_mv rfl ?_))
      first | refine O_cons (W_it (W_ixs_s rfl rfl (by omega) (cels_geti (i := i) hj) ?_)) | refine O_cons (W_it (W_ixs_o rfl rfl (by omega) (by omega) ?_))
      first | refine O_cons (W_it (W_load_p rfl rfl rfl rfl ?_)) | refine O_cons (W_it (W_load_r rfl rfl rfl ?_)) | refine O_cons (W_it (W_load_e rfl rfl rfl rfl rfl ?_))
      refine O_cons (W_it (W_eqs rfl rfl rfl rfl eq84 ?_))
      refine O_nil (hK10 _ ?_)
      clear hK10 K10
      refine codeW_cond rfl (fun hc2 => ?_) (fun hc2 => ?_)
      · refine codeW_seq fun K11 hK11 => codeW_reg ?_
        refine O_cons (W_it (W_mv rfl ?_))
        refine O_nil (hK11 _ ?_)
        clear hK11 K11
        refine codeW_ret (Fin.here (.inr rfl) ⟨false, rfl, rfl, fun h => (by cases h), fun h => ?_⟩)
        subst h
        simp at hc2
      · have he : (xs[i]'hi) = (ys[i]'hj) := celN_inj (of_decide_eq_true (not_false_t hc2))
        refine codeW_skip ?_
        refine (hK9 _ ?_ : K9 _)
        try clear hK9 K9
        refine codeW_reg ?_
        refine O_cons (W_it (W_mv rfl ?_))
        refine O_cons (W_it (W_add rfl rfl ?_))
        refine O_cons (W_it (W_mv rfl ?_))
        refine O_nil ?_
        refine hK _ ⟨k - 1, _, by omega, ?_, i + 1, by omega, by rw [List.take_succ_eq_append_getElem hi, List.take_succ_eq_append_getElem hj, hT, he], rfl⟩
        refine Weak.ren [] rfl (by decide) trivial ⟨?_, rfl, rfl, trivial⟩
        · show AV.c (.p (.v (.int .i64 (IntKind.i64.wrap ((i : Int) + 1))))) = AV.c (.p (.v (.int .i64 ((i + 1 : Nat) : Int))))
          rw [wrap64_id (by omega) (by omega)]
          rfl
    · have hi : i = xs.length := by have := of_decide_eq_false hc1; omega
      refine codeW_exit ?_
      refine (hK5 _ ?_ : K5 _)
      try clear hK5 K5
      refine codeW_seq fun K12 hK12 => codeW_reg ?_
      refine O_cons (W_it (W_mv rfl ?_))
      refine O_nil (hK12 _ ?_)
      clear hK12 K12
      refine codeW_ret (Fin.here (.inr rfl) ⟨true, rfl, rfl, fun _ => ?_, fun _ => rfl⟩)
      subst hi
      rw [List.take_length, hl, List.take_length] at hT
      exact hT

def ac55 : ACode := (.seq (.reg [⟨none, (some 2), (.box (some 2) (.t 0))⟩, ⟨none, (some 3), (.box (some 3) (.t 1))⟩, ⟨none, (some 4), (.mv (some 4) (.k (.bool false)))⟩]) (.seq (.reg [⟨none, (some 5), (.fad (some 5) 0 (.t 2))⟩, ⟨none, (some 6), (.load (some 6) 1 false (.t 5))⟩, ⟨none, (some 7), (.fad (some 7) 0 (.t 3))⟩, ⟨none, (some 8), (.load (some 8) 1 false (.t 7))⟩, ⟨none, (some 9), (.bin (some 9) .eql (.t 6) (.t 8))⟩, ⟨none, (some 10), (.mv (some 10) (.t 9))⟩, ⟨(some (10, true)), (some 11), (.fad (some 11) 1 (.t 2))⟩, ⟨(some (10, true)), (some 12), (.load (some 12) 1 false (.t 11))⟩, ⟨(some (10, true)), (some 13), (.fad (some 13) 1 (.t 3))⟩, ⟨(some (10, true)), (some 14), (.load (some 14) 1 false (.t 13))⟩, ⟨(some (10, true)), (some 15), (.bin (some 15) .eql (.t 12) (.t 14))⟩, ⟨none, (some 16), (.pick (some 16) (.t 10) (.t 15) (.k (.bool false)))⟩, ⟨none, (some 17), (.mv (some 17) (.t 16))⟩, ⟨(some (17, true)), (some 18), (.fad (some 18) 2 (.t 2))⟩, ⟨(some (17, true)), (some 19), (.load (some 19) 1 false (.t 18))⟩, ⟨(some (17, true)), (some 20), (.fad (some 20) 2 (.t 3))⟩, ⟨(some (17, true)), (some 21), (.load (some 21) 1 false (.t 20))⟩, ⟨(some (17, true)), (some 22), (.bin (some 22) .eql (.t 19) (.t 21))⟩, ⟨none, (some 23), (.pick (some 23) (.t 17) (.t 22) (.k (.bool false)))⟩, ⟨none, (some 24), (.mv (some 24) (.t 23))⟩, ⟨(some (24, true)), (some 25), (.fad (some 25) 3 (.t 2))⟩, ⟨(some (24, true)), (some 26), (.load (some 26) 1 false (.t 25))⟩, ⟨(some (24, true)), (some 27), (.fad (some 27) 3 (.t 3))⟩, ⟨(some (24, true)), (some 28), (.load (some 28) 1 false (.t 27))⟩, ⟨(some (24, true)), (some 29), (.call (some 29) 52 [(.t 26), (.t 28)])⟩, ⟨none, (some 30), (.pick (some 30) (.t 24) (.t 29) (.k (.bool false)))⟩, ⟨none, (some 4), (.mv (some 4) (.t 30))⟩]) .ret))
theorem tr55 : ((Try.f55.name == "runtime.NumGoroutine") = false ∧ Try.f55.results = ([4].map ResultVar.tmp).toArray) ∧ Try.f55.ntmps = 31 ∧ (Try.f55.body.bind (trCode Try.prog Try.f55.ntmps)) = some ac55 := ⟨⟨by kernel_rfl, by kernel_rfl⟩, by kernel_rfl, by kernel_rfl⟩


theorem micro_eq_FS (a b : Thr) (hb : a.seen.length ≤ 9000000000000000) :
    FS Try.prog 55 [.agg ([.v (.int .i64 a.kind), .v (.int .i64 a.i), .v (.int .i64 a.n), .sl 1 (ints .i64 a.seen)].map .p), .agg ([.v (.int .i64 b.kind), .v (.int .i64 b.i), .v (.int .i64 b.n), .sl 1 (ints .i64 b.seen)].map .p)] [] fun res rg => ∃ t : Bool, res = .c (.p (.v (.bool t))) ∧ rg = [] ∧ (t = true ↔ a.kind = b.kind ∧ a.i = b.i ∧ a.n = b.n ∧ a.seen = b.seen) := by
  refine FS_def [4] 31 Try.func55 tr55 rfl ?_
  unfold ac55
  refine codeW_seq fun K1 hK1 => codeW_reg ?_
  refine O_cons (W_it (W_box rfl ?_))
  refine O_cons (W_it (W_box rfl ?_))
  refine O_cons (W_it (W_mv rfl ?_))
  refine O_nil (hK1 _ ?_)
  clear hK1 K1
  refine codeW_weak (s' := ⟨[(3, .c (.ptr 1 0)), (2, .c (.rp [.v (.int .i64 a.kind), .v (.int .i64 a.i), .v (.int .i64 a.n), .sl 1 (ints .i64 a.seen)]))], [.dead, .ac ([.v (.int .i64 b.kind), .v (.int .i64 b.i), .v (.int .i64 b.n), .sl 1 (ints .i64 b.seen)].map .p)]⟩) (Weak.box 0 [.v (.int .i64 a.kind), .v (.int .i64 a.i), .v (.int .i64 a.n), .sl 1 (ints .i64 a.seen)] rfl ⟨.inl rfl, .inr ⟨0, rfl, Nat.zero_le _, rfl⟩, trivial⟩ ⟨t_dead (by decide), t_keep (fun _ => .inl rfl) (by decide), trivial⟩) ?_
  refine codeW_weak (s' := ⟨[(3, .c (.rp [.v (.int .i64 b.kind), .v (.int .i64 b.i), .v (.int .i64 b.n), .sl 1 (ints .i64 b.seen)])), (2, .c (.rp [.v (.int .i64 a.kind), .v (.int .i64 a.i), .v (.int .i64 a.n), .sl 1 (ints .i64 a.seen)]))], [.dead, .dead]⟩) (Weak.box 1 [.v (.int .i64 b.kind), .v (.int .i64 b.i), .v (.int .i64 b.n), .sl 1 (ints .i64 b.seen)] rfl ⟨.inr ⟨0, rfl, Nat.zero_le _, rfl⟩, .inl rfl, trivial⟩ ⟨t_keep (fun _ => .inl rfl) (by decide), t_dead (by decide), trivial⟩) ?_
  refine codeW_weak (s' := ⟨[(3, .c (.rp [.v (.int .i64 b.kind), .v (.int .i64 b.i), .v (.int .i64 b.n), .sl 1 (ints .i64 b.seen)])), (2, .c (.rp [.v (.int .i64 a.kind), .v (.int .i64 a.i), .v (.int .i64 a.n), .sl 1 (ints .i64 a.seen)]))], []⟩) (Weak.ren [] rfl (by decide) trivial ⟨rfl, rfl, trivial⟩) ?_
  refine codeW_seq fun K2 hK2 => codeW_reg ?_
  first | refine O_cons (W_it (W_fad_p rfl ?_)) | refine O_cons (W_it (W_fad_e rfl ?_)) | refine O_cons (W_it (W_fad_r rfl ?_))
  first | refine O_cons (W_it (W_load_p rfl rfl rfl rfl ?_)) | refine O_cons (W_it (W_load_r rfl rfl rfl ?_)) | refine O_cons (W_it (W_load_e rfl rfl rfl rfl rfl ?_))
  first | refine O_cons (W_it (W_fad_p rfl ?_)) | refine O_cons (W_it (W_fad_e rfl ?_)) | refine O_cons (W_it (W_fad_r rfl ?_))
  first | refine O_cons (W_it (W_load_p rfl rfl rfl rfl ?_)) | refine O_cons (W_it (W_load_r rfl rfl rfl ?_)) | refine O_cons (W_it (W_load_e rfl rfl rfl rfl rfl ?_))
  refine O_cons (W_it (W_eql rfl rfl ?_))
  rcases Bool.eq_false_or_eq_true (decide (a.kind = b.kind)) with hf | hf
  · refine O_cons (W_it (W_mv rfl ?_))
    first | refine O_cons (W_gyE rfl (by first | rfl | assumption) (W_fad_p rfl ?_)) | refine O_cons (W_gyE rfl (by first | rfl | assumption) (W_fad_e rfl ?_)) | refine O_cons (W_gyE rfl (by first | rfl | assumption) (W_fad_r rfl ?_)) | refine O_cons (W_gnE rfl (by first | rfl | assumption) ?_) | refine O_cons (W_gu rfl ?_)
    first | refine O_cons (W_gyE rfl (by first | rfl | assumption) (W_load_p rfl rfl rfl rfl ?_)) | refine O_cons (W_gyE rfl (by first | rfl | assumption) (W_load_r rfl rfl rfl ?_)) | refine O_cons (W_gyE rfl (by first | rfl | assumption) (W_load_e rfl rfl rfl rfl rfl ?_)) | refine O_cons (W_gnE rfl (by first | rfl | assumption) ?_) | refine O_cons (W_gu rfl ?_)
    first | refine O_cons (W_gyE rfl (by first | rfl | assumption) (W_fad_p rfl ?_)) | refine O_cons (W_gyE rfl (by first | rfl | assumption) (W_fad_e rfl ?_)) | refine O_cons (W_gyE rfl (by first | rfl | assumption) (W_fad_r rfl ?_)) | refine O_cons (W_gnE rfl (by first | rfl | assumption) ?_) | refine O_cons (W_gu rfl ?_)
    first | refine O_cons (W_gyE rfl (by first | rfl | assumption) (W_load_p rfl rfl rfl rfl ?_)) | refine O_cons (W_gyE rfl (by first | rfl | assumption) (W_load_r rfl rfl rfl ?_)) | refine O_cons (W_gyE rfl (by first | rfl | assumption) (W_load_e rfl rfl rfl rfl rfl ?_)) | refine O_cons (W_gnE rfl (by first | rfl | assumption) ?_) | refine O_cons (W_gu rfl ?_)
    first | refine O_cons (W_gyE rfl (by first | rfl | assumption) (W_eql rfl rfl ?_)) | refine O_cons (W_gnE rfl (by first | rfl | assumption) ?_) | refine O_cons (W_gu rfl ?_)
    first | refine O_cons (W_it (W_pickE rfl (by first | rfl | assumption) rfl ?_)) | refine O_cons (W_it (W_pickF rfl (by first | rfl | assumption) rfl ?_))
    rcases Bool.eq_false_or_eq_true (decide (a.i = b.i)) with hf | hf
    · refine O_cons (W_it (W_mv rfl ?_))
      first | refine O_cons (W_gyE rfl (by first | rfl | assumption) (W_fad_p rfl ?_)) | refine O_cons (W_gyE rfl (by first | rfl | assumption) (W_fad_e rfl ?_)) | refine O_cons (W_gyE rfl (by first | rfl | assumption) (W_fad_r rfl ?_)) | refine O_cons (W_gnE rfl (by first | rfl | assumption) ?_) | refine O_cons (W_gu rfl ?_)
      first | refine O_cons (W_gyE rfl (by first | rfl | assumption) (W_load_p rfl rfl rfl rfl ?_)) | refine O_cons (W_gyE rfl (by first | rfl | assumption) (W_load_r rfl rfl rfl ?_)) | refine O_cons (W_gyE rfl (by first | rfl | assumption) (W_load_e rfl rfl rfl rfl rfl ?_)) | refine O_cons (W_gnE rfl (by first | rfl | assumption) ?_) | refine O_cons (W_gu rfl ?_)
      first | refine O_cons (W_gyE rfl (by first | rfl | assumption) (W_fad_p rfl ?_)) | refine O_cons (W_gyE rfl (by first | rfl | assumption) (W_fad_e rfl ?_)) | refine O_cons (W_gyE rfl (by first | rfl | assumption) (W_fad_r rfl ?_)) | refine O_cons (W_gnE rfl (by first | rfl | assumption) ?_) | refine O_cons (W_gu rfl ?_)
      first | refine O_cons (W_gyE rfl (by first | rfl | assumption) (W_load_p rfl rfl rfl rfl ?_)) | refine O_cons (W_gyE rfl (by first | rfl | assumption) (W_load_r rfl rfl rfl ?_)) | refine O_cons (W_gyE rfl (by first | rfl | assumption) (W_load_e rfl rfl rfl rfl rfl ?_)) | refine O_cons (W_gnE rfl (by first | rfl | assumption) ?_) | refine O_cons (W_gu rfl ?_)
      first | refine O_cons (W_gyE rfl (by first | rfl | assumption) (W_eql rfl rfl ?_)) | refine O_cons (W_gnE rfl (by first | rfl | assumption) ?_) | refine O_cons (W_gu rfl ?_)
      first | refine O_cons (W_it (W_pickE rfl (by first | rfl | assumption) rfl ?_)) | refine O_cons (W_it (W_pickF rfl (by first | rfl | assumption) rfl ?_))
      rcases Bool.eq_false_or_eq_true (decide (a.n = b.n)) with hf | hf
      · refine O_cons (W_it (W_mv rfl ?_))
        first | refine O_cons (W_gyE rfl (by first | rfl | assumption) (W_fad_p rfl ?_)) | refine O_cons (W_gyE rfl (by first | rfl | assumption) (W_fad_e rfl ?_)) | refine O_cons (W_gyE rfl (by first | rfl | assumption) (W_fad_r rfl ?_)) | refine O_cons (W_gnE rfl (by first | rfl | assumption) ?_) | refine O_cons (W_gu rfl ?_)
        first | refine O_cons (W_gyE rfl (by first | rfl | assumption) (W_load_p rfl rfl rfl rfl ?_)) | refine O_cons (W_gyE rfl (by first | rfl | assumption) (W_load_r rfl rfl rfl ?_)) | refine O_cons (W_gyE rfl (by first | rfl | assumption) (W_load_e rfl rfl rfl rfl rfl ?_)) | refine O_cons (W_gnE rfl (by first | rfl | assumption) ?_) | refine O_cons (W_gu rfl ?_)
        first | refine O_cons (W_gyE rfl (by first | rfl | assumption) (W_fad_p rfl ?_)) | refine O_cons (W_gyE rfl (by first | rfl | assumption) (W_fad_e rfl ?_)) | refine O_cons (W_gyE rfl (by first | rfl | assumption) (W_fad_r rfl ?_)) | refine O_cons (W_gnE rfl (by first | rfl | assumption) ?_) | refine O_cons (W_gu rfl ?_)
        first | refine O_cons (W_gyE rfl (by first | rfl | assumption) (W_load_p rfl rfl rfl rfl ?_)) | refine O_cons (W_gyE rfl (by first | rfl | assumption) (W_load_r rfl rfl rfl ?_)) | refine O_cons (W_gyE rfl (by first | rfl | assumption) (W_load_e rfl rfl rfl rfl rfl ?_)) | refine O_cons (W_gnE rfl (by first | rfl | assumption) ?_) | refine O_cons (W_gu rfl ?_)
        refine O_cons (W_gyE rfl (by first | rfl | assumption) (W_callF (nums_eq_FS _ _ ?_) [] rfl (by decide) trivial ?_))
        · omega
        rintro _ _ ⟨t27, rfl, rfl, ht27⟩
        simp only [St.put, renAV, renAC, renReg, renAVs, setAll, upF, List.map_cons, List.map_nil, List.cons_append, List.nil_append, List.append_nil, List.set_cons_zero, List.set_cons_succ, List.length_cons, List.length_nil, Nat.reduceAdd, Nat.reduceLT, Nat.reduceSub, Nat.not_lt_zero, if_false, if_true, Nat.sub_zero, Nat.add_zero, Nat.zero_add]
        first | refine O_cons (W_it (W_pickE rfl (by first | rfl | assumption) rfl ?_)) | refine O_cons (W_it (W_pickF rfl (by first | rfl | assumption) rfl ?_))
        refine O_cons (W_it (W_mv rfl ?_))
        refine O_nil (hK2 _ ?_)
        clear hK2 K2
        refine codeW_ret (Fin.here (.inr rfl) ⟨_, rfl, rfl, ?_⟩)
        simp_all
      · refine O_cons (W_it (W_mv rfl ?_))
        refine O_cons (W_gnE rfl (by first | rfl | assumption) ?_)
        refine O_cons (W_gnE rfl (by first | rfl | assumption) ?_)
        refine O_cons (W_gnE rfl (by first | rfl | assumption) ?_)
        refine O_cons (W_gnE rfl (by first | rfl | assumption) ?_)
        refine O_cons (W_gnE rfl (by first | rfl | assumption) ?_)
        first | refine O_cons (W_it (W_pickE rfl (by first | rfl | assumption) rfl ?_)) | refine O_cons (W_it (W_pickF rfl (by first | rfl | assumption) rfl ?_))
        refine O_cons (W_it (W_mv rfl ?_))
        refine O_nil (hK2 _ ?_)
        clear hK2 K2
        refine codeW_ret (Fin.here (.inr rfl) ⟨_, rfl, rfl, ?_⟩)
        simp_all
    · refine O_cons (W_it (W_mv rfl ?_))
      refine O_cons (W_gnE rfl (by first | rfl | assumption) ?_)
      refine O_cons (W_gnE rfl (by first | rfl | assumption) ?_)
      refine O_cons (W_gnE rfl (by first | rfl | assumption) ?_)
      refine O_cons (W_gnE rfl (by first | rfl | assumption) ?_)
      refine O_cons (W_gnE rfl (by first | rfl | assumption) ?_)
      first | refine O_cons (W_it (W_pickE rfl (by first | rfl | assumption) rfl ?_)) | refine O_cons (W_it (W_pickF rfl (by first | rfl | assumption) rfl ?_))
      refine O_cons (W_it (W_mv rfl ?_))
      refine O_cons (W_gnE rfl (by first | rfl | assumption) ?_)
      refine O_cons (W_gnE rfl (by first | rfl | assumption) ?_)
      refine O_cons (W_gnE rfl (by first | rfl | assumption) ?_)
      refine O_cons (W_gnE rfl (by first | rfl | assumption) ?_)
      refine O_cons (W_gnE rfl (by first | rfl | assumption) ?_)
      first | refine O_cons (W_it (W_pickE rfl (by first | rfl | assumption) rfl ?_)) | refine O_cons (W_it (W_pickF rfl (by first | rfl | assumption) rfl ?_))
      refine O_cons (W_it (W_mv rfl ?_))
      refine O_nil (hK2 _ ?_)
      clear hK2 K2
      refine codeW_ret (Fin.here (.inr rfl) ⟨_, rfl, rfl, ?_⟩)
      simp_all
  · refine O_cons (W_it (W_mv rfl ?_))
    refine O_cons (W_gnE rfl (by first | rfl | assumption) ?_)
    refine O_cons (W_gnE rfl (by first | rfl | assumption) ?_)
    refine O_cons (W_gnE rfl (by first | rfl | assumption) ?_)
    refine O_cons (W_gnE rfl (by first | rfl | assumption) ?_)
    refine O_cons (W_gnE rfl (by first | rfl | assumption) ?_)
    first | refine O_cons (W_it (W_pickE rfl (by first | rfl | assumption) rfl ?_)) | refine O_cons (W_it (W_pickF rfl (by first | rfl | assumption) rfl ?_))
    refine O_cons (W_it (W_mv rfl ?_))
    refine O_cons (W_gnE rfl (by first | rfl | assumption) ?_)
    refine O_cons (W_gnE rfl (by first | rfl | assumption) ?_)
    refine O_cons (W_gnE rfl (by first | rfl | assumption) ?_)
    refine O_cons (W_gnE rfl (by first | rfl | assumption) ?_)
    refine O_cons (W_gnE rfl (by first | rfl | assumption) ?_)
    first | refine O_cons (W_it (W_pickE rfl (by first | rfl | assumption) rfl ?_)) | refine O_cons (W_it (W_pickF rfl (by first | rfl | assumption) rfl ?_))
    refine O_cons (W_it (W_mv rfl ?_))
    refine O_cons (W_gnE rfl (by first | rfl | assumption) ?_)
    refine O_cons (W_gnE rfl (by first | rfl | assumption) ?_)
    refine O_cons (W_gnE rfl (by first | rfl | assumption) ?_)
    refine O_cons (W_gnE rfl (by first | rfl | assumption) ?_)
    refine O_cons (W_gnE rfl (by first | rfl | assumption) ?_)
    first | refine O_cons (W_it (W_pickE rfl (by first | rfl | assumption) rfl ?_)) | refine O_cons (W_it (W_pickF rfl (by first | rfl | assumption) rfl ?_))
    refine O_cons (W_it (W_mv rfl ?_))
    refine O_nil (hK2 _ ?_)
    clear hK2 K2
    refine codeW_ret (Fin.here (.inr rfl) ⟨_, rfl, rfl, ?_⟩)
    simp_all

def ac47 : ACode := (.seq (.reg [⟨none, (some 2), (.box (some 2) (.t 0))⟩, ⟨none, (some 3), (.box (some 3) (.t 1))⟩, ⟨none, (some 4), (.mv (some 4) (.k (.bool false)))⟩]) (.seq (.reg [⟨none, (some 5), (.fad (some 5) 0 (.t 2))⟩, ⟨none, (some 6), (.load (some 6) 1 false (.t 5))⟩, ⟨none, (some 7), (.fad (some 7) 0 (.t 3))⟩, ⟨none, (some 8), (.load (some 8) 1 false (.t 7))⟩, ⟨none, (some 9), (.bin (some 9) .eql (.t 6) (.t 8))⟩, ⟨none, (some 10), (.mv (some 10) (.t 9))⟩, ⟨(some (10, true)), (some 11), (.fad (some 11) 1 (.t 2))⟩, ⟨(some (10, true)), (some 12), (.load (some 12) 1 false (.t 11))⟩, ⟨(some (10, true)), (some 13), (.fad (some 13) 1 (.t 3))⟩, ⟨(some (10, true)), (some 14), (.load (some 14) 1 false (.t 13))⟩, ⟨(some (10, true)), (some 15), (.bin (some 15) .eql (.t 12) (.t 14))⟩, ⟨none, (some 16), (.pick (some 16) (.t 10) (.t 15) (.k (.bool false)))⟩, ⟨none, (some 17), (.mv (some 17) (.t 16))⟩, ⟨(some (17, true)), (some 18), (.fad (some 18) 2 (.t 2))⟩, ⟨(some (17, true)), (some 19), (.load (some 19) 1 false (.t 18))⟩, ⟨(some (17, true)), (some 20), (.fad (some 20) 2 (.t 3))⟩, ⟨(some (17, true)), (some 21), (.load (some 21) 1 false (.t 20))⟩, ⟨(some (17, true)), (some 22), (.bin (some 22) .eql (.t 19) (.t 21))⟩, ⟨none, (some 23), (.pick (some 23) (.t 17) (.t 22) (.k (.bool false)))⟩, ⟨none, (some 24), (.mv (some 24) (.t 23))⟩, ⟨(some (24, true)), (some 25), (.fad (some 25) 3 (.t 2))⟩, ⟨(some (24, true)), (some 26), (.load (some 26) 12 true (.t 25))⟩, ⟨(some (24, true)), (some 27), (.fad (some 27) 3 (.t 3))⟩, ⟨(some (24, true)), (some 28), (.load (some 28) 12 true (.t 27))⟩, ⟨(some (24, true)), (some 29), (.eqs (some 29) false 42 [.i64, .i64, .i64, .i64, .i64, .i64, .i64, .i64, .i64, .i64, .i64, .i64] (.t 26) (.t 28))⟩, ⟨none, (some 30), (.pick (some 30) (.t 24) (.t 29) (.k (.bool false)))⟩, ⟨none, (some 31), (.mv (some 31) (.t 30))⟩, ⟨(some (31, true)), (some 32), (.fad (some 32) 15 (.t 2))⟩, ⟨(some (31, true)), (some 33), (.load (some 33) 4 true (.t 32))⟩, ⟨(some (31, true)), (some 34), (.fad (some 34) 15 (.t 3))⟩, ⟨(some (31, true)), (some 35), (.load (some 35) 4 true (.t 34))⟩, ⟨(some (31, true)), (some 36), (.call (some 36) 55 [(.t 33), (.t 35)])⟩, ⟨none, (some 37), (.pick (some 37) (.t 31) (.t 36) (.k (.bool false)))⟩, ⟨none, (some 38), (.mv (some 38) (.t 37))⟩, ⟨(some (38, true)), (some 39), (.fad (some 39) 19 (.t 2))⟩, ⟨(some (38, true)), (some 40), (.load (some 40) 1 false (.t 39))⟩, ⟨(some (38, true)), (some 41), (.fad (some 41) 19 (.t 3))⟩, ⟨(some (38, true)), (some 42), (.load (some 42) 1 false (.t 41))⟩, ⟨(some (38, true)), (some 43), (.call (some 43) 56 [(.t 40), (.t 42)])⟩, ⟨none, (some 44), (.pick (some 44) (.t 38) (.t 43) (.k (.bool false)))⟩, ⟨none, (some 45), (.mv (some 45) (.t 44))⟩, ⟨(some (45, true)), (some 46), (.fad (some 46) 20 (.t 2))⟩, ⟨(some (45, true)), (some 47), (.load (some 47) 1 false (.t 46))⟩, ⟨(some (45, true)), (some 48), (.fad (some 48) 20 (.t 3))⟩, ⟨(some (45, true)), (some 49), (.load (some 49) 1 false (.t 48))⟩, ⟨(some (45, true)), (some 50), (.call (some 50) 52 [(.t 47), (.t 49)])⟩, ⟨none, (some 51), (.pick (some 51) (.t 45) (.t 50) (.k (.bool false)))⟩, ⟨none, (some 52), (.mv (some 52) (.t 51))⟩, ⟨(some (52, true)), (some 53), (.fad (some 53) 21 (.t 2))⟩, ⟨(some (52, true)), (some 54), (.load (some 54) 1 false (.t 53))⟩, ⟨(some (52, true)), (some 55), (.fad (some 55) 21 (.t 3))⟩, ⟨(some (52, true)), (some 56), (.load (some 56) 1 false (.t 55))⟩, ⟨(some (52, true)), (some 57), (.bin (some 57) .eql (.t 54) (.t 56))⟩, ⟨none, (some 58), (.pick (some 58) (.t 52) (.t 57) (.k (.bool false)))⟩, ⟨none, (some 4), (.mv (some 4) (.t 58))⟩]) .ret))
theorem tr47 : ((Try.f47.name == "runtime.NumGoroutine") = false ∧ Try.f47.results = ([4].map ResultVar.tmp).toArray) ∧ Try.f47.ntmps = 59 ∧ (Try.f47.body.bind (trCode Try.prog Try.f47.ntmps)) = some ac47 := ⟨⟨by kernel_rfl, by kernel_rfl⟩, by kernel_rfl, by kernel_rfl⟩


theorem Thr.eq_iff (a b : Thr) : a = b ↔ a.pc = b.pc ∧ a.fuel = b.fuel ∧ a.status = b.status ∧ [a.r0.1, a.r0.2.1, a.r0.2.2, a.r1.1, a.r1.2.1, a.r1.2.2, a.r2.1, a.r2.2.1, a.r2.2.2, a.r3.1, a.r3.2.1, a.r3.2.2] = [b.r0.1, b.r0.2.1, b.r0.2.2, b.r1.1, b.r1.2.1, b.r1.2.2, b.r2.1, b.r2.2.1, b.r2.2.2, b.r3.1, b.r3.2.1, b.r3.2.2] ∧ (a.kind = b.kind ∧ a.i = b.i ∧ a.n = b.n ∧ a.seen = b.seen) ∧ a.bag = b.bag ∧ a.snap = b.snap ∧ a.old = b.old := by
  refine ⟨fun h => by subst h; simp, fun h => ?_⟩
  obtain ⟨a0, a1, a2, ⟨b0, b1, b2⟩, ⟨b3, b4, b5⟩, ⟨b6, b7, b8⟩, ⟨b9, b10, b11⟩, a3, a4, a5, a6, a7, a8, a9⟩ := a
  obtain ⟨c0, c1, c2, ⟨d0, d1, d2⟩, ⟨d3, d4, d5⟩, ⟨d6, d7, d8⟩, ⟨d9, d10, d11⟩, c3, c4, c5, c6, c7, c8, c9⟩ := b
  simp only [List.cons.injEq, and_true] at h
  obtain ⟨rfl, rfl, rfl, ⟨rfl, rfl, rfl, rfl, rfl, rfl, rfl, rfl, rfl, rfl, rfl, rfl⟩, ⟨rfl, rfl, rfl, rfl⟩, rfl, rfl, rfl⟩ := h
  rfl
theorem thread_eq_FS (a b : Thr) (hb : a.bulk ≤ 900000000) :
    FS Try.prog 47 [.agg (a.cells.map .p), .agg (b.cells.map .p)] [] fun res rg => ∃ t : Bool, res = .c (.p (.v (.bool t))) ∧ rg = [] ∧ (t = true ↔ a = b) := by
  refine FS_def [4] 59 Try.func47 tr47 rfl ?_
  unfold ac47
  have hb2 : 24 * (a.seen.length + a.bag.length + a.snap.length) ≤ 900000000 := hb
  refine codeW_seq fun K1 hK1 => codeW_reg ?_
  refine O_cons (W_it (W_box rfl ?_))
  refine O_cons (W_it (W_box rfl ?_))
  refine O_cons (W_it (W_mv rfl ?_))
  refine O_nil (hK1 _ ?_)
  clear hK1 K1
  refine codeW_weak (s' := ⟨[(3, .c (.ptr 1 0)), (2, .c (.rp a.cells))], [.dead, .ac (b.cells.map .p)]⟩) (Weak.box 0 a.cells rfl ⟨.inl rfl, .inr ⟨0, rfl, Nat.zero_le _, rfl⟩, trivial⟩ ⟨t_dead (by decide), t_keep (fun _ => .inl rfl) (by decide), trivial⟩) ?_
  refine codeW_weak (s' := ⟨[(3, .c (.rp b.cells)), (2, .c (.rp a.cells))], [.dead, .dead]⟩) (Weak.box 1 b.cells rfl ⟨.inr ⟨0, rfl, Nat.zero_le _, rfl⟩, .inl rfl, trivial⟩ ⟨t_keep (fun _ => .inl rfl) (by decide), t_dead (by decide), trivial⟩) ?_
  refine codeW_weak (s' := ⟨[(3, .c (.rp b.cells)), (2, .c (.rp a.cells))], []⟩) (Weak.ren [] rfl (by decide) trivial ⟨rfl, rfl, trivial⟩) ?_
  refine codeW_seq fun K2 hK2 => codeW_reg ?_
  first | refine O_cons (W_it (W_fad_p rfl ?_)) | refine O_cons (W_it (W_fad_e rfl ?_)) | refine O_cons (W_it (W_fad_r rfl ?_))
  first | refine O_cons (W_it (W_load_p rfl rfl rfl rfl ?_)) | refine O_cons (W_it (W_load_r rfl rfl rfl ?_)) | refine O_cons (W_it (W_load_e rfl rfl rfl rfl rfl ?_))
  first | refine O_cons (W_it (W_fad_p rfl ?_)) | refine O_cons (W_it (W_fad_e rfl ?_)) | refine O_cons (W_it (W_fad_r rfl ?_))
  first | refine O_cons (W_it (W_load_p rfl rfl rfl rfl ?_)) | refine O_cons (W_it (W_load_r rfl rfl rfl ?_)) | refine O_cons (W_it (W_load_e rfl rfl rfl rfl rfl ?_))
  refine O_cons (W_it (W_eql rfl rfl ?_))
  rcases Bool.eq_false_or_eq_true (decide (a.pc = b.pc)) with hf | hf
  · refine O_cons (W_it (W_mv rfl ?_))
    first | refine O_cons (W_gyE rfl (by first | rfl | assumption) (W_fad_p rfl ?_)) | refine O_cons (W_gyE rfl (by first | rfl | assumption) (W_fad_e rfl ?_)) | refine O_cons (W_gyE rfl (by first | rfl | assumption) (W_fad_r rfl ?_)) | refine O_cons (W_gnE rfl (by first | rfl | assumption) ?_) | refine O_cons (W_gu rfl ?_)
    first | refine O_cons (W_gyE rfl (by first | rfl | assumption) (W_load_p rfl rfl rfl rfl ?_)) | refine O_cons (W_gyE rfl (by first | rfl | assumption) (W_load_r rfl rfl rfl ?_)) | refine O_cons (W_gyE rfl (by first | rfl | assumption) (W_load_e rfl rfl rfl rfl rfl ?_)) | refine O_cons (W_gnE rfl (by first | rfl | assumption) ?_) | refine O_cons (W_gu rfl ?_)
    first | refine O_cons (W_gyE rfl (by first | rfl | assumption) (W_fad_p rfl ?_)) | refine O_cons (W_gyE rfl (by first | rfl | assumption) (W_fad_e rfl ?_)) | refine O_cons (W_gyE rfl (by first | rfl | assumption) (W_fad_r rfl ?_)) | refine O_cons (W_gnE rfl (by first | rfl | assumption) ?_) | refine O_cons (W_gu rfl ?_)
    first | refine O_cons (W_gyE rfl (by first | rfl | assumption) (W_load_p rfl rfl rfl rfl ?_)) | refine O_cons (W_gyE rfl (by first | rfl | assumption) (W_load_r rfl rfl rfl ?_)) | refine O_cons (W_gyE rfl (by first | rfl | assumption) (W_load_e rfl rfl rfl rfl rfl ?_)) | refine O_cons (W_gnE rfl (by first | rfl | assumption) ?_) | refine O_cons (W_gu rfl ?_)
    first | refine O_cons (W_gyE rfl (by first | rfl | assumption) (W_eql rfl rfl ?_)) | refine O_cons (W_gnE rfl (by first | rfl | assumption) ?_) | refine O_cons (W_gu rfl ?_)
    first | refine O_cons (W_it (W_pickE rfl (by first | rfl | assumption) rfl ?_)) | refine O_cons (W_it (W_pickF rfl (by first | rfl | assumption) rfl ?_))
    rcases Bool.eq_false_or_eq_true (decide (a.fuel = b.fuel)) with hf | hf
    · refine O_cons (W_it (W_mv rfl ?_))
      first | refine O_cons (W_gyE rfl (by first | rfl | assumption) (W_fad_p rfl ?_)) | refine O_cons (W_gyE rfl (by first | rfl | assumption) (W_fad_e rfl ?_)) | refine O_cons (W_gyE rfl (by first | rfl | assumption) (W_fad_r rfl ?_)) | refine O_cons (W_gnE rfl (by first | rfl | assumption) ?_) | refine O_cons (W_gu rfl ?_)
      first | refine O_cons (W_gyE rfl (by first | rfl | assumption) (W_load_p rfl rfl rfl rfl ?_)) | refine O_cons (W_gyE rfl (by first | rfl | assumption) (W_load_r rfl rfl rfl ?_)) | refine O_cons (W_gyE rfl (by first | rfl | assumption) (W_load_e rfl rfl rfl rfl rfl ?_)) | refine O_cons (W_gnE rfl (by first | rfl | assumption) ?_) | refine O_cons (W_gu rfl ?_)
      first | refine O_cons (W_gyE rfl (by first | rfl | assumption) (W_fad_p rfl ?_)) | refine O_cons (W_gyE rfl (by first | rfl | assumption) (W_fad_e rfl ?_)) | refine O_cons (W_gyE rfl (by first | rfl | assumption) (W_fad_r rfl ?_)) | refine O_cons (W_gnE rfl (by first | rfl | assumption) ?_) | refine O_cons (W_gu rfl ?_)
      first | refine O_cons (W_gyE rfl (by first | rfl | assumption) (W_load_p rfl rfl rfl rfl ?_)) | refine O_cons (W_gyE rfl (by first | rfl | assumption) (W_load_r rfl rfl rfl ?_)) | refine O_cons (W_gyE rfl (by first | rfl | assumption) (W_load_e rfl rfl rfl rfl rfl ?_)) | refine O_cons (W_gnE rfl (by first | rfl | assumption) ?_) | refine O_cons (W_gu rfl ?_)
      first | refine O_cons (W_gyE rfl (by first | rfl | assumption) (W_eql rfl rfl ?_)) | refine O_cons (W_gnE rfl (by first | rfl | assumption) ?_) | refine O_cons (W_gu rfl ?_)
      first | refine O_cons (W_it (W_pickE rfl (by first | rfl | assumption) rfl ?_)) | refine O_cons (W_it (W_pickF rfl (by first | rfl | assumption) rfl ?_))
      rcases Bool.eq_false_or_eq_true (decide (a.status = b.status)) with hf | hf
      · refine O_cons (W_it (W_mv rfl ?_))
        first | refine O_cons (W_gyE rfl (by first | rfl | assumption) (W_fad_p rfl ?_)) | refine O_cons (W_gyE rfl (by first | rfl | assumption) (W_fad_e rfl ?_)) | refine O_cons (W_gyE rfl (by first | rfl | assumption) (W_fad_r rfl ?_)) | refine O_cons (W_gnE rfl (by first | rfl | assumption) ?_) | refine O_cons (W_gu rfl ?_)
        first | refine O_cons (W_gyE rfl (by first | rfl | assumption) (W_load_p rfl rfl rfl rfl ?_)) | refine O_cons (W_gyE rfl (by first | rfl | assumption) (W_load_r rfl rfl rfl ?_)) | refine O_cons (W_gyE rfl (by first | rfl | assumption) (W_load_e rfl rfl rfl rfl rfl ?_)) | refine O_cons (W_gnE rfl (by first | rfl | assumption) ?_) | refine O_cons (W_gu rfl ?_)
        first | refine O_cons (W_gyE rfl (by first | rfl | assumption) (W_fad_p rfl ?_)) | refine O_cons (W_gyE rfl (by first | rfl | assumption) (W_fad_e rfl ?_)) | refine O_cons (W_gyE rfl (by first | rfl | assumption) (W_fad_r rfl ?_)) | refine O_cons (W_gnE rfl (by first | rfl | assumption) ?_) | refine O_cons (W_gu rfl ?_)
        first | refine O_cons (W_gyE rfl (by first | rfl | assumption) (W_load_p rfl rfl rfl rfl ?_)) | refine O_cons (W_gyE rfl (by first | rfl | assumption) (W_load_r rfl rfl rfl ?_)) | refine O_cons (W_gyE rfl (by first | rfl | assumption) (W_load_e rfl rfl rfl rfl rfl ?_)) | refine O_cons (W_gnE rfl (by first | rfl | assumption) ?_) | refine O_cons (W_gu rfl ?_)
        first | refine O_cons (W_gyE rfl (by first | rfl | assumption) (W_eqs rfl rfl rfl rfl eq42 ?_)) | refine O_cons (W_gnE rfl (by first | rfl | assumption) ?_) | refine O_cons (W_gu rfl ?_)
        first | refine O_cons (W_it (W_pickE rfl (by first | rfl | assumption) rfl ?_)) | refine O_cons (W_it (W_pickF rfl (by first | rfl | assumption) rfl ?_))
        rcases Bool.eq_false_or_eq_true (decide ([a.r0.1, a.r0.2.1, a.r0.2.2, a.r1.1, a.r1.2.1, a.r1.2.2, a.r2.1, a.r2.2.1, a.r2.2.2, a.r3.1, a.r3.2.1, a.r3.2.2] = [b.r0.1, b.r0.2.1, b.r0.2.2, b.r1.1, b.r1.2.1, b.r1.2.2, b.r2.1, b.r2.2.1, b.r2.2.2, b.r3.1, b.r3.2.1, b.r3.2.2])) with hf | hf
        · refine O_cons (W_it (W_mv rfl ?_))
          first | refine O_cons (W_gyE rfl (by first | rfl | assumption) (W_fad_p rfl ?_)) | refine O_cons (W_gyE rfl (by first | rfl | assumption) (W_fad_e rfl ?_)) | refine O_cons (W_gyE rfl (by first | rfl | assumption) (W_fad_r rfl ?_)) | refine O_cons (W_gnE rfl (by first | rfl | assumption) ?_) | refine O_cons (W_gu rfl ?_)
          first | refine O_cons (W_gyE rfl (by first | rfl | assumption) (W_load_p rfl rfl rfl rfl ?_)) | refine O_cons (W_gyE rfl (by first | rfl | assumption) (W_load_r rfl rfl rfl ?_)) | refine O_cons (W_gyE rfl (by first | rfl | assumption) (W_load_e rfl rfl rfl rfl rfl ?_)) | refine O_cons (W_gnE rfl (by first | rfl | assumption) ?_) | refine O_cons (W_gu rfl ?_)
          first | refine O_cons (W_gyE rfl (by first | rfl | assumption) (W_fad_p rfl ?_)) | refine O_cons (W_gyE rfl (by first | rfl | assumption) (W_fad_e rfl ?_)) | refine O_cons (W_gyE rfl (by first | rfl | assumption) (W_fad_r rfl ?_)) | refine O_cons (W_gnE rfl (by first | rfl | assumption) ?_) | refine O_cons (W_gu rfl ?_)
          first | refine O_cons (W_gyE rfl (by first | rfl | assumption) (W_load_p rfl rfl rfl rfl ?_)) | refine O_cons (W_gyE rfl (by first | rfl | assumption) (W_load_r rfl rfl rfl ?_)) | refine O_cons (W_gyE rfl (by first | rfl | assumption) (W_load_e rfl rfl rfl rfl rfl ?_)) | refine O_cons (W_gnE rfl (by first | rfl | assumption) ?_) | refine O_cons (W_gu rfl ?_)
          refine O_cons (W_gyE rfl (by first | rfl | assumption) (W_callF (micro_eq_FS a b ?_) [] rfl (by decide) trivial ?_))
          · omega
          rintro _ _ ⟨t34, rfl, rfl, ht34⟩
          simp only [St.put, renAV, renAC, renReg, renAVs, setAll, upF, List.map_cons, List.map_nil, List.cons_append, List.nil_append, List.append_nil, List.set_cons_zero, List.set_cons_succ, List.length_cons, List.length_nil, Nat.reduceAdd, Nat.reduceLT, Nat.reduceSub, Nat.not_lt_zero, if_false, if_true, Nat.sub_zero, Nat.add_zero, Nat.zero_add]
          first | refine O_cons (W_it (W_pickE rfl (by first | rfl | assumption) rfl ?_)) | refine O_cons (W_it (W_pickF rfl (by first | rfl | assumption) rfl ?_))
          cases t34
          · refine O_cons (W_it (W_mv rfl ?_))
            refine O_cons (W_gnE rfl (by first | rfl | assumption) ?_)
            refine O_cons (W_gnE rfl (by first | rfl | assumption) ?_)
            refine O_cons (W_gnE rfl (by first | rfl | assumption) ?_)
            refine O_cons (W_gnE rfl (by first | rfl | assumption) ?_)
            refine O_cons (W_gnE rfl (by first | rfl | assumption) ?_)
            first | refine O_cons (W_it (W_pickE rfl (by first | rfl | assumption) rfl ?_)) | refine O_cons (W_it (W_pickF rfl (by first | rfl | assumption) rfl ?_))
            refine O_cons (W_it (W_mv rfl ?_))
            refine O_cons (W_gnE rfl (by first | rfl | assumption) ?_)
            refine O_cons (W_gnE rfl (by first | rfl | assumption) ?_)
            refine O_cons (W_gnE rfl (by first | rfl | assumption) ?_)
            refine O_cons (W_gnE rfl (by first | rfl | assumption) ?_)
            refine O_cons (W_gnE rfl (by first | rfl | assumption) ?_)
            first | refine O_cons (W_it (W_pickE rfl (by first | rfl | assumption) rfl ?_)) | refine O_cons (W_it (W_pickF rfl (by first | rfl | assumption) rfl ?_))
            refine O_cons (W_it (W_mv rfl ?_))
            refine O_cons (W_gnE rfl (by first | rfl | assumption) ?_)
            refine O_cons (W_gnE rfl (by first | rfl | assumption) ?_)
            refine O_cons (W_gnE rfl (by first | rfl | assumption) ?_)
            refine O_cons (W_gnE rfl (by first | rfl | assumption) ?_)
            refine O_cons (W_gnE rfl (by first | rfl | assumption) ?_)
            first | refine O_cons (W_it (W_pickE rfl (by first | rfl | assumption) rfl ?_)) | refine O_cons (W_it (W_pickF rfl (by first | rfl | assumption) rfl ?_))
            refine O_cons (W_it (W_mv rfl ?_))
            refine O_nil (hK2 _ ?_)
            clear hK2 K2
            refine codeW_ret (Fin.here (.inr rfl) ⟨_, rfl, rfl, ?_⟩)
            rw [Thr.eq_iff]
            simp_all
          · refine O_cons (W_it (W_mv rfl ?_))
            first | refine O_cons (W_gyE rfl (by first | rfl | assumption) (W_fad_p rfl ?_)) | refine O_cons (W_gyE rfl (by first | rfl | assumption) (W_fad_e rfl ?_)) | refine O_cons (W_gyE rfl (by first | rfl | assumption) (W_fad_r rfl ?_)) | refine O_cons (W_gnE rfl (by first | rfl | assumption) ?_) | refine O_cons (W_gu rfl ?_)
            first | refine O_cons (W_gyE rfl (by first | rfl | assumption) (W_load_p rfl rfl rfl rfl ?_)) | refine O_cons (W_gyE rfl (by first | rfl | assumption) (W_load_r rfl rfl rfl ?_)) | refine O_cons (W_gyE rfl (by first | rfl | assumption) (W_load_e rfl rfl rfl rfl rfl ?_)) | refine O_cons (W_gnE rfl (by first | rfl | assumption) ?_) | refine O_cons (W_gu rfl ?_)
            first | refine O_cons (W_gyE rfl (by first | rfl | assumption) (W_fad_p rfl ?_)) | refine O_cons (W_gyE rfl (by first | rfl | assumption) (W_fad_e rfl ?_)) | refine O_cons (W_gyE rfl (by first | rfl | assumption) (W_fad_r rfl ?_)) | refine O_cons (W_gnE rfl (by first | rfl | assumption) ?_) | refine O_cons (W_gu rfl ?_)
            first | refine O_cons (W_gyE rfl (by first | rfl | assumption) (W_load_p rfl rfl rfl rfl ?_)) | refine O_cons (W_gyE rfl (by first | rfl | assumption) (W_load_r rfl rfl rfl ?_)) | refine O_cons (W_gyE rfl (by first | rfl | assumption) (W_load_e rfl rfl rfl rfl rfl ?_)) | refine O_cons (W_gnE rfl (by first | rfl | assumption) ?_) | refine O_cons (W_gu rfl ?_)
            refine O_cons (W_gyE rfl (by first | rfl | assumption) (W_callF (bags_eq_FS _ _ ?_) [] rfl (by decide) trivial ?_))
            · omega
            rintro _ _ ⟨t41, rfl, rfl, ht41⟩
            simp only [St.put, renAV, renAC, renReg, renAVs, setAll, upF, List.map_cons, List.map_nil, List.cons_append, List.nil_append, List.append_nil, List.set_cons_zero, List.set_cons_succ, List.length_cons, List.length_nil, Nat.reduceAdd, Nat.reduceLT, Nat.reduceSub, Nat.not_lt_zero, if_false, if_true, Nat.sub_zero, Nat.add_zero, Nat.zero_add]
            first | refine O_cons (W_it (W_pickE rfl (by first | rfl | assumption) rfl ?_)) | refine O_cons (W_it (W_pickF rfl (by first | rfl | assumption) rfl ?_))
            cases t41
            · refine O_cons (W_it (W_mv rfl ?_))
              refine O_cons (W_gnE rfl (by first | rfl | assumption) ?_)
              refine O_cons (W_gnE rfl (by first | rfl | assumption) ?_)
              refine O_cons (W_gnE rfl (by first | rfl | assumption) ?_)
              refine O_cons (W_gnE rfl (by first | rfl | assumption) ?_)
              refine O_cons (W_gnE rfl (by first | rfl | assumption) ?_)
              first | refine O_cons (W_it (W_pickE rfl (by first | rfl | assumption) rfl ?_)) | refine O_cons (W_it (W_pickF rfl (by first | rfl | assumption) rfl ?_))
              refine O_cons (W_it (W_mv rfl ?_))
              refine O_cons (W_gnE rfl (by first | rfl | assumption) ?_)
              refine O_cons (W_gnE rfl (by first | rfl | assumption) ?_)
              refine O_cons (W_gnE rfl (by first | rfl | assumption) ?_)
              refine O_cons (W_gnE rfl (by first | rfl | assumption) ?_)
              refine O_cons (W_gnE rfl (by first | rfl | assumption) ?_)
              first | refine O_cons (W_it (W_pickE rfl (by first | rfl | assumption) rfl ?_)) | refine O_cons (W_it (W_pickF rfl (by first | rfl | assumption) rfl ?_))
              refine O_cons (W_it (W_mv rfl ?_))
              refine O_nil (hK2 _ ?_)
              clear hK2 K2
              refine codeW_ret (Fin.here (.inr rfl) ⟨_, rfl, rfl, ?_⟩)
              rw [Thr.eq_iff]
              simp_all
            · refine O_cons (W_it (W_mv rfl ?_))
              first | refine O_cons (W_gyE rfl (by first | rfl | assumption) (W_fad_p rfl ?_)) | refine O_cons (W_gyE rfl (by first | rfl | assumption) (W_fad_e rfl ?_)) | refine O_cons (W_gyE rfl (by first | rfl | assumption) (W_fad_r rfl ?_)) | refine O_cons (W_gnE rfl (by first | rfl | assumption) ?_) | refine O_cons (W_gu rfl ?_)
              first | refine O_cons (W_gyE rfl (by first | rfl | assumption) (W_load_p rfl rfl rfl rfl ?_)) | refine O_cons (W_gyE rfl (by first | rfl | assumption) (W_load_r rfl rfl rfl ?_)) | refine O_cons (W_gyE rfl (by first | rfl | assumption) (W_load_e rfl rfl rfl rfl rfl ?_)) | refine O_cons (W_gnE rfl (by first | rfl | assumption) ?_) | refine O_cons (W_gu rfl ?_)
              first | refine O_cons (W_gyE rfl (by first | rfl | assumption) (W_fad_p rfl ?_)) | refine O_cons (W_gyE rfl (by first | rfl | assumption) (W_fad_e rfl ?_)) | refine O_cons (W_gyE rfl (by first | rfl | assumption) (W_fad_r rfl ?_)) | refine O_cons (W_gnE rfl (by first | rfl | assumption) ?_) | refine O_cons (W_gu rfl ?_)
              first | refine O_cons (W_gyE rfl (by first | rfl | assumption) (W_load_p rfl rfl rfl rfl ?_)) | refine O_cons (W_gyE rfl (by first | rfl | assumption) (W_load_r rfl rfl rfl ?_)) | refine O_cons (W_gyE rfl (by first | rfl | assumption) (W_load_e rfl rfl rfl rfl rfl ?_)) | refine O_cons (W_gnE rfl (by first | rfl | assumption) ?_) | refine O_cons (W_gu rfl ?_)
              refine O_cons (W_gyE rfl (by first | rfl | assumption) (W_callF (nums_eq_FS _ _ ?_) [] rfl (by decide) trivial ?_))
              · omega
              rintro _ _ ⟨t48, rfl, rfl, ht48⟩
              simp only [St.put, renAV, renAC, renReg, renAVs, setAll, upF, List.map_cons, List.map_nil, List.cons_append, List.nil_append, List.append_nil, List.set_cons_zero, List.set_cons_succ, List.length_cons, List.length_nil, Nat.reduceAdd, Nat.reduceLT, Nat.reduceSub, Nat.not_lt_zero, if_false, if_true, Nat.sub_zero, Nat.add_zero, Nat.zero_add]
              first | refine O_cons (W_it (W_pickE rfl (by first | rfl | assumption) rfl ?_)) | refine O_cons (W_it (W_pickF rfl (by first | rfl | assumption) rfl ?_))
              cases t48
              · refine O_cons (W_it (W_mv rfl ?_))
                refine O_cons (W_gnE rfl (by first | rfl | assumption) ?_)
                refine O_cons (W_gnE rfl (by first | rfl | assumption) ?_)
                refine O_cons (W_gnE rfl (by first | rfl | assumption) ?_)
                refine O_cons (W_gnE rfl (by first | rfl | assumption) ?_)
                refine O_cons (W_gnE rfl (by first | rfl | assumption) ?_)
                first | refine O_cons (W_it (W_pickE rfl (by first | rfl | assumption) rfl ?_)) | refine O_cons (W_it (W_pickF rfl (by first | rfl | assumption) rfl ?_))
                refine O_cons (W_it (W_mv rfl ?_))
                refine O_nil (hK2 _ ?_)
                clear hK2 K2
                refine codeW_ret (Fin.here (.inr rfl) ⟨_, rfl, rfl, ?_⟩)
                rw [Thr.eq_iff]
                simp_all
              · refine O_cons (W_it (W_mv rfl ?_))
                first | refine O_cons (W_gyE rfl (by first | rfl | assumption) (W_fad_p rfl ?_)) | refine O_cons (W_gyE rfl (by first | rfl | assumption) (W_fad_e rfl ?_)) | refine O_cons (W_gyE rfl (by first | rfl | assumption) (W_fad_r rfl ?_)) | refine O_cons (W_gnE rfl (by first | rfl | assumption) ?_) | refine O_cons (W_gu rfl ?_)
                first | refine O_cons (W_gyE rfl (by first | rfl | assumption) (W_load_p rfl rfl rfl rfl ?_)) | refine O_cons (W_gyE rfl (by first | rfl | assumption) (W_load_r rfl rfl rfl ?_)) | refine O_cons (W_gyE rfl (by first | rfl | assumption) (W_load_e rfl rfl rfl rfl rfl ?_)) | refine O_cons (W_gnE rfl (by first | rfl | assumption) ?_) | refine O_cons (W_gu rfl ?_)
                first | refine O_cons (W_gyE rfl (by first | rfl | assumption) (W_fad_p rfl ?_)) | refine O_cons (W_gyE rfl (by first | rfl | assumption) (W_fad_e rfl ?_)) | refine O_cons (W_gyE rfl (by first | rfl | assumption) (W_fad_r rfl ?_)) | refine O_cons (W_gnE rfl (by first | rfl | assumption) ?_) | refine O_cons (W_gu rfl ?_)
                first | refine O_cons (W_gyE rfl (by first | rfl | assumption) (W_load_p rfl rfl rfl rfl ?_)) | refine O_cons (W_gyE rfl (by first | rfl | assumption) (W_load_r rfl rfl rfl ?_)) | refine O_cons (W_gyE rfl (by first | rfl | assumption) (W_load_e rfl rfl rfl rfl rfl ?_)) | refine O_cons (W_gnE rfl (by first | rfl | assumption) ?_) | refine O_cons (W_gu rfl ?_)
                first | refine O_cons (W_gyE rfl (by first | rfl | assumption) (W_eql rfl rfl ?_)) | refine O_cons (W_gnE rfl (by first | rfl | assumption) ?_) | refine O_cons (W_gu rfl ?_)
                first | refine O_cons (W_it (W_pickE rfl (by first | rfl | assumption) rfl ?_)) | refine O_cons (W_it (W_pickF rfl (by first | rfl | assumption) rfl ?_))
                refine O_cons (W_it (W_mv rfl ?_))
                refine O_nil (hK2 _ ?_)
                clear hK2 K2
                refine codeW_ret (Fin.here (.inr rfl) ⟨_, rfl, rfl, ?_⟩)
                rw [Thr.eq_iff]
                simp_all
        · refine O_cons (W_it (W_mv rfl ?_))
          refine O_cons (W_gnE rfl (by first | rfl | assumption) ?_)
          refine O_cons (W_gnE rfl (by first | rfl | assumption) ?_)
          refine O_cons (W_gnE rfl (by first | rfl | assumption) ?_)
          refine O_cons (W_gnE rfl (by first | rfl | assumption) ?_)
          refine O_cons (W_gnE rfl (by first | rfl | assumption) ?_)
          first | refine O_cons (W_it (W_pickE rfl (by first | rfl | assumption) rfl ?_)) | refine O_cons (W_it (W_pickF rfl (by first | rfl | assumption) rfl ?_))
          refine O_cons (W_it (W_mv rfl ?_))
          refine O_cons (W_gnE rfl (by first | rfl | assumption) ?_)
          refine O_cons (W_gnE rfl (by first | rfl | assumption) ?_)
          refine O_cons (W_gnE rfl (by first | rfl | assumption) ?_)
          refine O_cons (W_gnE rfl (by first | rfl | assumption) ?_)
          refine O_cons (W_gnE rfl (by first | rfl | assumption) ?_)
          first | refine O_cons (W_it (W_pickE rfl (by first | rfl | assumption) rfl ?_)) | refine O_cons (W_it (W_pickF rfl (by first | rfl | assumption) rfl ?_))
          refine O_cons (W_it (W_mv rfl ?_))
          refine O_cons (W_gnE rfl (by first | rfl | assumption) ?_)
          refine O_cons (W_gnE rfl (by first | rfl | assumption) ?_)
          refine O_cons (W_gnE rfl (by first | rfl | assumption) ?_)
          refine O_cons (W_gnE rfl (by first | rfl | assumption) ?_)
          refine O_cons (W_gnE rfl (by first | rfl | assumption) ?_)
          first | refine O_cons (W_it (W_pickE rfl (by first | rfl | assumption) rfl ?_)) | refine O_cons (W_it (W_pickF rfl (by first | rfl | assumption) rfl ?_))
          refine O_cons (W_it (W_mv rfl ?_))
          refine O_cons (W_gnE rfl (by first | rfl | assumption) ?_)
          refine O_cons (W_gnE rfl (by first | rfl | assumption) ?_)
          refine O_cons (W_gnE rfl (by first | rfl | assumption) ?_)
          refine O_cons (W_gnE rfl (by first | rfl | assumption) ?_)
          refine O_cons (W_gnE rfl (by first | rfl | assumption) ?_)
          first | refine O_cons (W_it (W_pickE rfl (by first | rfl | assumption) rfl ?_)) | refine O_cons (W_it (W_pickF rfl (by first | rfl | assumption) rfl ?_))
          refine O_cons (W_it (W_mv rfl ?_))
          refine O_nil (hK2 _ ?_)
          clear hK2 K2
          refine codeW_ret (Fin.here (.inr rfl) ⟨_, rfl, rfl, ?_⟩)
          rw [Thr.eq_iff]
          simp_all
      · refine O_cons (W_it (W_mv rfl ?_))
        refine O_cons (W_gnE rfl (by first | rfl | assumption) ?_)
        refine O_cons (W_gnE rfl (by first | rfl | assumption) ?_)
        refine O_cons (W_gnE rfl (by first | rfl | assumption) ?_)
        refine O_cons (W_gnE rfl (by first | rfl | assumption) ?_)
        refine O_cons (W_gnE rfl (by first | rfl | assumption) ?_)
        first | refine O_cons (W_it (W_pickE rfl (by first | rfl | assumption) rfl ?_)) | refine O_cons (W_it (W_pickF rfl (by first | rfl | assumption) rfl ?_))
        refine O_cons (W_it (W_mv rfl ?_))
        refine O_cons (W_gnE rfl (by first | rfl | assumption) ?_)
        refine O_cons (W_gnE rfl (by first | rfl | assumption) ?_)
        refine O_cons (W_gnE rfl (by first | rfl | assumption) ?_)
        refine O_cons (W_gnE rfl (by first | rfl | assumption) ?_)
        refine O_cons (W_gnE rfl (by first | rfl | assumption) ?_)
        first | refine O_cons (W_it (W_pickE rfl (by first | rfl | assumption) rfl ?_)) | refine O_cons (W_it (W_pickF rfl (by first | rfl | assumption) rfl ?_))
        refine O_cons (W_it (W_mv rfl ?_))
        refine O_cons (W_gnE rfl (by first | rfl | assumption) ?_)
        refine O_cons (W_gnE rfl (by first | rfl | assumption) ?_)
        refine O_cons (W_gnE rfl (by first | rfl | assumption) ?_)
        refine O_cons (W_gnE rfl (by first | rfl | assumption) ?_)
        refine O_cons (W_gnE rfl (by first | rfl | assumption) ?_)
        first | refine O_cons (W_it (W_pickE rfl (by first | rfl | assumption) rfl ?_)) | refine O_cons (W_it (W_pickF rfl (by first | rfl | assumption) rfl ?_))
        refine O_cons (W_it (W_mv rfl ?_))
        refine O_cons (W_gnE rfl (by first | rfl | assumption) ?_)
        refine O_cons (W_gnE rfl (by first | rfl | assumption) ?_)
        refine O_cons (W_gnE rfl (by first | rfl | assumption) ?_)
        refine O_cons (W_gnE rfl (by first | rfl | assumption) ?_)
        refine O_cons (W_gnE rfl (by first | rfl | assumption) ?_)
        first | refine O_cons (W_it (W_pickE rfl (by first | rfl | assumption) rfl ?_)) | refine O_cons (W_it (W_pickF rfl (by first | rfl | assumption) rfl ?_))
        refine O_cons (W_it (W_mv rfl ?_))
        refine O_cons (W_gnE rfl (by first | rfl | assumption) ?_)
        refine O_cons (W_gnE rfl (by first | rfl | assumption) ?_)
        refine O_cons (W_gnE rfl (by first | rfl | assumption) ?_)
        refine O_cons (W_gnE rfl (by first | rfl | assumption) ?_)
        refine O_cons (W_gnE rfl (by first | rfl | assumption) ?_)
        first | refine O_cons (W_it (W_pickE rfl (by first | rfl | assumption) rfl ?_)) | refine O_cons (W_it (W_pickF rfl (by first | rfl | assumption) rfl ?_))
        refine O_cons (W_it (W_mv rfl ?_))
        refine O_nil (hK2 _ ?_)
        clear hK2 K2
        refine codeW_ret (Fin.here (.inr rfl) ⟨_, rfl, rfl, ?_⟩)
        rw [Thr.eq_iff]
        simp_all
    · refine O_cons (W_it (W_mv rfl ?_))
      refine O_cons (W_gnE rfl (by first | rfl | assumption) ?_)
      refine O_cons (W_gnE rfl (by first | rfl | assumption) ?_)
      refine O_cons (W_gnE rfl (by first | rfl | assumption) ?_)
      refine O_cons (W_gnE rfl (by first | rfl | assumption) ?_)
      refine O_cons (W_gnE rfl (by first | rfl | assumption) ?_)
      first | refine O_cons (W_it (W_pickE rfl (by first | rfl | assumption) rfl ?_)) | refine O_cons (W_it (W_pickF rfl (by first | rfl | assumption) rfl ?_))
      refine O_cons (W_it (W_mv rfl ?_))
      refine O_cons (W_gnE rfl (by first | rfl | assumption) ?_)
      refine O_cons (W_gnE rfl (by first | rfl | assumption) ?_)
      refine O_cons (W_gnE rfl (by first | rfl | assumption) ?_)
      refine O_cons (W_gnE rfl (by first | rfl | assumption) ?_)
      refine O_cons (W_gnE rfl (by first | rfl | assumption) ?_)
      first | refine O_cons (W_it (W_pickE rfl (by first | rfl | assumption) rfl ?_)) | refine O_cons (W_it (W_pickF rfl (by first | rfl | assumption) rfl ?_))
      refine O_cons (W_it (W_mv rfl ?_))
      refine O_cons (W_gnE rfl (by first | rfl | assumption) ?_)
      refine O_cons (W_gnE rfl (by first | rfl | assumption) ?_)
      refine O_cons (W_gnE rfl (by first | rfl | assumption) ?_)
      refine O_cons (W_gnE rfl (by first | rfl | assumption) ?_)
      refine O_cons (W_gnE rfl (by first | rfl | assumption) ?_)
      first | refine O_cons (W_it (W_pickE rfl (by first | rfl | assumption) rfl ?_)) | refine O_cons (W_it (W_pickF rfl (by first | rfl | assumption) rfl ?_))
      refine O_cons (W_it (W_mv rfl ?_))
      refine O_cons (W_gnE rfl (by first | rfl | assumption) ?_)
      refine O_cons (W_gnE rfl (by first | rfl | assumption) ?_)
      refine O_cons (W_gnE rfl (by first | rfl | assumption) ?_)
      refine O_cons (W_gnE rfl (by first | rfl | assumption) ?_)
      refine O_cons (W_gnE rfl (by first | rfl | assumption) ?_)
      first | refine O_cons (W_it (W_pickE rfl (by first | rfl | assumption) rfl ?_)) | refine O_cons (W_it (W_pickF rfl (by first | rfl | assumption) rfl ?_))
      refine O_cons (W_it (W_mv rfl ?_))
      refine O_cons (W_gnE rfl (by first | rfl | assumption) ?_)
      refine O_cons (W_gnE rfl (by first | rfl | assumption) ?_)
      refine O_cons (W_gnE rfl (by first | rfl | assumption) ?_)
      refine O_cons (W_gnE rfl (by first | rfl | assumption) ?_)
      refine O_cons (W_gnE rfl (by first | rfl | assumption) ?_)
      first | refine O_cons (W_it (W_pickE rfl (by first | rfl | assumption) rfl ?_)) | refine O_cons (W_it (W_pickF rfl (by first | rfl | assumption) rfl ?_))
      refine O_cons (W_it (W_mv rfl ?_))
      refine O_cons (W_gnE rfl (by first | rfl | assumption) ?_)
      refine O_cons (W_gnE rfl (by first | rfl | assumption) ?_)
      refine O_cons (W_gnE rfl (by first | rfl | assumption) ?_)
      refine O_cons (W_gnE rfl (by first | rfl | assumption) ?_)
      refine O_cons (W_gnE rfl (by first | rfl | assumption) ?_)
      first | refine O_cons (W_it (W_pickE rfl (by first | rfl | assumption) rfl ?_)) | refine O_cons (W_it (W_pickF rfl (by first | rfl | assumption) rfl ?_))
      refine O_cons (W_it (W_mv rfl ?_))
      refine O_nil (hK2 _ ?_)
      clear hK2 K2
      refine codeW_ret (Fin.here (.inr rfl) ⟨_, rfl, rfl, ?_⟩)
      rw [Thr.eq_iff]
      simp_all
  · refine O_cons (W_it (W_mv rfl ?_))
    refine O_cons (W_gnE rfl (by first | rfl | assumption) ?_)
    refine O_cons (W_gnE rfl (by first | rfl | assumption) ?_)
    refine O_cons (W_gnE rfl (by first | rfl | assumption) ?_)
    refine O_cons (W_gnE rfl (by first | rfl | assumption) ?_)
    refine O_cons (W_gnE rfl (by first | rfl | assumption) ?_)
    first | refine O_cons (W_it (W_pickE rfl (by first | rfl | assumption) rfl ?_)) | refine O_cons (W_it (W_pickF rfl (by first | rfl | assumption) rfl ?_))
    refine O_cons (W_it (W_mv rfl ?_))
    refine O_cons (W_gnE rfl (by first | rfl | assumption) ?_)
    refine O_cons (W_gnE rfl (by first | rfl | assumption) ?_)
    refine O_cons (W_gnE rfl (by first | rfl | assumption) ?_)
    refine O_cons (W_gnE rfl (by first | rfl | assumption) ?_)
    refine O_cons (W_gnE rfl (by first | rfl | assumption) ?_)
    first | refine O_cons (W_it (W_pickE rfl (by first | rfl | assumption) rfl ?_)) | refine O_cons (W_it (W_pickF rfl (by first | rfl | assumption) rfl ?_))
    refine O_cons (W_it (W_mv rfl ?_))
    refine O_cons (W_gnE rfl (by first | rfl | assumption) ?_)
    refine O_cons (W_gnE rfl (by first | rfl | assumption) ?_)
    refine O_cons (W_gnE rfl (by first | rfl | assumption) ?_)
    refine O_cons (W_gnE rfl (by first | rfl | assumption) ?_)
    refine O_cons (W_gnE rfl (by first | rfl | assumption) ?_)
    first | refine O_cons (W_it (W_pickE rfl (by first | rfl | assumption) rfl ?_)) | refine O_cons (W_it (W_pickF rfl (by first | rfl | assumption) rfl ?_))
    refine O_cons (W_it (W_mv rfl ?_))
    refine O_cons (W_gnE rfl (by first | rfl | assumption) ?_)
    refine O_cons (W_gnE rfl (by first | rfl | assumption) ?_)
    refine O_cons (W_gnE rfl (by first | rfl | assumption) ?_)
    refine O_cons (W_gnE rfl (by first | rfl | assumption) ?_)
    refine O_cons (W_gnE rfl (by first | rfl | assumption) ?_)
    first | refine O_cons (W_it (W_pickE rfl (by first | rfl | assumption) rfl ?_)) | refine O_cons (W_it (W_pickF rfl (by first | rfl | assumption) rfl ?_))
    refine O_cons (W_it (W_mv rfl ?_))
    refine O_cons (W_gnE rfl (by first | rfl | assumption) ?_)
    refine O_cons (W_gnE rfl (by first | rfl | assumption) ?_)
    refine O_cons (W_gnE rfl (by first | rfl | assumption) ?_)
    refine O_cons (W_gnE rfl (by first | rfl | assumption) ?_)
    refine O_cons (W_gnE rfl (by first | rfl | assumption) ?_)
    first | refine O_cons (W_it (W_pickE rfl (by first | rfl | assumption) rfl ?_)) | refine O_cons (W_it (W_pickF rfl (by first | rfl | assumption) rfl ?_))
    refine O_cons (W_it (W_mv rfl ?_))
    refine O_cons (W_gnE rfl (by first | rfl | assumption) ?_)
    refine O_cons (W_gnE rfl (by first | rfl | assumption) ?_)
    refine O_cons (W_gnE rfl (by first | rfl | assumption) ?_)
    refine O_cons (W_gnE rfl (by first | rfl | assumption) ?_)
    refine O_cons (W_gnE rfl (by first | rfl | assumption) ?_)
    first | refine O_cons (W_it (W_pickE rfl (by first | rfl | assumption) rfl ?_)) | refine O_cons (W_it (W_pickF rfl (by first | rfl | assumption) rfl ?_))
    refine O_cons (W_it (W_mv rfl ?_))
    refine O_cons (W_gnE rfl (by first | rfl | assumption) ?_)
    refine O_cons (W_gnE rfl (by first | rfl | assumption) ?_)
    refine O_cons (W_gnE rfl (by first | rfl | assumption) ?_)
    refine O_cons (W_gnE rfl (by first | rfl | assumption) ?_)
    refine O_cons (W_gnE rfl (by first | rfl | assumption) ?_)
    first | refine O_cons (W_it (W_pickE rfl (by first | rfl | assumption) rfl ?_)) | refine O_cons (W_it (W_pickF rfl (by first | rfl | assumption) rfl ?_))
    refine O_cons (W_it (W_mv rfl ?_))
    refine O_nil (hK2 _ ?_)
    clear hK2 K2
    refine codeW_ret (Fin.here (.inr rfl) ⟨_, rfl, rfl, ?_⟩)
    rw [Thr.eq_iff]
    simp_all

def ac27 : ACode := (.seq (.reg [⟨none, (some 2), (.box (some 2) (.t 0))⟩, ⟨none, (some 3), (.box (some 3) (.t 1))⟩, ⟨none, (some 4), (.mv (some 4) (.k (.bool false)))⟩]) (.seq (.seq (.reg [⟨none, (some 7), (.fad (some 7) 0 (.t 2))⟩, ⟨none, (some 8), (.load (some 8) 1 false (.t 7))⟩, ⟨none, (some 9), (.len (some 9) (.t 8))⟩, ⟨none, (some 10), (.fad (some 10) 0 (.t 3))⟩, ⟨none, (some 11), (.load (some 11) 1 false (.t 10))⟩, ⟨none, (some 12), (.len (some 12) (.t 11))⟩, ⟨none, (some 13), (.bin (some 13) .neq (.t 9) (.t 12))⟩, ⟨none, (some 14), (.mv (some 14) (.t 13))⟩, ⟨(some (14, false)), (some 15), (.fad (some 15) 1 (.t 2))⟩, ⟨(some (14, false)), (some 16), (.load (some 16) 1 false (.t 15))⟩, ⟨(some (14, false)), (some 17), (.len (some 17) (.t 16))⟩, ⟨(some (14, false)), (some 18), (.fad (some 18) 1 (.t 3))⟩, ⟨(some (14, false)), (some 19), (.load (some 19) 1 false (.t 18))⟩, ⟨(some (14, false)), (some 20), (.len (some 20) (.t 19))⟩, ⟨(some (14, false)), (some 21), (.bin (some 21) .neq (.t 17) (.t 20))⟩, ⟨none, (some 22), (.pick (some 22) (.t 14) (.k (.bool true)) (.t 21))⟩]) (.cond (.t 22) (.seq (.reg [⟨none, (some 4), (.mv (some 4) (.k (.bool false)))⟩]) .ret) .skip)) (.seq (.seq (.reg [⟨none, (some 5), (.mv (some 5) (.k (.int .i64 0)))⟩]) (.block 0 (.loop (.seq (.seq (.reg [⟨none, (some 23), (.mv (some 23) (.t 5))⟩, ⟨none, (some 24), (.fad (some 24) 0 (.t 2))⟩, ⟨none, (some 25), (.load (some 25) 1 false (.t 24))⟩, ⟨none, (some 26), (.len (some 26) (.t 25))⟩, ⟨none, (some 27), (.bin (some 27) .lss (.t 23) (.t 26))⟩]) (.cond (.t 27) .skip (.exit 0))) (.seq (.block 1 (.seq (.reg [⟨none, (some 30), (.fad (some 30) 0 (.t 2))⟩, ⟨none, (some 31), (.load (some 31) 1 false (.t 30))⟩, ⟨none, (some 32), (.mv (some 32) (.t 5))⟩, ⟨none, (some 33), (.ixs (some 33) 22 (.t 31) (.t 32))⟩, ⟨none, (some 34), (.load (some 34) 22 true (.t 33))⟩, ⟨none, (some 35), (.fad (some 35) 0 (.t 3))⟩, ⟨none, (some 36), (.load (some 36) 1 false (.t 35))⟩, ⟨none, (some 37), (.mv (some 37) (.t 5))⟩, ⟨none, (some 38), (.ixs (some 38) 22 (.t 36) (.t 37))⟩, ⟨none, (some 39), (.load (some 39) 22 true (.t 38))⟩, ⟨none, (some 40), (.call (some 40) 47 [(.t 34), (.t 39)])⟩, ⟨none, (some 41), (.un (some 41) .not (.t 40))⟩]) (.cond (.t 41) (.seq (.reg [⟨none, (some 4), (.mv (some 4) (.k (.bool false)))⟩]) .ret) .skip))) (.reg [⟨none, (some 28), (.mv (some 28) (.t 5))⟩, ⟨none, (some 29), (.bin (some 29) .add (.t 28) (.k (.int .i64 1)))⟩, ⟨none, (some 5), (.mv (some 5) (.t 29))⟩])))))) (.seq (.seq (.reg [⟨none, (some 6), (.mv (some 6) (.k (.int .i64 0)))⟩]) (.block 2 (.loop (.seq (.seq (.reg [⟨none, (some 42), (.mv (some 42) (.t 6))⟩, ⟨none, (some 43), (.fad (some 43) 1 (.t 2))⟩, ⟨none, (some 44), (.load (some 44) 1 false (.t 43))⟩, ⟨none, (some 45), (.len (some 45) (.t 44))⟩, ⟨none, (some 46), (.bin (some 46) .lss (.t 42) (.t 45))⟩]) (.cond (.t 46) .skip (.exit 2))) (.seq (.block 3 (.seq (.reg [⟨none, (some 49), (.fad (some 49) 1 (.t 2))⟩, ⟨none, (some 50), (.load (some 50) 1 false (.t 49))⟩, ⟨none, (some 51), (.mv (some 51) (.t 6))⟩, ⟨none, (some 52), (.ixs (some 52) 1 (.t 50) (.t 51))⟩, ⟨none, (some 53), (.load (some 53) 1 false (.t 52))⟩, ⟨none, (some 54), (.fad (some 54) 1 (.t 3))⟩, ⟨none, (some 55), (.load (some 55) 1 false (.t 54))⟩, ⟨none, (some 56), (.mv (some 56) (.t 6))⟩, ⟨none, (some 57), (.ixs (some 57) 1 (.t 55) (.t 56))⟩, ⟨none, (some 58), (.load (some 58) 1 false (.t 57))⟩, ⟨none, (some 59), (.call (some 59) 48 [(.t 53), (.t 58)])⟩, ⟨none, (some 60), (.un (some 60) .not (.t 59))⟩]) (.cond (.t 60) (.seq (.reg [⟨none, (some 4), (.mv (some 4) (.k (.bool false)))⟩]) .ret) .skip))) (.reg [⟨none, (some 47), (.mv (some 47) (.t 6))⟩, ⟨none, (some 48), (.bin (some 48) .add (.t 47) (.k (.int .i64 1)))⟩, ⟨none, (some 6), (.mv (some 6) (.t 48))⟩])))))) (.seq (.reg [⟨none, (some 61), (.fad (some 61) 2 (.t 2))⟩, ⟨none, (some 62), (.load (some 62) 1 false (.t 61))⟩, ⟨none, (some 63), (.fad (some 63) 2 (.t 3))⟩, ⟨none, (some 64), (.load (some 64) 1 false (.t 63))⟩, ⟨none, (some 65), (.call (some 65) 49 [(.t 62), (.t 64)])⟩, ⟨none, (some 66), (.mv (some 66) (.t 65))⟩, ⟨(some (66, true)), (some 67), (.fad (some 67) 3 (.t 2))⟩, ⟨(some (66, true)), (some 68), (.load (some 68) 1 false (.t 67))⟩, ⟨(some (66, true)), (some 69), (.fad (some 69) 3 (.t 3))⟩, ⟨(some (66, true)), (some 70), (.load (some 70) 1 false (.t 69))⟩, ⟨(some (66, true)), (some 71), (.call (some 71) 49 [(.t 68), (.t 70)])⟩, ⟨none, (some 72), (.pick (some 72) (.t 66) (.t 71) (.k (.bool false)))⟩, ⟨none, (some 73), (.mv (some 73) (.t 72))⟩, ⟨(some (73, true)), (some 74), (.fad (some 74) 4 (.t 2))⟩, ⟨(some (73, true)), (some 75), (.load (some 75) 1 false (.t 74))⟩, ⟨(some (73, true)), (some 76), (.fad (some 76) 4 (.t 3))⟩, ⟨(some (73, true)), (some 77), (.load (some 77) 1 false (.t 76))⟩, ⟨(some (73, true)), (some 78), (.call (some 78) 50 [(.t 75), (.t 77)])⟩, ⟨none, (some 79), (.pick (some 79) (.t 73) (.t 78) (.k (.bool false)))⟩, ⟨none, (some 80), (.mv (some 80) (.t 79))⟩, ⟨(some (80, true)), (some 81), (.fad (some 81) 5 (.t 2))⟩, ⟨(some (80, true)), (some 82), (.load (some 82) 1 false (.t 81))⟩, ⟨(some (80, true)), (some 83), (.fad (some 83) 5 (.t 3))⟩, ⟨(some (80, true)), (some 84), (.load (some 84) 1 false (.t 83))⟩, ⟨(some (80, true)), (some 85), (.call (some 85) 51 [(.t 82), (.t 84)])⟩, ⟨none, (some 86), (.pick (some 86) (.t 80) (.t 85) (.k (.bool false)))⟩, ⟨none, (some 87), (.mv (some 87) (.t 86))⟩, ⟨(some (87, true)), (some 88), (.fad (some 88) 6 (.t 2))⟩, ⟨(some (87, true)), (some 89), (.load (some 89) 1 false (.t 88))⟩, ⟨(some (87, true)), (some 90), (.fad (some 90) 6 (.t 3))⟩, ⟨(some (87, true)), (some 91), (.load (some 91) 1 false (.t 90))⟩, ⟨(some (87, true)), (some 92), (.bin (some 92) .eql (.t 89) (.t 91))⟩, ⟨none, (some 93), (.pick (some 93) (.t 87) (.t 92) (.k (.bool false)))⟩, ⟨none, (some 94), (.mv (some 94) (.t 93))⟩, ⟨(some (94, true)), (some 95), (.fad (some 95) 7 (.t 2))⟩, ⟨(some (94, true)), (some 96), (.load (some 96) 1 false (.t 95))⟩, ⟨(some (94, true)), (some 97), (.fad (some 97) 7 (.t 3))⟩, ⟨(some (94, true)), (some 98), (.load (some 98) 1 false (.t 97))⟩, ⟨(some (94, true)), (some 99), (.call (some 99) 52 [(.t 96), (.t 98)])⟩, ⟨none, (some 100), (.pick (some 100) (.t 94) (.t 99) (.k (.bool false)))⟩, ⟨none, (some 101), (.mv (some 101) (.t 100))⟩, ⟨(some (101, true)), (some 102), (.fad (some 102) 8 (.t 2))⟩, ⟨(some (101, true)), (some 103), (.load (some 103) 1 false (.t 102))⟩, ⟨(some (101, true)), (some 104), (.fad (some 104) 8 (.t 3))⟩, ⟨(some (101, true)), (some 105), (.load (some 105) 1 false (.t 104))⟩, ⟨(some (101, true)), (some 106), (.call (some 106) 52 [(.t 103), (.t 105)])⟩, ⟨none, (some 107), (.pick (some 107) (.t 101) (.t 106) (.k (.bool false)))⟩, ⟨none, (some 4), (.mv (some 4) (.t 107))⟩]) .ret)))))
theorem tr27 : ((Try.f27.name == "runtime.NumGoroutine") = false ∧ Try.f27.results = ([4].map ResultVar.tmp).toArray) ∧ Try.f27.ntmps = 108 ∧ (Try.f27.body.bind (trCode Try.prog Try.f27.ntmps)) = some ac27 := ⟨⟨by kernel_rfl, by kernel_rfl⟩, by kernel_rfl, by kernel_rfl⟩


theorem Sta.eq_iff (a b : Sta) : a = b ↔ a.threads = b.threads ∧ a.buffers = b.buffers ∧ a.roots = b.roots ∧ a.slots = b.slots ∧ a.cells = b.cells ∧ a.free = b.free ∧ a.epoch = b.epoch ∧ a.marks = b.marks ∧ a.counts = b.counts := by
  refine ⟨fun h => by subst h; simp, fun h => ?_⟩
  obtain ⟨a0, a1, a2, a3, a4, a5, a6, a7, a8⟩ := a
  obtain ⟨c0, c1, c2, c3, c4, c5, c6, c7, c8⟩ := b
  obtain ⟨rfl, rfl, rfl, rfl, rfl, rfl, rfl, rfl, rfl⟩ := h
  rfl
theorem state_eq_FS (a b : Sta) (hb : a.weight ≤ 900000000) :
    FS Try.prog 27 [.agg (a.row.map .p), .agg (b.row.map .p)] [] fun res rg => ∃ t : Bool, res = .c (.p (.v (.bool t))) ∧ rg = [] ∧ (t = true ↔ a = b) := by
  refine FS_def [4] 108 Try.func27 tr27 rfl ?_
  unfold ac27
  have hb2 : thrW a.threads + bufW a.buffers + a.bulk + 2000 ≤ 900000000 := hb
  have hb3 : a.bulk = 80 * (a.roots.length + a.slots.length + a.cells.length + a.free.length + a.marks.length + a.counts.length) := rfl
  have q4 := thrW_len a.threads
  have q5 := bufW_len a.buffers
  refine codeW_seq fun K1 hK1 => codeW_reg ?_
  refine O_cons (W_it (W_box rfl ?_))
  refine O_cons (W_it (W_box rfl ?_))
  refine O_cons (W_it (W_mv rfl ?_))
  refine O_nil (hK1 _ ?_)
  clear hK1 K1
  refine codeW_seq fun K2 hK2 => ?_
  refine codeW_weak (s' := ⟨[(3, .c (.ptr 1 0)), (2, .c (.rp a.row))], [.dead, .ac (b.row.map .p)]⟩) (Weak.box 0 a.row rfl ⟨.inl rfl, .inr ⟨0, rfl, Nat.zero_le _, rfl⟩, trivial⟩ ⟨t_dead (by decide), t_keep (fun _ => .inl rfl) (by decide), trivial⟩) ?_
  refine codeW_weak (s' := ⟨[(3, .c (.rp b.row)), (2, .c (.rp a.row))], [.dead, .dead]⟩) (Weak.box 1 b.row rfl ⟨.inr ⟨0, rfl, Nat.zero_le _, rfl⟩, .inl rfl, trivial⟩ ⟨t_keep (fun _ => .inl rfl) (by decide), t_dead (by decide), trivial⟩) ?_
  refine codeW_weak (s' := ⟨[(3, .c (.rp b.row)), (2, .c (.rp a.row))], []⟩) (Weak.ren [] rfl (by decide) trivial ⟨rfl, rfl, trivial⟩) ?_
  refine codeW_seq fun K3 hK3 => codeW_reg ?_
  first | refine O_cons (W_it (W_fad_p rfl ?_)) | refine O_cons (W_it (W_fad_e rfl ?_)) | refine O_cons (W_it (W_fad_r rfl ?_))
  first | refine O_cons (W_it (W_load_p rfl rfl rfl rfl ?_)) | refine O_cons (W_it (W_load_r rfl rfl rfl ?_)) | refine O_cons (W_it (W_load_e rfl rfl rfl rfl rfl ?_))
  refine O_cons (W_it (W_len rfl ?_))
  first | refine O_cons (W_it (W_fad_p rfl ?_)) | refine O_cons (W_it (W_fad_e rfl ?_)) | refine O_cons (W_it (W_fad_r rfl ?_))
  first | refine O_cons (W_it (W_load_p rfl rfl rfl rfl ?_)) | refine O_cons (W_it (W_load_r rfl rfl rfl ?_)) | refine O_cons (W_it (W_load_e rfl rfl rfl rfl rfl ?_))
  refine O_cons (W_it (W_len rfl ?_))
  rw [List.length_map, List.length_map]
  refine O_cons (W_it (W_neq rfl rfl ?_))
  rcases Bool.eq_false_or_eq_true (!decide ((a.threads.length : Int) = (b.threads.length : Int))) with hf | hf
  · refine O_cons (W_it (W_mv rfl ?_))
    refine O_cons (W_gnE rfl (by first | rfl | assumption) ?_)
    refine O_cons (W_gnE rfl (by first | rfl | assumption) ?_)
    refine O_cons (W_gnE rfl (by first | rfl | assumption) ?_)
    refine O_cons (W_gnE rfl (by first | rfl | assumption) ?_)
    refine O_cons (W_gnE rfl (by first | rfl | assumption) ?_)
    refine O_cons (W_gnE rfl (by first | rfl | assumption) ?_)
    refine O_cons (W_gnE rfl (by first | rfl | assumption) ?_)
    first | refine O_cons (W_it (W_pickE rfl (by first | rfl | assumption) rfl ?_)) | refine O_cons (W_it (W_pickF rfl (by first | rfl | assumption) rfl ?_))
    refine O_nil (hK3 _ ?_)
    clear hK3 K3
    refine codeW_condT rfl (by first | rfl | assumption) ?_
    refine codeW_seq fun K4 hK4 => codeW_reg ?_
    refine O_cons (W_it (W_mv rfl ?_))
    refine O_nil (hK4 _ ?_)
    clear hK4 K4
    refine codeW_ret (Fin.here (.inr rfl) ⟨false, rfl, rfl, fun h => (by cases h), fun h => ?_⟩)
    subst h
    first | (simp at hf; done) | (simp at hc0; done)
  · refine O_cons (W_it (W_mv rfl ?_))
    first | refine O_cons (W_gyE rfl (by first | rfl | assumption) (W_fad_p rfl ?_)) | refine O_cons (W_gyE rfl (by first | rfl | assumption) (W_fad_e rfl ?_)) | refine O_cons (W_gyE rfl (by first | rfl | assumption) (W_fad_r rfl ?_)) | refine O_cons (W_gnE rfl (by first | rfl | assumption) ?_) | refine O_cons (W_gu rfl ?_)
    first | refine O_cons (W_gyE rfl (by first | rfl | assumption) (W_load_p rfl rfl rfl rfl ?_)) | refine O_cons (W_gyE rfl (by first | rfl | assumption) (W_load_r rfl rfl rfl ?_)) | refine O_cons (W_gyE rfl (by first | rfl | assumption) (W_load_e rfl rfl rfl rfl rfl ?_)) | refine O_cons (W_gnE rfl (by first | rfl | assumption) ?_) | refine O_cons (W_gu rfl ?_)
    first | refine O_cons (W_gyE rfl (by first | rfl | assumption) (W_len rfl ?_)) | refine O_cons (W_gnE rfl (by first | rfl | assumption) ?_) | refine O_cons (W_gu rfl ?_)
    first | refine O_cons (W_gyE rfl (by first | rfl | assumption) (W_fad_p rfl ?_)) | refine O_cons (W_gyE rfl (by first | rfl | assumption) (W_fad_e rfl ?_)) | refine O_cons (W_gyE rfl (by first | rfl | assumption) (W_fad_r rfl ?_)) | refine O_cons (W_gnE rfl (by first | rfl | assumption) ?_) | refine O_cons (W_gu rfl ?_)
    first | refine O_cons (W_gyE rfl (by first | rfl | assumption) (W_load_p rfl rfl rfl rfl ?_)) | refine O_cons (W_gyE rfl (by first | rfl | assumption) (W_load_r rfl rfl rfl ?_)) | refine O_cons (W_gyE rfl (by first | rfl | assumption) (W_load_e rfl rfl rfl rfl rfl ?_)) | refine O_cons (W_gnE rfl (by first | rfl | assumption) ?_) | refine O_cons (W_gu rfl ?_)
    first | refine O_cons (W_gyE rfl (by first | rfl | assumption) (W_len rfl ?_)) | refine O_cons (W_gnE rfl (by first | rfl | assumption) ?_) | refine O_cons (W_gu rfl ?_)
    rw [List.length_map, List.length_map]
    first | refine O_cons (W_gyE rfl (by first | rfl | assumption) (W_neq rfl rfl ?_)) | refine O_cons (W_gnE rfl (by first | rfl | assumption) ?_) | refine O_cons (W_gu rfl ?_)
    first | refine O_cons (W_it (W_pickE rfl (by first | rfl | assumption) rfl ?_)) | refine O_cons (W_it (W_pickF rfl (by first | rfl | assumption) rfl ?_))
    refine O_nil (hK3 _ ?_)
    clear hK3 K3
    refine codeW_cond rfl (fun hc0 => ?_) (fun hc0 => ?_)
    · refine codeW_seq fun K4 hK4 => codeW_reg ?_
      refine O_cons (W_it (W_mv rfl ?_))
      refine O_nil (hK4 _ ?_)
      clear hK4 K4
      refine codeW_ret (Fin.here (.inr rfl) ⟨false, rfl, rfl, fun h => (by cases h), fun h => ?_⟩)
      subst h
      first | (simp at hf; done) | (simp at hc0; done)
    · have hl : a.threads.length = b.threads.length := by have := of_decide_eq_true (not_false_t hf); omega
      have hm : a.buffers.length = b.buffers.length := by have := of_decide_eq_true (not_false_t hc0); omega
      refine codeW_skip ?_
      refine (hK2 _ ?_ : K2 _)
      try clear hK2 K2
      refine codeW_seq fun K5 hK5 => ?_
      refine codeW_seq fun K6 hK6 => codeW_reg ?_
      refine O_cons (W_it (W_mv rfl ?_))
      refine O_nil (hK6 _ ?_)
      clear hK6 K6
      refine codeW_block ?_
      refine codeW_weak (s' := ⟨[(5, .c (.p (.v (.int .i64 ((0 : Nat) : Int))))), (3, .c (.rp b.row)), (2, .c (.rp a.row))], []⟩) (Weak.ren [] rfl (by decide) trivial ⟨rfl, rfl, rfl, trivial⟩) ?_
      refine codeW_loop (fun k s => ∃ i : Nat, i + k = a.threads.length ∧ a.threads.take i = b.threads.take i ∧ s = ⟨[(5, .c (.p (.v (.int .i64 (i : Int))))), (3, .c (.rp b.row)), (2, .c (.rp a.row))], []⟩) a.threads.length ⟨0, by omega, by simp, rfl⟩ ?_
      rintro k s ⟨i, hik, hT, rfl⟩ K hK
      refine codeW_seq fun K7 hK7 => ?_
      refine codeW_seq fun K8 hK8 => codeW_reg ?_
      refine O_cons (W_it (W_mv rfl ?_))
      first | refine O_cons (W_it (W_fad_p rfl ?_)) | refine O_cons (W_it (W_fad_e rfl ?_)) | refine O_cons (W_it (W_fad_r rfl ?_))
      first | refine O_cons (W_it (W_load_p rfl rfl rfl rfl ?_)) | refine O_cons (W_it (W_load_r rfl rfl rfl ?_)) | refine O_cons (W_it (W_load_e rfl rfl rfl rfl rfl ?_))
      refine O_cons (W_it (W_len rfl ?_))
      rw [List.length_map]
      refine O_cons (W_it (W_lss rfl rfl ?_))
      refine O_nil (hK8 _ ?_)
      clear hK8 K8
      refine codeW_cond rfl (fun hc1 => ?_) (fun hc1 => ?_)
      · have hi : i < a.threads.length := by have := of_decide_eq_true hc1; omega
        have hj : i < b.threads.length := by omega
        have q2 := thrW_get _ _ hi
        refine codeW_skip ?_
        refine (hK7 _ ?_ : K7 _)
        try clear hK7 K7
        refine codeW_seq fun K9 hK9 => ?_
        refine codeW_block ?_
        refine codeW_seq fun K10 hK10 => codeW_reg ?_
        first | refine O_cons (W_it (W_fad_p rfl ?_)) | refine O_cons (W_it (W_fad_e rfl ?_)) | refine O_cons (W_it (W_fad_r rfl ?_))
        first | refine O_cons (W_it (W_load_p rfl rfl rfl rfl ?_)) | refine O_cons (W_it (W_load_r rfl rfl rfl ?_)) | refine O_cons (W_it (W_load_e rfl rfl rfl rfl rfl ?_))
        refine O_cons (W_it (W_mv rfl ?_))
        first | refine O_cons (W_it (W_ixs_s rfl rfl (by omega) (thr_geti (i := i) hi) ?_)) | refine O_cons (W_it (W_ixs_o rfl rfl (by omega) (by omega) ?_))
        first | refine O_cons (W_it (W_load_p rfl rfl rfl rfl ?_)) | refine O_cons (W_it (W_load_r rfl rfl rfl ?_)) | refine O_cons (W_it (W_load_e rfl rfl rfl rfl rfl ?_))
        first | refine O_cons (W_it (W_fad_p rfl ?_)) | refine O_cons (W_it (W_fad_e rfl ?_)) | refine O_cons (W_it (W_fad_r rfl ?_))
        first | refine O_cons (W_it (W_load_p rfl rfl rfl rfl ?_)) | refine O_cons (W_it (W_load_r rfl rfl rfl ?_)) | refine O_cons (W_it (W_load_e rfl rfl rfl rfl rfl ?_))
        refine O_cons (W_it (W_mv rfl ?_))
        first | refine O_cons (W_it (W_ixs_s rfl rfl (by omega) (thr_geti (i := i) hj) ?_)) | refine O_cons (W_it (W_ixs_o rfl rfl (by omega) (by omega) ?_))
        first | refine O_cons (W_it (W_load_p rfl rfl rfl rfl ?_)) | refine O_cons (W_it (W_load_r rfl rfl rfl ?_)) | refine O_cons (W_it (W_load_e rfl rfl rfl rfl rfl ?_))
        refine O_cons (W_it (W_callF (thread_eq_FS (a.threads[i]'hi) (b.threads[i]'hj) ?_) [] rfl (by decide) trivial ?_))
        · omega
        rintro _ _ ⟨t36, rfl, rfl, ht36⟩
        simp only [St.put, renAV, renAC, renReg, renAVs, setAll, upF, List.map_cons, List.map_nil, List.cons_append, List.nil_append, List.append_nil, List.set_cons_zero, List.set_cons_succ, List.length_cons, List.length_nil, Nat.reduceAdd, Nat.reduceLT, Nat.reduceSub, Nat.not_lt_zero, if_false, if_true, Nat.sub_zero, Nat.add_zero, Nat.zero_add]
        refine O_cons (W_it (W_not rfl ?_))
        refine O_nil (hK10 _ ?_)
        clear hK10 K10
        refine codeW_cond rfl (fun hc2 => ?_) (fun hc2 => ?_)
        · refine codeW_seq fun K11 hK11 => codeW_reg ?_
          refine O_cons (W_it (W_mv rfl ?_))
          refine O_nil (hK11 _ ?_)
          clear hK11 K11
          refine codeW_ret (Fin.here (.inr rfl) ⟨false, rfl, rfl, fun h => (by cases h), fun h => ?_⟩)
          subst h
          have := ht36.2 rfl
          subst this
          cases hc2
        · have he : (a.threads[i]'hi) = (b.threads[i]'hj) := ht36.1 (not_false_t hc2)
          refine codeW_skip ?_
          refine (hK9 _ ?_ : K9 _)
          try clear hK9 K9
          refine codeW_reg ?_
          refine O_cons (W_it (W_mv rfl ?_))
          refine O_cons (W_it (W_add rfl rfl ?_))
          refine O_cons (W_it (W_mv rfl ?_))
          refine O_nil ?_
          refine hK _ ⟨k - 1, _, by omega, ?_, i + 1, by omega, by rw [List.take_succ_eq_append_getElem hi, List.take_succ_eq_append_getElem hj, hT, he], rfl⟩
          refine Weak.ren [] rfl (by decide) trivial ⟨?_, rfl, rfl, trivial⟩
          · show AV.c (.p (.v (.int .i64 (IntKind.i64.wrap ((i : Int) + 1))))) = AV.c (.p (.v (.int .i64 ((i + 1 : Nat) : Int))))
            rw [wrap64_id (by omega) (by omega)]
            rfl
      · have hi : i = a.threads.length := by have := of_decide_eq_false hc1; omega
        subst hi
        rw [List.take_length, hl, List.take_length] at hT
        have hTh := hT
        clear hT
        refine codeW_exit ?_
        refine (hK5 _ ?_ : K5 _)
        try clear hK5 K5
        refine codeW_seq fun K12 hK12 => ?_
        refine codeW_seq fun K13 hK13 => codeW_reg ?_
        refine O_cons (W_it (W_mv rfl ?_))
        refine O_nil (hK13 _ ?_)
        clear hK13 K13
        refine codeW_block ?_
        refine codeW_weak (s' := ⟨[(6, .c (.p (.v (.int .i64 ((0 : Nat) : Int))))), (3, .c (.rp b.row)), (2, .c (.rp a.row))], []⟩) (Weak.ren [] rfl (by decide) trivial ⟨rfl, rfl, rfl, trivial⟩) ?_
        refine codeW_loop (fun k s => ∃ i : Nat, i + k = a.buffers.length ∧ a.buffers.take i = b.buffers.take i ∧ s = ⟨[(6, .c (.p (.v (.int .i64 (i : Int))))), (3, .c (.rp b.row)), (2, .c (.rp a.row))], []⟩) a.buffers.length ⟨0, by omega, by simp, rfl⟩ ?_
        rintro k s ⟨i, hik, hT, rfl⟩ K hK
        refine codeW_seq fun K14 hK14 => ?_
        refine codeW_seq fun K15 hK15 => codeW_reg ?_
        refine O_cons (W_it (W_mv rfl ?_))
        first | refine O_cons (W_it (W_fad_p rfl ?_)) | refine O_cons (W_it (W_fad_e rfl ?_)) | refine O_cons (W_it (W_fad_r rfl ?_))
        first | refine O_cons (W_it (W_load_p rfl rfl rfl rfl ?_)) | refine O_cons (W_it (W_load_r rfl rfl rfl ?_)) | refine O_cons (W_it (W_load_e rfl rfl rfl rfl rfl ?_))
        refine O_cons (W_it (W_len rfl ?_))
        rw [List.length_map]
        refine O_cons (W_it (W_lss rfl rfl ?_))
        refine O_nil (hK15 _ ?_)
        clear hK15 K15
        refine codeW_cond rfl (fun hc3 => ?_) (fun hc3 => ?_)
        · have hi : i < a.buffers.length := by have := of_decide_eq_true hc3; omega
          have hj : i < b.buffers.length := by omega
          have q2 := bufW_get _ _ hi
          refine codeW_skip ?_
          refine (hK14 _ ?_ : K14 _)
          try clear hK14 K14
          refine codeW_seq fun K16 hK16 => ?_
          refine codeW_block ?_
          refine codeW_seq fun K17 hK17 => codeW_reg ?_
          first | refine O_cons (W_it (W_fad_p rfl ?_)) | refine O_cons (W_it (W_fad_e rfl ?_)) | refine O_cons (W_it (W_fad_r rfl ?_))
          first | refine O_cons (W_it (W_load_p rfl rfl rfl rfl ?_)) | refine O_cons (W_it (W_load_r rfl rfl rfl ?_)) | refine O_cons (W_it (W_load_e rfl rfl rfl rfl rfl ?_))
          refine O_cons (W_it (W_mv rfl ?_))
          first | refine O_cons (W_it (W_ixs_s rfl rfl (by omega) (buf_geti (i := i) hi) ?_)) | refine O_cons (W_it (W_ixs_o rfl rfl (by omega) (by omega) ?_))
          first | refine O_cons (W_it (W_load_p rfl rfl rfl rfl ?_)) | refine O_cons (W_it (W_load_r rfl rfl rfl ?_)) | refine O_cons (W_it (W_load_e rfl rfl rfl rfl rfl ?_))
          first | refine O_cons (W_it (W_fad_p rfl ?_)) | refine O_cons (W_it (W_fad_e rfl ?_)) | refine O_cons (W_it (W_fad_r rfl ?_))
          first | refine O_cons (W_it (W_load_p rfl rfl rfl rfl ?_)) | refine O_cons (W_it (W_load_r rfl rfl rfl ?_)) | refine O_cons (W_it (W_load_e rfl rfl rfl rfl rfl ?_))
          refine O_cons (W_it (W_mv rfl ?_))
          first | refine O_cons (W_it (W_ixs_s rfl rfl (by omega) (buf_geti (i := i) hj) ?_)) | refine O_cons (W_it (W_ixs_o rfl rfl (by omega) (by omega) ?_))
          first | refine O_cons (W_it (W_load_p rfl rfl rfl rfl ?_)) | refine O_cons (W_it (W_load_r rfl rfl rfl ?_)) | refine O_cons (W_it (W_load_e rfl rfl rfl rfl rfl ?_))
          refine O_cons (W_it (W_callF (ents_eq_FS (a.buffers[i]'hi) (b.buffers[i]'hj) ?_) [] rfl (by decide) trivial ?_))
          · omega
          rintro _ _ ⟨t58, rfl, rfl, ht58⟩
          simp only [St.put, renAV, renAC, renReg, renAVs, setAll, upF, List.map_cons, List.map_nil, List.cons_append, List.nil_append, List.append_nil, List.set_cons_zero, List.set_cons_succ, List.length_cons, List.length_nil, Nat.reduceAdd, Nat.reduceLT, Nat.reduceSub, Nat.not_lt_zero, if_false, if_true, Nat.sub_zero, Nat.add_zero, Nat.zero_add]
          refine O_cons (W_it (W_not rfl ?_))
          refine O_nil (hK17 _ ?_)
          clear hK17 K17
          refine codeW_cond rfl (fun hc4 => ?_) (fun hc4 => ?_)
          · refine codeW_seq fun K18 hK18 => codeW_reg ?_
            refine O_cons (W_it (W_mv rfl ?_))
            refine O_nil (hK18 _ ?_)
            clear hK18 K18
            refine codeW_ret (Fin.here (.inr rfl) ⟨false, rfl, rfl, fun h => (by cases h), fun h => ?_⟩)
            subst h
            have := ht58.2 rfl
            subst this
            cases hc4
          · have he : (a.buffers[i]'hi) = (b.buffers[i]'hj) := ht58.1 (not_false_t hc4)
            refine codeW_skip ?_
            refine (hK16 _ ?_ : K16 _)
            try clear hK16 K16
            refine codeW_reg ?_
            refine O_cons (W_it (W_mv rfl ?_))
            refine O_cons (W_it (W_add rfl rfl ?_))
            refine O_cons (W_it (W_mv rfl ?_))
            refine O_nil ?_
            refine hK _ ⟨k - 1, _, by omega, ?_, i + 1, by omega, by rw [List.take_succ_eq_append_getElem hi, List.take_succ_eq_append_getElem hj, hT, he], rfl⟩
            refine Weak.ren [] rfl (by decide) trivial ⟨?_, rfl, rfl, trivial⟩
            · show AV.c (.p (.v (.int .i64 (IntKind.i64.wrap ((i : Int) + 1))))) = AV.c (.p (.v (.int .i64 ((i + 1 : Nat) : Int))))
              rw [wrap64_id (by omega) (by omega)]
              rfl
        · have hi : i = a.buffers.length := by have := of_decide_eq_false hc3; omega
          subst hi
          rw [List.take_length, hm, List.take_length] at hT
          refine codeW_exit ?_
          refine (hK12 _ ?_ : K12 _)
          try clear hK12 K12
          refine codeW_seq fun K19 hK19 => codeW_reg ?_
          first | refine O_cons (W_it (W_fad_p rfl ?_)) | refine O_cons (W_it (W_fad_e rfl ?_)) | refine O_cons (W_it (W_fad_r rfl ?_))
          first | refine O_cons (W_it (W_load_p rfl rfl rfl rfl ?_)) | refine O_cons (W_it (W_load_r rfl rfl rfl ?_)) | refine O_cons (W_it (W_load_e rfl rfl rfl rfl rfl ?_))
          first | refine O_cons (W_it (W_fad_p rfl ?_)) | refine O_cons (W_it (W_fad_e rfl ?_)) | refine O_cons (W_it (W_fad_r rfl ?_))
          first | refine O_cons (W_it (W_load_p rfl rfl rfl rfl ?_)) | refine O_cons (W_it (W_load_r rfl rfl rfl ?_)) | refine O_cons (W_it (W_load_e rfl rfl rfl rfl rfl ?_))
          refine O_cons (W_it (W_callF (words_eq_FS _ _ ?_) [] rfl (by decide) trivial ?_))
          · omega
          rintro _ _ ⟨t68, rfl, rfl, ht68⟩
          simp only [St.put, renAV, renAC, renReg, renAVs, setAll, upF, List.map_cons, List.map_nil, List.cons_append, List.nil_append, List.append_nil, List.set_cons_zero, List.set_cons_succ, List.length_cons, List.length_nil, Nat.reduceAdd, Nat.reduceLT, Nat.reduceSub, Nat.not_lt_zero, if_false, if_true, Nat.sub_zero, Nat.add_zero, Nat.zero_add]
          cases t68
          · refine O_cons (W_it (W_mv rfl ?_))
            refine O_cons (W_gnE rfl (by first | rfl | assumption) ?_)
            refine O_cons (W_gnE rfl (by first | rfl | assumption) ?_)
            refine O_cons (W_gnE rfl (by first | rfl | assumption) ?_)
            refine O_cons (W_gnE rfl (by first | rfl | assumption) ?_)
            refine O_cons (W_gnE rfl (by first | rfl | assumption) ?_)
            first | refine O_cons (W_it (W_pickE rfl (by first | rfl | assumption) rfl ?_)) | refine O_cons (W_it (W_pickF rfl (by first | rfl | assumption) rfl ?_))
            refine O_cons (W_it (W_mv rfl ?_))
            refine O_cons (W_gnE rfl (by first | rfl | assumption) ?_)
            refine O_cons (W_gnE rfl (by first | rfl | assumption) ?_)
            refine O_cons (W_gnE rfl (by first | rfl | assumption) ?_)
            refine O_cons (W_gnE rfl (by first | rfl | assumption) ?_)
            refine O_cons (W_gnE rfl (by first | rfl | assumption) ?_)
            first | refine O_cons (W_it (W_pickE rfl (by first | rfl | assumption) rfl ?_)) | refine O_cons (W_it (W_pickF rfl (by first | rfl | assumption) rfl ?_))
            refine O_cons (W_it (W_mv rfl ?_))
            refine O_cons (W_gnE rfl (by first | rfl | assumption) ?_)
            refine O_cons (W_gnE rfl (by first | rfl | assumption) ?_)
            refine O_cons (W_gnE rfl (by first | rfl | assumption) ?_)
            refine O_cons (W_gnE rfl (by first | rfl | assumption) ?_)
            refine O_cons (W_gnE rfl (by first | rfl | assumption) ?_)
            first | refine O_cons (W_it (W_pickE rfl (by first | rfl | assumption) rfl ?_)) | refine O_cons (W_it (W_pickF rfl (by first | rfl | assumption) rfl ?_))
            refine O_cons (W_it (W_mv rfl ?_))
            refine O_cons (W_gnE rfl (by first | rfl | assumption) ?_)
            refine O_cons (W_gnE rfl (by first | rfl | assumption) ?_)
            refine O_cons (W_gnE rfl (by first | rfl | assumption) ?_)
            refine O_cons (W_gnE rfl (by first | rfl | assumption) ?_)
            refine O_cons (W_gnE rfl (by first | rfl | assumption) ?_)
            first | refine O_cons (W_it (W_pickE rfl (by first | rfl | assumption) rfl ?_)) | refine O_cons (W_it (W_pickF rfl (by first | rfl | assumption) rfl ?_))
            refine O_cons (W_it (W_mv rfl ?_))
            refine O_cons (W_gnE rfl (by first | rfl | assumption) ?_)
            refine O_cons (W_gnE rfl (by first | rfl | assumption) ?_)
            refine O_cons (W_gnE rfl (by first | rfl | assumption) ?_)
            refine O_cons (W_gnE rfl (by first | rfl | assumption) ?_)
            refine O_cons (W_gnE rfl (by first | rfl | assumption) ?_)
            first | refine O_cons (W_it (W_pickE rfl (by first | rfl | assumption) rfl ?_)) | refine O_cons (W_it (W_pickF rfl (by first | rfl | assumption) rfl ?_))
            refine O_cons (W_it (W_mv rfl ?_))
            refine O_cons (W_gnE rfl (by first | rfl | assumption) ?_)
            refine O_cons (W_gnE rfl (by first | rfl | assumption) ?_)
            refine O_cons (W_gnE rfl (by first | rfl | assumption) ?_)
            refine O_cons (W_gnE rfl (by first | rfl | assumption) ?_)
            refine O_cons (W_gnE rfl (by first | rfl | assumption) ?_)
            first | refine O_cons (W_it (W_pickE rfl (by first | rfl | assumption) rfl ?_)) | refine O_cons (W_it (W_pickF rfl (by first | rfl | assumption) rfl ?_))
            refine O_cons (W_it (W_mv rfl ?_))
            refine O_nil (hK19 _ ?_)
            clear hK19 K19
            refine codeW_ret (Fin.here (.inr rfl) ⟨_, rfl, rfl, ?_⟩)
            rw [Sta.eq_iff]
            simp_all
          · refine O_cons (W_it (W_mv rfl ?_))
            first | refine O_cons (W_gyE rfl (by first | rfl | assumption) (W_fad_p rfl ?_)) | refine O_cons (W_gyE rfl (by first | rfl | assumption) (W_fad_e rfl ?_)) | refine O_cons (W_gyE rfl (by first | rfl | assumption) (W_fad_r rfl ?_)) | refine O_cons (W_gnE rfl (by first | rfl | assumption) ?_) | refine O_cons (W_gu rfl ?_)
            first | refine O_cons (W_gyE rfl (by first | rfl | assumption) (W_load_p rfl rfl rfl rfl ?_)) | refine O_cons (W_gyE rfl (by first | rfl | assumption) (W_load_r rfl rfl rfl ?_)) | refine O_cons (W_gyE rfl (by first | rfl | assumption) (W_load_e rfl rfl rfl rfl rfl ?_)) | refine O_cons (W_gnE rfl (by first | rfl | assumption) ?_) | refine O_cons (W_gu rfl ?_)
            first | refine O_cons (W_gyE rfl (by first | rfl | assumption) (W_fad_p rfl ?_)) | refine O_cons (W_gyE rfl (by first | rfl | assumption) (W_fad_e rfl ?_)) | refine O_cons (W_gyE rfl (by first | rfl | assumption) (W_fad_r rfl ?_)) | refine O_cons (W_gnE rfl (by first | rfl | assumption) ?_) | refine O_cons (W_gu rfl ?_)
            first | refine O_cons (W_gyE rfl (by first | rfl | assumption) (W_load_p rfl rfl rfl rfl ?_)) | refine O_cons (W_gyE rfl (by first | rfl | assumption) (W_load_r rfl rfl rfl ?_)) | refine O_cons (W_gyE rfl (by first | rfl | assumption) (W_load_e rfl rfl rfl rfl rfl ?_)) | refine O_cons (W_gnE rfl (by first | rfl | assumption) ?_) | refine O_cons (W_gu rfl ?_)
            refine O_cons (W_gyE rfl (by first | rfl | assumption) (W_callF (words_eq_FS _ _ ?_) [] rfl (by decide) trivial ?_))
            · omega
            rintro _ _ ⟨t74, rfl, rfl, ht74⟩
            simp only [St.put, renAV, renAC, renReg, renAVs, setAll, upF, List.map_cons, List.map_nil, List.cons_append, List.nil_append, List.append_nil, List.set_cons_zero, List.set_cons_succ, List.length_cons, List.length_nil, Nat.reduceAdd, Nat.reduceLT, Nat.reduceSub, Nat.not_lt_zero, if_false, if_true, Nat.sub_zero, Nat.add_zero, Nat.zero_add]
            first | refine O_cons (W_it (W_pickE rfl (by first | rfl | assumption) rfl ?_)) | refine O_cons (W_it (W_pickF rfl (by first | rfl | assumption) rfl ?_))
            cases t74
            · refine O_cons (W_it (W_mv rfl ?_))
              refine O_cons (W_gnE rfl (by first | rfl | assumption) ?_)
              refine O_cons (W_gnE rfl (by first | rfl | assumption) ?_)
              refine O_cons (W_gnE rfl (by first | rfl | assumption) ?_)
              refine O_cons (W_gnE rfl (by first | rfl | assumption) ?_)
              refine O_cons (W_gnE rfl (by first | rfl | assumption) ?_)
              first | refine O_cons (W_it (W_pickE rfl (by first | rfl | assumption) rfl ?_)) | refine O_cons (W_it (W_pickF rfl (by first | rfl | assumption) rfl ?_))
              refine O_cons (W_it (W_mv rfl ?_))
              refine O_cons (W_gnE rfl (by first | rfl | assumption) ?_)
              refine O_cons (W_gnE rfl (by first | rfl | assumption) ?_)
              refine O_cons (W_gnE rfl (by first | rfl | assumption) ?_)
              refine O_cons (W_gnE rfl (by first | rfl | assumption) ?_)
              refine O_cons (W_gnE rfl (by first | rfl | assumption) ?_)
              first | refine O_cons (W_it (W_pickE rfl (by first | rfl | assumption) rfl ?_)) | refine O_cons (W_it (W_pickF rfl (by first | rfl | assumption) rfl ?_))
              refine O_cons (W_it (W_mv rfl ?_))
              refine O_cons (W_gnE rfl (by first | rfl | assumption) ?_)
              refine O_cons (W_gnE rfl (by first | rfl | assumption) ?_)
              refine O_cons (W_gnE rfl (by first | rfl | assumption) ?_)
              refine O_cons (W_gnE rfl (by first | rfl | assumption) ?_)
              refine O_cons (W_gnE rfl (by first | rfl | assumption) ?_)
              first | refine O_cons (W_it (W_pickE rfl (by first | rfl | assumption) rfl ?_)) | refine O_cons (W_it (W_pickF rfl (by first | rfl | assumption) rfl ?_))
              refine O_cons (W_it (W_mv rfl ?_))
              refine O_cons (W_gnE rfl (by first | rfl | assumption) ?_)
              refine O_cons (W_gnE rfl (by first | rfl | assumption) ?_)
              refine O_cons (W_gnE rfl (by first | rfl | assumption) ?_)
              refine O_cons (W_gnE rfl (by first | rfl | assumption) ?_)
              refine O_cons (W_gnE rfl (by first | rfl | assumption) ?_)
              first | refine O_cons (W_it (W_pickE rfl (by first | rfl | assumption) rfl ?_)) | refine O_cons (W_it (W_pickF rfl (by first | rfl | assumption) rfl ?_))
              refine O_cons (W_it (W_mv rfl ?_))
              refine O_cons (W_gnE rfl (by first | rfl | assumption) ?_)
              refine O_cons (W_gnE rfl (by first | rfl | assumption) ?_)
              refine O_cons (W_gnE rfl (by first | rfl | assumption) ?_)
              refine O_cons (W_gnE rfl (by first | rfl | assumption) ?_)
              refine O_cons (W_gnE rfl (by first | rfl | assumption) ?_)
              first | refine O_cons (W_it (W_pickE rfl (by first | rfl | assumption) rfl ?_)) | refine O_cons (W_it (W_pickF rfl (by first | rfl | assumption) rfl ?_))
              refine O_cons (W_it (W_mv rfl ?_))
              refine O_nil (hK19 _ ?_)
              clear hK19 K19
              refine codeW_ret (Fin.here (.inr rfl) ⟨_, rfl, rfl, ?_⟩)
              rw [Sta.eq_iff]
              simp_all
            · refine O_cons (W_it (W_mv rfl ?_))
              first | refine O_cons (W_gyE rfl (by first | rfl | assumption) (W_fad_p rfl ?_)) | refine O_cons (W_gyE rfl (by first | rfl | assumption) (W_fad_e rfl ?_)) | refine O_cons (W_gyE rfl (by first | rfl | assumption) (W_fad_r rfl ?_)) | refine O_cons (W_gnE rfl (by first | rfl | assumption) ?_) | refine O_cons (W_gu rfl ?_)
              first | refine O_cons (W_gyE rfl (by first | rfl | assumption) (W_load_p rfl rfl rfl rfl ?_)) | refine O_cons (W_gyE rfl (by first | rfl | assumption) (W_load_r rfl rfl rfl ?_)) | refine O_cons (W_gyE rfl (by first | rfl | assumption) (W_load_e rfl rfl rfl rfl rfl ?_)) | refine O_cons (W_gnE rfl (by first | rfl | assumption) ?_) | refine O_cons (W_gu rfl ?_)
              first | refine O_cons (W_gyE rfl (by first | rfl | assumption) (W_fad_p rfl ?_)) | refine O_cons (W_gyE rfl (by first | rfl | assumption) (W_fad_e rfl ?_)) | refine O_cons (W_gyE rfl (by first | rfl | assumption) (W_fad_r rfl ?_)) | refine O_cons (W_gnE rfl (by first | rfl | assumption) ?_) | refine O_cons (W_gu rfl ?_)
              first | refine O_cons (W_gyE rfl (by first | rfl | assumption) (W_load_p rfl rfl rfl rfl ?_)) | refine O_cons (W_gyE rfl (by first | rfl | assumption) (W_load_r rfl rfl rfl ?_)) | refine O_cons (W_gyE rfl (by first | rfl | assumption) (W_load_e rfl rfl rfl rfl rfl ?_)) | refine O_cons (W_gnE rfl (by first | rfl | assumption) ?_) | refine O_cons (W_gu rfl ?_)
              refine O_cons (W_gyE rfl (by first | rfl | assumption) (W_callF (cells_eq_FS _ _ ?_) [] rfl (by decide) trivial ?_))
              · omega
              rintro _ _ ⟨t81, rfl, rfl, ht81⟩
              simp only [St.put, renAV, renAC, renReg, renAVs, setAll, upF, List.map_cons, List.map_nil, List.cons_append, List.nil_append, List.append_nil, List.set_cons_zero, List.set_cons_succ, List.length_cons, List.length_nil, Nat.reduceAdd, Nat.reduceLT, Nat.reduceSub, Nat.not_lt_zero, if_false, if_true, Nat.sub_zero, Nat.add_zero, Nat.zero_add]
              first | refine O_cons (W_it (W_pickE rfl (by first | rfl | assumption) rfl ?_)) | refine O_cons (W_it (W_pickF rfl (by first | rfl | assumption) rfl ?_))
              cases t81
              · refine O_cons (W_it (W_mv rfl ?_))
                refine O_cons (W_gnE rfl (by first | rfl | assumption) ?_)
                refine O_cons (W_gnE rfl (by first | rfl | assumption) ?_)
                refine O_cons (W_gnE rfl (by first | rfl | assumption) ?_)
                refine O_cons (W_gnE rfl (by first | rfl | assumption) ?_)
                refine O_cons (W_gnE rfl (by first | rfl | assumption) ?_)
                first | refine O_cons (W_it (W_pickE rfl (by first | rfl | assumption) rfl ?_)) | refine O_cons (W_it (W_pickF rfl (by first | rfl | assumption) rfl ?_))
                refine O_cons (W_it (W_mv rfl ?_))
                refine O_cons (W_gnE rfl (by first | rfl | assumption) ?_)
                refine O_cons (W_gnE rfl (by first | rfl | assumption) ?_)
                refine O_cons (W_gnE rfl (by first | rfl | assumption) ?_)
                refine O_cons (W_gnE rfl (by first | rfl | assumption) ?_)
                refine O_cons (W_gnE rfl (by first | rfl | assumption) ?_)
                first | refine O_cons (W_it (W_pickE rfl (by first | rfl | assumption) rfl ?_)) | refine O_cons (W_it (W_pickF rfl (by first | rfl | assumption) rfl ?_))
                refine O_cons (W_it (W_mv rfl ?_))
                refine O_cons (W_gnE rfl (by first | rfl | assumption) ?_)
                refine O_cons (W_gnE rfl (by first | rfl | assumption) ?_)
                refine O_cons (W_gnE rfl (by first | rfl | assumption) ?_)
                refine O_cons (W_gnE rfl (by first | rfl | assumption) ?_)
                refine O_cons (W_gnE rfl (by first | rfl | assumption) ?_)
                first | refine O_cons (W_it (W_pickE rfl (by first | rfl | assumption) rfl ?_)) | refine O_cons (W_it (W_pickF rfl (by first | rfl | assumption) rfl ?_))
                refine O_cons (W_it (W_mv rfl ?_))
                refine O_cons (W_gnE rfl (by first | rfl | assumption) ?_)
                refine O_cons (W_gnE rfl (by first | rfl | assumption) ?_)
                refine O_cons (W_gnE rfl (by first | rfl | assumption) ?_)
                refine O_cons (W_gnE rfl (by first | rfl | assumption) ?_)
                refine O_cons (W_gnE rfl (by first | rfl | assumption) ?_)
                first | refine O_cons (W_it (W_pickE rfl (by first | rfl | assumption) rfl ?_)) | refine O_cons (W_it (W_pickF rfl (by first | rfl | assumption) rfl ?_))
                refine O_cons (W_it (W_mv rfl ?_))
                refine O_nil (hK19 _ ?_)
                clear hK19 K19
                refine codeW_ret (Fin.here (.inr rfl) ⟨_, rfl, rfl, ?_⟩)
                rw [Sta.eq_iff]
                simp_all
              · refine O_cons (W_it (W_mv rfl ?_))
                first | refine O_cons (W_gyE rfl (by first | rfl | assumption) (W_fad_p rfl ?_)) | refine O_cons (W_gyE rfl (by first | rfl | assumption) (W_fad_e rfl ?_)) | refine O_cons (W_gyE rfl (by first | rfl | assumption) (W_fad_r rfl ?_)) | refine O_cons (W_gnE rfl (by first | rfl | assumption) ?_) | refine O_cons (W_gu rfl ?_)
                first | refine O_cons (W_gyE rfl (by first | rfl | assumption) (W_load_p rfl rfl rfl rfl ?_)) | refine O_cons (W_gyE rfl (by first | rfl | assumption) (W_load_r rfl rfl rfl ?_)) | refine O_cons (W_gyE rfl (by first | rfl | assumption) (W_load_e rfl rfl rfl rfl rfl ?_)) | refine O_cons (W_gnE rfl (by first | rfl | assumption) ?_) | refine O_cons (W_gu rfl ?_)
                first | refine O_cons (W_gyE rfl (by first | rfl | assumption) (W_fad_p rfl ?_)) | refine O_cons (W_gyE rfl (by first | rfl | assumption) (W_fad_e rfl ?_)) | refine O_cons (W_gyE rfl (by first | rfl | assumption) (W_fad_r rfl ?_)) | refine O_cons (W_gnE rfl (by first | rfl | assumption) ?_) | refine O_cons (W_gu rfl ?_)
                first | refine O_cons (W_gyE rfl (by first | rfl | assumption) (W_load_p rfl rfl rfl rfl ?_)) | refine O_cons (W_gyE rfl (by first | rfl | assumption) (W_load_r rfl rfl rfl ?_)) | refine O_cons (W_gyE rfl (by first | rfl | assumption) (W_load_e rfl rfl rfl rfl rfl ?_)) | refine O_cons (W_gnE rfl (by first | rfl | assumption) ?_) | refine O_cons (W_gu rfl ?_)
                refine O_cons (W_gyE rfl (by first | rfl | assumption) (W_callF (ints_eq_FS _ _ ?_) [] rfl (by decide) trivial ?_))
                · omega
                rintro _ _ ⟨t88, rfl, rfl, ht88⟩
                simp only [St.put, renAV, renAC, renReg, renAVs, setAll, upF, List.map_cons, List.map_nil, List.cons_append, List.nil_append, List.append_nil, List.set_cons_zero, List.set_cons_succ, List.length_cons, List.length_nil, Nat.reduceAdd, Nat.reduceLT, Nat.reduceSub, Nat.not_lt_zero, if_false, if_true, Nat.sub_zero, Nat.add_zero, Nat.zero_add]
                first | refine O_cons (W_it (W_pickE rfl (by first | rfl | assumption) rfl ?_)) | refine O_cons (W_it (W_pickF rfl (by first | rfl | assumption) rfl ?_))
                cases t88
                · refine O_cons (W_it (W_mv rfl ?_))
                  refine O_cons (W_gnE rfl (by first | rfl | assumption) ?_)
                  refine O_cons (W_gnE rfl (by first | rfl | assumption) ?_)
                  refine O_cons (W_gnE rfl (by first | rfl | assumption) ?_)
                  refine O_cons (W_gnE rfl (by first | rfl | assumption) ?_)
                  refine O_cons (W_gnE rfl (by first | rfl | assumption) ?_)
                  first | refine O_cons (W_it (W_pickE rfl (by first | rfl | assumption) rfl ?_)) | refine O_cons (W_it (W_pickF rfl (by first | rfl | assumption) rfl ?_))
                  refine O_cons (W_it (W_mv rfl ?_))
                  refine O_cons (W_gnE rfl (by first | rfl | assumption) ?_)
                  refine O_cons (W_gnE rfl (by first | rfl | assumption) ?_)
                  refine O_cons (W_gnE rfl (by first | rfl | assumption) ?_)
                  refine O_cons (W_gnE rfl (by first | rfl | assumption) ?_)
                  refine O_cons (W_gnE rfl (by first | rfl | assumption) ?_)
                  first | refine O_cons (W_it (W_pickE rfl (by first | rfl | assumption) rfl ?_)) | refine O_cons (W_it (W_pickF rfl (by first | rfl | assumption) rfl ?_))
                  refine O_cons (W_it (W_mv rfl ?_))
                  refine O_cons (W_gnE rfl (by first | rfl | assumption) ?_)
                  refine O_cons (W_gnE rfl (by first | rfl | assumption) ?_)
                  refine O_cons (W_gnE rfl (by first | rfl | assumption) ?_)
                  refine O_cons (W_gnE rfl (by first | rfl | assumption) ?_)
                  refine O_cons (W_gnE rfl (by first | rfl | assumption) ?_)
                  first | refine O_cons (W_it (W_pickE rfl (by first | rfl | assumption) rfl ?_)) | refine O_cons (W_it (W_pickF rfl (by first | rfl | assumption) rfl ?_))
                  refine O_cons (W_it (W_mv rfl ?_))
                  refine O_nil (hK19 _ ?_)
                  clear hK19 K19
                  refine codeW_ret (Fin.here (.inr rfl) ⟨_, rfl, rfl, ?_⟩)
                  rw [Sta.eq_iff]
                  simp_all
                · refine O_cons (W_it (W_mv rfl ?_))
                  first | refine O_cons (W_gyE rfl (by first | rfl | assumption) (W_fad_p rfl ?_)) | refine O_cons (W_gyE rfl (by first | rfl | assumption) (W_fad_e rfl ?_)) | refine O_cons (W_gyE rfl (by first | rfl | assumption) (W_fad_r rfl ?_)) | refine O_cons (W_gnE rfl (by first | rfl | assumption) ?_) | refine O_cons (W_gu rfl ?_)
                  first | refine O_cons (W_gyE rfl (by first | rfl | assumption) (W_load_p rfl rfl rfl rfl ?_)) | refine O_cons (W_gyE rfl (by first | rfl | assumption) (W_load_r rfl rfl rfl ?_)) | refine O_cons (W_gyE rfl (by first | rfl | assumption) (W_load_e rfl rfl rfl rfl rfl ?_)) | refine O_cons (W_gnE rfl (by first | rfl | assumption) ?_) | refine O_cons (W_gu rfl ?_)
                  first | refine O_cons (W_gyE rfl (by first | rfl | assumption) (W_fad_p rfl ?_)) | refine O_cons (W_gyE rfl (by first | rfl | assumption) (W_fad_e rfl ?_)) | refine O_cons (W_gyE rfl (by first | rfl | assumption) (W_fad_r rfl ?_)) | refine O_cons (W_gnE rfl (by first | rfl | assumption) ?_) | refine O_cons (W_gu rfl ?_)
                  first | refine O_cons (W_gyE rfl (by first | rfl | assumption) (W_load_p rfl rfl rfl rfl ?_)) | refine O_cons (W_gyE rfl (by first | rfl | assumption) (W_load_r rfl rfl rfl ?_)) | refine O_cons (W_gyE rfl (by first | rfl | assumption) (W_load_e rfl rfl rfl rfl rfl ?_)) | refine O_cons (W_gnE rfl (by first | rfl | assumption) ?_) | refine O_cons (W_gu rfl ?_)
                  first | refine O_cons (W_gyE rfl (by first | rfl | assumption) (W_eql rfl rfl ?_)) | refine O_cons (W_gnE rfl (by first | rfl | assumption) ?_) | refine O_cons (W_gu rfl ?_)
                  first | refine O_cons (W_it (W_pickE rfl (by first | rfl | assumption) rfl ?_)) | refine O_cons (W_it (W_pickF rfl (by first | rfl | assumption) rfl ?_))
                  rcases Bool.eq_false_or_eq_true (decide (a.epoch = b.epoch)) with hf | hf
                  · refine O_cons (W_it (W_mv rfl ?_))
                    first | refine O_cons (W_gyE rfl (by first | rfl | assumption) (W_fad_p rfl ?_)) | refine O_cons (W_gyE rfl (by first | rfl | assumption) (W_fad_e rfl ?_)) | refine O_cons (W_gyE rfl (by first | rfl | assumption) (W_fad_r rfl ?_)) | refine O_cons (W_gnE rfl (by first | rfl | assumption) ?_) | refine O_cons (W_gu rfl ?_)
                    first | refine O_cons (W_gyE rfl (by first | rfl | assumption) (W_load_p rfl rfl rfl rfl ?_)) | refine O_cons (W_gyE rfl (by first | rfl | assumption) (W_load_r rfl rfl rfl ?_)) | refine O_cons (W_gyE rfl (by first | rfl | assumption) (W_load_e rfl rfl rfl rfl rfl ?_)) | refine O_cons (W_gnE rfl (by first | rfl | assumption) ?_) | refine O_cons (W_gu rfl ?_)
                    first | refine O_cons (W_gyE rfl (by first | rfl | assumption) (W_fad_p rfl ?_)) | refine O_cons (W_gyE rfl (by first | rfl | assumption) (W_fad_e rfl ?_)) | refine O_cons (W_gyE rfl (by first | rfl | assumption) (W_fad_r rfl ?_)) | refine O_cons (W_gnE rfl (by first | rfl | assumption) ?_) | refine O_cons (W_gu rfl ?_)
                    first | refine O_cons (W_gyE rfl (by first | rfl | assumption) (W_load_p rfl rfl rfl rfl ?_)) | refine O_cons (W_gyE rfl (by first | rfl | assumption) (W_load_r rfl rfl rfl ?_)) | refine O_cons (W_gyE rfl (by first | rfl | assumption) (W_load_e rfl rfl rfl rfl rfl ?_)) | refine O_cons (W_gnE rfl (by first | rfl | assumption) ?_) | refine O_cons (W_gu rfl ?_)
                    refine O_cons (W_gyE rfl (by first | rfl | assumption) (W_callF (nums_eq_FS _ _ ?_) [] rfl (by decide) trivial ?_))
                    · omega
                    rintro _ _ ⟨t102, rfl, rfl, ht102⟩
                    simp only [St.put, renAV, renAC, renReg, renAVs, setAll, upF, List.map_cons, List.map_nil, List.cons_append, List.nil_append, List.append_nil, List.set_cons_zero, List.set_cons_succ, List.length_cons, List.length_nil, Nat.reduceAdd, Nat.reduceLT, Nat.reduceSub, Nat.not_lt_zero, if_false, if_true, Nat.sub_zero, Nat.add_zero, Nat.zero_add]
                    first | refine O_cons (W_it (W_pickE rfl (by first | rfl | assumption) rfl ?_)) | refine O_cons (W_it (W_pickF rfl (by first | rfl | assumption) rfl ?_))
                    cases t102
                    · refine O_cons (W_it (W_mv rfl ?_))
                      refine O_cons (W_gnE rfl (by first | rfl | assumption) ?_)
                      refine O_cons (W_gnE rfl (by first | rfl | assumption) ?_)
                      refine O_cons (W_gnE rfl (by first | rfl | assumption) ?_)
                      refine O_cons (W_gnE rfl (by first | rfl | assumption) ?_)
                      refine O_cons (W_gnE rfl (by first | rfl | assumption) ?_)
                      first | refine O_cons (W_it (W_pickE rfl (by first | rfl | assumption) rfl ?_)) | refine O_cons (W_it (W_pickF rfl (by first | rfl | assumption) rfl ?_))
                      refine O_cons (W_it (W_mv rfl ?_))
                      refine O_nil (hK19 _ ?_)
                      clear hK19 K19
                      refine codeW_ret (Fin.here (.inr rfl) ⟨_, rfl, rfl, ?_⟩)
                      rw [Sta.eq_iff]
                      simp_all
                    · refine O_cons (W_it (W_mv rfl ?_))
                      first | refine O_cons (W_gyE rfl (by first | rfl | assumption) (W_fad_p rfl ?_)) | refine O_cons (W_gyE rfl (by first | rfl | assumption) (W_fad_e rfl ?_)) | refine O_cons (W_gyE rfl (by first | rfl | assumption) (W_fad_r rfl ?_)) | refine O_cons (W_gnE rfl (by first | rfl | assumption) ?_) | refine O_cons (W_gu rfl ?_)
                      first | refine O_cons (W_gyE rfl (by first | rfl | assumption) (W_load_p rfl rfl rfl rfl ?_)) | refine O_cons (W_gyE rfl (by first | rfl | assumption) (W_load_r rfl rfl rfl ?_)) | refine O_cons (W_gyE rfl (by first | rfl | assumption) (W_load_e rfl rfl rfl rfl rfl ?_)) | refine O_cons (W_gnE rfl (by first | rfl | assumption) ?_) | refine O_cons (W_gu rfl ?_)
                      first | refine O_cons (W_gyE rfl (by first | rfl | assumption) (W_fad_p rfl ?_)) | refine O_cons (W_gyE rfl (by first | rfl | assumption) (W_fad_e rfl ?_)) | refine O_cons (W_gyE rfl (by first | rfl | assumption) (W_fad_r rfl ?_)) | refine O_cons (W_gnE rfl (by first | rfl | assumption) ?_) | refine O_cons (W_gu rfl ?_)
                      first | refine O_cons (W_gyE rfl (by first | rfl | assumption) (W_load_p rfl rfl rfl rfl ?_)) | refine O_cons (W_gyE rfl (by first | rfl | assumption) (W_load_r rfl rfl rfl ?_)) | refine O_cons (W_gyE rfl (by first | rfl | assumption) (W_load_e rfl rfl rfl rfl rfl ?_)) | refine O_cons (W_gnE rfl (by first | rfl | assumption) ?_) | refine O_cons (W_gu rfl ?_)
                      refine O_cons (W_gyE rfl (by first | rfl | assumption) (W_callF (nums_eq_FS _ _ ?_) [] rfl (by decide) trivial ?_))
                      · omega
                      rintro _ _ ⟨t109, rfl, rfl, ht109⟩
                      simp only [St.put, renAV, renAC, renReg, renAVs, setAll, upF, List.map_cons, List.map_nil, List.cons_append, List.nil_append, List.append_nil, List.set_cons_zero, List.set_cons_succ, List.length_cons, List.length_nil, Nat.reduceAdd, Nat.reduceLT, Nat.reduceSub, Nat.not_lt_zero, if_false, if_true, Nat.sub_zero, Nat.add_zero, Nat.zero_add]
                      first | refine O_cons (W_it (W_pickE rfl (by first | rfl | assumption) rfl ?_)) | refine O_cons (W_it (W_pickF rfl (by first | rfl | assumption) rfl ?_))
                      refine O_cons (W_it (W_mv rfl ?_))
                      refine O_nil (hK19 _ ?_)
                      clear hK19 K19
                      refine codeW_ret (Fin.here (.inr rfl) ⟨_, rfl, rfl, ?_⟩)
                      rw [Sta.eq_iff]
                      simp_all
                  · refine O_cons (W_it (W_mv rfl ?_))
                    refine O_cons (W_gnE rfl (by first | rfl | assumption) ?_)
                    refine O_cons (W_gnE rfl (by first | rfl | assumption) ?_)
                    refine O_cons (W_gnE rfl (by first | rfl | assumption) ?_)
                    refine O_cons (W_gnE rfl (by first | rfl | assumption) ?_)
                    refine O_cons (W_gnE rfl (by first | rfl | assumption) ?_)
                    first | refine O_cons (W_it (W_pickE rfl (by first | rfl | assumption) rfl ?_)) | refine O_cons (W_it (W_pickF rfl (by first | rfl | assumption) rfl ?_))
                    refine O_cons (W_it (W_mv rfl ?_))
                    refine O_cons (W_gnE rfl (by first | rfl | assumption) ?_)
                    refine O_cons (W_gnE rfl (by first | rfl | assumption) ?_)
                    refine O_cons (W_gnE rfl (by first | rfl | assumption) ?_)
                    refine O_cons (W_gnE rfl (by first | rfl | assumption) ?_)
                    refine O_cons (W_gnE rfl (by first | rfl | assumption) ?_)
                    first | refine O_cons (W_it (W_pickE rfl (by first | rfl | assumption) rfl ?_)) | refine O_cons (W_it (W_pickF rfl (by first | rfl | assumption) rfl ?_))
                    refine O_cons (W_it (W_mv rfl ?_))
                    refine O_nil (hK19 _ ?_)
                    clear hK19 K19
                    refine codeW_ret (Fin.here (.inr rfl) ⟨_, rfl, rfl, ?_⟩)
                    rw [Sta.eq_iff]
                    simp_all

end Go.Sim
