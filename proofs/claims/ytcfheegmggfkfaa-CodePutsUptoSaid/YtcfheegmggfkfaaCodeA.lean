import Derived.Test.YtcfheegmggfkfaaSimT
import Derived.Test.YtcfheegmggfkfaaChecked
import Derived.KernelRfl
namespace Go.Sim
open Go.RowKit Go.Proofs.Ytcfheegmggfkfaa.B Go.Proofs
set_option maxRecDepth 100000
set_option linter.unusedSimpArgs false
set_option linter.unusedVariables false

def ac53 : ACode := (.seq (.reg [⟨none, (some 6), (.mv (some 6) (.k (.slice none 0 0)))⟩]) (.seq (.seq (.reg [⟨none, (some 10), (.mv (some 10) (.t 2))⟩, ⟨none, (some 11), (.bin (some 11) .lss (.t 10) (.k (.int .i64 1)))⟩, ⟨none, (some 12), (.mv (some 12) (.t 11))⟩, ⟨(some (12, false)), (some 13), (.mv (some 13) (.t 2))⟩, ⟨(some (12, false)), (some 14), (.bin (some 14) .gtr (.t 13) (.k (.int .i64 8)))⟩, ⟨none, (some 15), (.pick (some 15) (.t 12) (.k (.bool true)) (.t 14))⟩]) (.cond (.t 15) (.seq (.reg [⟨none, (some 16), (.mv (some 16) (.t 0))⟩, ⟨none, (some 6), (.mv (some 6) (.t 16))⟩]) .ret) .skip)) (.seq (.reg [⟨none, (some 7), (.allocA (some 7) 1 8 [(.int .u8 0)])⟩]) (.seq (.reg [⟨none, (some 17), (.mv (some 17) (.t 1))⟩, ⟨none, (some 18), (.cvi (some 18) .u64 (.t 17))⟩, ⟨none, (some 8), (.mv (some 8) (.t 18))⟩]) (.seq (.seq (.reg [⟨none, (some 19), (.mv (some 19) (.t 2))⟩, ⟨none, (some 20), (.mv (some 20) (.k (.int .i64 0)))⟩]) (.block 0 (.loop (.seq (.reg [⟨none, (some 21), (.bin (some 21) .lss (.t 20) (.t 19))⟩]) (.seq (.cond (.t 21) .skip (.exit 0)) (.seq (.block 1 (.seq (.reg [⟨none, (some 22), (.mv (some 22) (.t 20))⟩, ⟨none, (some 9), (.mv (some 9) (.t 22))⟩]) (.seq (.reg [⟨none, (some 23), (.mv (some 23) (.t 2))⟩, ⟨none, (some 24), (.bin (some 24) .sub (.t 23) (.k (.int .i64 1)))⟩, ⟨none, (some 25), (.mv (some 25) (.t 9))⟩, ⟨none, (some 26), (.bin (some 26) .sub (.t 24) (.t 25))⟩, ⟨none, (some 27), (.mv (some 27) (.t 8))⟩, ⟨none, (some 28), (.cvi (some 28) .u8 (.t 27))⟩, ⟨none, (some 29), (.ixa (some 29) 8 1 (.t 7) (.t 26))⟩, ⟨none, none, (.store 1 (.t 29) (.t 28))⟩]) (.reg [⟨none, (some 30), (.mv (some 30) (.t 8))⟩, ⟨none, (some 31), (.bin (some 31) .shr (.t 30) (.k (.int .u64 8)))⟩, ⟨none, (some 8), (.mv (some 8) (.t 31))⟩])))) (.reg [⟨none, (some 32), (.bin (some 32) .add (.t 20) (.k (.int .i64 1)))⟩, ⟨none, (some 20), (.mv (some 20) (.t 32))⟩]))))))) (.seq (.reg [⟨none, (some 33), (.mv (some 33) (.t 0))⟩, ⟨none, (some 34), (.mv (some 34) (.t 0))⟩, ⟨none, (some 35), (.len (some 35) (.t 34))⟩, ⟨none, (some 36), (.mv (some 36) (.t 0))⟩, ⟨none, (some 37), (.len (some 37) (.t 36))⟩, ⟨none, (some 38), (.sls (some 38) 1 (.t 33) none (some (.t 35)) (some (.t 37)))⟩, ⟨none, (some 39), (.mv (some 39) (.t 2))⟩, ⟨none, (some 40), (.sla (some 40) 8 1 (.t 7) none (some (.t 39)) none)⟩, ⟨none, (some 41), (.app (some 41) 1 1 (.t 38) (.t 40))⟩, ⟨none, (some 6), (.mv (some 6) (.t 41))⟩]) .ret))))))
theorem tr53 : ((Try.f53.name == "runtime.NumGoroutine") = false ∧ Try.f53.results = ([6].map ResultVar.tmp).toArray) ∧ Try.f53.ntmps = 42 ∧ (Try.f53.body.bind (trCode Try.prog Try.f53.ntmps)) = some ac53 := ⟨⟨by kernel_rfl, by kernel_rfl⟩, by kernel_rfl, by kernel_rfl⟩

theorem wrap64_id {a : Int} (h0 : -9223372036854775808 ≤ a) (h1 : a < 9223372036854775808) : IntKind.i64.wrap a = a := by
  simp [IntKind.wrap, IntKind.bits, IntKind.signed]; omega
def be8 (n : Nat) (v : Int) : Nat → List (List PV)
  | 0 => List.replicate 8 [.v (.int .u8 0)]
  | i + 1 => (be8 n v i).set (n - 1 - i) [.v (.int .u8 (IntKind.u8.wrap (v / 256 ^ i)))]
theorem be8_one (n : Nat) (v : Int) : ∀ (i j : Nat), j < 8 → ∃ y, (be8 n v i)[j]? = some [y]
  | 0, j, h => ⟨_, by simp only [be8]; exact List.getElem?_replicate_of_lt h⟩
  | i + 1, j, h => by
    obtain ⟨y, hy⟩ := be8_one n v i j h
    by_cases e : n - 1 - i = j
    · subst e
      exact ⟨_, by rw [be8, List.getElem?_set_self (List.getElem?_eq_some_iff.1 hy).1]⟩
    · exact ⟨y, by rw [be8, List.getElem?_set_ne e]; exact hy⟩
theorem be8_len (n : Nat) (v : Int) : ∀ i : Nat, (be8 n v i).length = 8
  | 0 => rfl
  | i + 1 => by rw [be8, List.length_set, be8_len n v i]
def putB (bs : List (List PV)) (x n : Int) : List (List PV) :=
  if n < 1 ∨ 8 < n then bs else bs ++ (be8 n.toNat (IntKind.u64.wrap x) n.toNat).take n.toNat

theorem put_FS (bs : List (List PV)) (x n : Int) (hb : bs.length ≤ 1000000000) :
    FS Try.prog 53 [.c (.p (.sl 1 bs)), .c (.p (.v (.int .i64 x))), .c (.p (.v (.int .i64 n)))] [] fun res rg => res = .c (.p (.sl 1 (putB bs x n))) ∧ rg = [] := by
  refine FS_def [6] 42 Try.func53 tr53 rfl ?_
  unfold ac53
  refine codeW_seq fun K hK => codeW_reg ?_
  refine O_cons (W_it (W_mv rfl ?_))
  refine O_nil (hK _ ?_)
  clear hK K
  refine codeW_seq fun K hK => ?_
  refine codeW_seq fun K1 hK1 => codeW_reg ?_
  refine O_cons (W_it (W_mv rfl ?_))
  refine O_cons (W_it (W_lss rfl rfl ?_))
  refine O_cons (W_it (W_mv rfl ?_))
  by_cases h1 : n < 1
  · simp only [h1, decide_true]
    refine O_cons (W_gn rfl rfl ?_)
    refine O_cons (W_gn rfl rfl ?_)
    refine O_cons (W_it (W_pickt rfl rfl ?_))
    refine O_nil (hK1 _ ?_)
    refine codeW_cond rfl (fun h => ?_) (fun h => Bool.noConfusion h)
    refine codeW_seq fun K2 hK2 => codeW_reg ?_
    refine O_cons (W_it (W_mv rfl ?_))
    refine O_cons (W_it (W_mv rfl ?_))
    refine O_nil (hK2 _ ?_)
    refine codeW_ret (Fin.here (.inr rfl) ⟨?_, rfl⟩)
    show AV.c (.p (.sl 1 bs)) = _
    rw [putB, if_pos (.inl h1)]
  simp only [h1, decide_false]
  refine O_cons (W_gy rfl (W_mv rfl ?_))
  refine O_cons (W_gy rfl (W_gtr rfl rfl ?_))
  refine O_cons (W_it (W_pickf rfl rfl ?_))
  refine O_nil (hK1 _ ?_)
  clear hK1 K1
  refine codeW_cond rfl (fun h => ?_) (fun h => ?_)
  · refine codeW_seq fun K2 hK2 => codeW_reg ?_
    refine O_cons (W_it (W_mv rfl ?_))
    refine O_cons (W_it (W_mv rfl ?_))
    refine O_nil (hK2 _ ?_)
    refine codeW_ret (Fin.here (.inr rfl) ⟨?_, rfl⟩)
    show AV.c (.p (.sl 1 bs)) = _
    rw [putB, if_pos (.inr (of_decide_eq_true h))]
  refine codeW_skip (hK _ ?_)
  clear hK K
  have h2 : ¬ 8 < n := of_decide_eq_false h
  refine codeW_seq fun K hK => codeW_reg ?_
  refine O_cons (W_it (W_allocA ?_))
  refine O_nil (hK _ ?_)
  clear hK K
  refine codeW_seq fun K hK => codeW_reg ?_
  refine O_cons (W_it (W_mv rfl ?_))
  refine O_cons (W_it (W_cvi rfl ?_))
  refine O_cons (W_it (W_mv rfl ?_))
  refine O_nil (hK _ ?_)
  clear hK K
  refine codeW_seq fun K hK => ?_
  refine codeW_seq fun K1 hK1 => codeW_reg ?_
  refine O_cons (W_it (W_mv rfl ?_))
  refine O_cons (W_it (W_mv rfl ?_))
  refine O_nil (hK1 _ ?_)
  clear hK1 K1
  refine codeW_block ?_
  refine codeW_weak (s' := ⟨[(20, .c (.p (.v (.int .i64 0)))), (19, .c (.p (.v (.int .i64 n)))), (8, .c (.p (.v (.int .u64 (IntKind.u64.wrap x))))), (7, .c (.ept 0 1 0 0)), (2, .c (.p (.v (.int .i64 n)))), (0, .c (.p (.sl 1 bs)))], [.pc 1 (List.replicate 8 [.v (.int .u8 0)])]⟩)
    (Weak.ren [0] rfl (by decide) ⟨.inr rfl, trivial⟩ ⟨rfl, rfl, rfl, rfl, rfl, rfl, trivial⟩) ?_
  obtain ⟨m, rfl⟩ := Int.eq_ofNat_of_zero_le (show 0 ≤ n by omega)
  have hm8 : m ≤ 8 := by omega
  have hm1 : 1 ≤ m := by omega
  refine codeW_loop (fun k s => ∃ i : Nat, i + k = m ∧ s = ⟨[(20, .c (.p (.v (.int .i64 (i : Int))))), (19, .c (.p (.v (.int .i64 (m : Int))))), (8, .c (.p (.v (.int .u64 (IntKind.u64.wrap x / 256 ^ i))))), (7, .c (.ept 0 1 0 0)), (2, .c (.p (.v (.int .i64 (m : Int))))), (0, .c (.p (.sl 1 bs)))], [.pc 1 (be8 m (IntKind.u64.wrap x) i)]⟩) m ⟨0, by omega, by simp [be8]⟩ ?_
  rintro k s ⟨i, hik, rfl⟩ K1 hK1
  refine codeW_seq fun K2 hK2 => codeW_reg ?_
  refine O_cons (W_it (W_lss rfl rfl ?_))
  refine O_nil (hK2 _ ?_)
  clear hK2 K2
  refine codeW_seq fun K2 hK2 => ?_
  refine codeW_cond rfl (fun h => ?_) (fun h => ?_)
  · refine codeW_skip (hK2 _ ?_)
    clear hK2 K2
    have hi : i < m := by have := of_decide_eq_true h; omega
    refine codeW_seq fun K2 hK2 => ?_
    refine codeW_block ?_
    refine codeW_seq fun K3 hK3 => codeW_reg ?_
    refine O_cons (W_it (W_mv rfl ?_))
    refine O_cons (W_it (W_mv rfl ?_))
    refine O_nil (hK3 _ ?_)
    clear hK3 K3
    refine codeW_seq fun K3 hK3 => codeW_reg ?_
    refine O_cons (W_it (W_mv rfl ?_))
    refine O_cons (W_it (W_sub rfl rfl ?_))
    refine O_cons (W_it (W_mv rfl ?_))
    refine O_cons (W_it (W_sub rfl rfl ?_))
    refine O_cons (W_it (W_mv rfl ?_))
    refine O_cons (W_it (W_cvi rfl ?_))
    have e1 : IntKind.i64.wrap (IntKind.i64.wrap ((m : Int) - 1) - (i : Int)) = ((m - 1 - i : Nat) : Int) := by
      rw [wrap64_id (a := (m : Int) - 1) (by omega) (by omega), wrap64_id (by omega) (by omega)]; omega
    rw [e1]
    refine O_cons (W_it (W_ixa_e rfl rfl (by omega) (by omega) ?_))
    rw [Int.toNat_natCast, Nat.zero_add]
    obtain ⟨y, hy⟩ := be8_one m (IntKind.u64.wrap x) i (m - 1 - i) (by omega)
    refine O_cons (W_it (W_store_e rfl rfl rfl hy rfl rfl rfl ?_))
    refine O_nil (hK3 _ ?_)
    clear hK3 K3
    refine codeW_reg ?_
    refine O_cons (W_it (W_mv rfl ?_))
    refine O_cons (W_it (W_shr rfl rfl (by decide) ?_))
    refine O_cons (W_it (W_mv rfl ?_))
    refine O_nil (hK2 _ ?_)
    clear hK2 K2
    refine codeW_reg ?_
    refine O_cons (W_it (W_add rfl rfl ?_))
    refine O_cons (W_it (W_mv rfl ?_))
    refine O_nil (hK1 _ ⟨k - 1, _, by omega, ?_, i + 1, by omega, rfl⟩)
    refine Weak.ren [0] rfl (by decide) ⟨.inr rfl, trivial⟩ ⟨?_, rfl, ?_, rfl, rfl, rfl, trivial⟩
    · show AV.c (.p (.v (.int .i64 (IntKind.i64.wrap ((i : Int) + 1))))) = _
      rw [wrap64_id (by omega) (by omega)]
      rfl
    · show AV.c (.p (.v (.int .u64 (IntKind.u64.wrap x / 256 ^ i / 2 ^ min (8 : Int).toNat IntKind.u64.bits)))) = _
      rw [Int.ediv_ediv_of_nonneg (Int.pow_nonneg (by decide))]
      rw [Int.pow_succ]
      rfl
  · refine codeW_exit ?_
    have hi : i = m := by have := of_decide_eq_false h; omega
    subst hi
    refine (hK _ ?_ : K _)
    clear hK hK1 hK2 K K1 K2
    have hlt : ((be8 i (IntKind.u64.wrap x) i).take i).length = i := by rw [List.length_take, be8_len]; omega
    refine codeW_seq fun K hK => codeW_reg ?_
    refine O_cons (W_it (W_mv rfl ?_))
    refine O_cons (W_it (W_mv rfl ?_))
    refine O_cons (W_it (W_len rfl ?_))
    refine O_cons (W_it (W_mv rfl ?_))
    refine O_cons (W_it (W_len rfl ?_))
    refine O_cons (W_it (W_sls_tf rfl rfl rfl rfl rfl ?_))
    refine O_cons (W_it (W_mv rfl ?_))
    refine O_cons (W_it (W_sla_e0 rfl rfl rfl hm8 ?_))
    refine O_cons (W_it (W_app_t rfl rfl rfl (.inr rfl) ?_ ?_ ?_ ?_ ?_))
    · simp only [List.drop_zero, hlt]
    · omega
    · omega
    · omega
    refine O_cons (W_it (W_mv rfl ?_))
    refine O_nil (hK _ ?_)
    clear hK K
    rw [List.drop_zero]
    refine codeW_weak (s' := ⟨[(6, .c (.p (.sl 1 (bs ++ (be8 i (IntKind.u64.wrap x) i).take i))))], [.pc 1 (be8 i (IntKind.u64.wrap x) i), .dead]⟩)
      (Weak.freeze 1 1 _ rfl (by simp only [List.length_append, hlt]; omega) ⟨.inr ⟨0, _, _, rfl, ?_, ?_⟩, trivial⟩ ⟨rfl, rfl, trivial⟩) ?_
    · simp only [List.length_append, hlt]; omega
    · have e : (bs ++ (be8 i (IntKind.u64.wrap x) i).take i).take (bs.length + i) = bs ++ (be8 i (IntKind.u64.wrap x) i).take i := List.take_of_length_le (by simp only [List.length_append, hlt]; omega)
      rw [List.drop_zero, e]
    refine codeW_weak (s' := ⟨[(6, .c (.p (.sl 1 (bs ++ (be8 i (IntKind.u64.wrap x) i).take i))))], []⟩) (Weak.ren [] rfl (by decide) trivial ⟨rfl, trivial⟩) ?_
    refine codeW_ret (Fin.here (.inr rfl) ⟨?_, rfl⟩)
    show AV.c (.p (.sl 1 _)) = _
    rw [putB, if_neg (by omega), Int.toNat_natCast]
theorem put_own_FS (bs : List (List PV)) (x : Int) (m : Nat) (hm1 : 1 ≤ m) (hm8 : m ≤ 8) (hb : bs.length ≤ 1000000000) :
    FS Try.prog 53 [.c (.p (.sl 1 bs)), .c (.p (.v (.int .i64 x))), .c (.p (.v (.int .i64 (m : Int))))] [] fun res rg => res = .c (.own 0 0 1 (bs.length + m) .free) ∧ rg = [.pc 1 (bs ++ (be8 m (IntKind.u64.wrap x) m).take m)] := by
  refine FS_def [6] 42 Try.func53 tr53 rfl ?_
  unfold ac53
  refine codeW_seq fun K hK => codeW_reg ?_
  refine O_cons (W_it (W_mv rfl ?_))
  refine O_nil (hK _ ?_)
  clear hK K
  refine codeW_seq fun K hK => ?_
  refine codeW_seq fun K1 hK1 => codeW_reg ?_
  refine O_cons (W_it (W_mv rfl ?_))
  refine O_cons (W_it (W_lss rfl rfl ?_))
  refine O_cons (W_it (W_mv rfl ?_))
  have h1 : ¬ ((m : Int) < 1) := by omega
  simp only [h1, decide_false]
  refine O_cons (W_gy rfl (W_mv rfl ?_))
  refine O_cons (W_gy rfl (W_gtr rfl rfl ?_))
  refine O_cons (W_it (W_pickf rfl rfl ?_))
  refine O_nil (hK1 _ ?_)
  clear hK1 K1
  refine codeW_cond rfl (fun h => ?_) (fun h => ?_)
  · exact absurd (of_decide_eq_true h) (by omega)
  refine codeW_skip (hK _ ?_)
  clear hK K
  have h2 : ¬ 8 < (m : Int) := of_decide_eq_false h
  refine codeW_seq fun K hK => codeW_reg ?_
  refine O_cons (W_it (W_allocA ?_))
  refine O_nil (hK _ ?_)
  clear hK K
  refine codeW_seq fun K hK => codeW_reg ?_
  refine O_cons (W_it (W_mv rfl ?_))
  refine O_cons (W_it (W_cvi rfl ?_))
  refine O_cons (W_it (W_mv rfl ?_))
  refine O_nil (hK _ ?_)
  clear hK K
  refine codeW_seq fun K hK => ?_
  refine codeW_seq fun K1 hK1 => codeW_reg ?_
  refine O_cons (W_it (W_mv rfl ?_))
  refine O_cons (W_it (W_mv rfl ?_))
  refine O_nil (hK1 _ ?_)
  clear hK1 K1
  refine codeW_block ?_
  refine codeW_weak (s' := ⟨[(20, .c (.p (.v (.int .i64 0)))), (19, .c (.p (.v (.int .i64 (m : Int))))), (8, .c (.p (.v (.int .u64 (IntKind.u64.wrap x))))), (7, .c (.ept 0 1 0 0)), (2, .c (.p (.v (.int .i64 (m : Int))))), (0, .c (.p (.sl 1 bs)))], [.pc 1 (List.replicate 8 [.v (.int .u8 0)])]⟩)
    (Weak.ren [0] rfl (by decide) ⟨.inr rfl, trivial⟩ ⟨rfl, rfl, rfl, rfl, rfl, rfl, trivial⟩) ?_
  refine codeW_loop (fun k s => ∃ i : Nat, i + k = m ∧ s = ⟨[(20, .c (.p (.v (.int .i64 (i : Int))))), (19, .c (.p (.v (.int .i64 (m : Int))))), (8, .c (.p (.v (.int .u64 (IntKind.u64.wrap x / 256 ^ i))))), (7, .c (.ept 0 1 0 0)), (2, .c (.p (.v (.int .i64 (m : Int))))), (0, .c (.p (.sl 1 bs)))], [.pc 1 (be8 m (IntKind.u64.wrap x) i)]⟩) m ⟨0, by omega, by simp [be8]⟩ ?_
  rintro k s ⟨i, hik, rfl⟩ K1 hK1
  refine codeW_seq fun K2 hK2 => codeW_reg ?_
  refine O_cons (W_it (W_lss rfl rfl ?_))
  refine O_nil (hK2 _ ?_)
  clear hK2 K2
  refine codeW_seq fun K2 hK2 => ?_
  refine codeW_cond rfl (fun h => ?_) (fun h => ?_)
  · refine codeW_skip (hK2 _ ?_)
    clear hK2 K2
    have hi : i < m := by have := of_decide_eq_true h; omega
    refine codeW_seq fun K2 hK2 => ?_
    refine codeW_block ?_
    refine codeW_seq fun K3 hK3 => codeW_reg ?_
    refine O_cons (W_it (W_mv rfl ?_))
    refine O_cons (W_it (W_mv rfl ?_))
    refine O_nil (hK3 _ ?_)
    clear hK3 K3
    refine codeW_seq fun K3 hK3 => codeW_reg ?_
    refine O_cons (W_it (W_mv rfl ?_))
    refine O_cons (W_it (W_sub rfl rfl ?_))
    refine O_cons (W_it (W_mv rfl ?_))
    refine O_cons (W_it (W_sub rfl rfl ?_))
    refine O_cons (W_it (W_mv rfl ?_))
    refine O_cons (W_it (W_cvi rfl ?_))
    have e1 : IntKind.i64.wrap (IntKind.i64.wrap ((m : Int) - 1) - (i : Int)) = ((m - 1 - i : Nat) : Int) := by
      rw [wrap64_id (a := (m : Int) - 1) (by omega) (by omega), wrap64_id (by omega) (by omega)]; omega
    rw [e1]
    refine O_cons (W_it (W_ixa_e rfl rfl (by omega) (by omega) ?_))
    rw [Int.toNat_natCast, Nat.zero_add]
    obtain ⟨y, hy⟩ := be8_one m (IntKind.u64.wrap x) i (m - 1 - i) (by omega)
    refine O_cons (W_it (W_store_e rfl rfl rfl hy rfl rfl rfl ?_))
    refine O_nil (hK3 _ ?_)
    clear hK3 K3
    refine codeW_reg ?_
    refine O_cons (W_it (W_mv rfl ?_))
    refine O_cons (W_it (W_shr rfl rfl (by decide) ?_))
    refine O_cons (W_it (W_mv rfl ?_))
    refine O_nil (hK2 _ ?_)
    clear hK2 K2
    refine codeW_reg ?_
    refine O_cons (W_it (W_add rfl rfl ?_))
    refine O_cons (W_it (W_mv rfl ?_))
    refine O_nil (hK1 _ ⟨k - 1, _, by omega, ?_, i + 1, by omega, rfl⟩)
    refine Weak.ren [0] rfl (by decide) ⟨.inr rfl, trivial⟩ ⟨?_, rfl, ?_, rfl, rfl, rfl, trivial⟩
    · show AV.c (.p (.v (.int .i64 (IntKind.i64.wrap ((i : Int) + 1))))) = _
      rw [wrap64_id (by omega) (by omega)]
      rfl
    · show AV.c (.p (.v (.int .u64 (IntKind.u64.wrap x / 256 ^ i / 2 ^ min (8 : Int).toNat IntKind.u64.bits)))) = _
      rw [Int.ediv_ediv_of_nonneg (Int.pow_nonneg (by decide))]
      rw [Int.pow_succ]
      rfl
  · refine codeW_exit ?_
    have hi : i = m := by have := of_decide_eq_false h; omega
    subst hi
    refine (hK _ ?_ : K _)
    clear hK hK1 hK2 K K1 K2
    have hlt : ((be8 i (IntKind.u64.wrap x) i).take i).length = i := by rw [List.length_take, be8_len]; omega
    refine codeW_seq fun K hK => codeW_reg ?_
    refine O_cons (W_it (W_mv rfl ?_))
    refine O_cons (W_it (W_mv rfl ?_))
    refine O_cons (W_it (W_len rfl ?_))
    refine O_cons (W_it (W_mv rfl ?_))
    refine O_cons (W_it (W_len rfl ?_))
    refine O_cons (W_it (W_sls_tf rfl rfl rfl rfl rfl ?_))
    refine O_cons (W_it (W_mv rfl ?_))
    refine O_cons (W_it (W_sla_e0 rfl rfl rfl hm8 ?_))
    refine O_cons (W_it (W_app_t rfl rfl rfl (.inr rfl) ?_ ?_ ?_ ?_ ?_))
    · simp only [List.drop_zero, hlt]
    · omega
    · omega
    · omega
    refine O_cons (W_it (W_mv rfl ?_))
    refine O_nil (hK _ ?_)
    clear hK K
    rw [List.drop_zero]
    refine codeW_ret (Fin.weak (.inr rfl) (s1 := ⟨[(6, .c (.own 0 0 1 (bs.length + i) .free))], [.pc 1 (bs ++ (be8 i (IntKind.u64.wrap x) i).take i)]⟩) (Weak.ren [1] rfl (by decide) ⟨.inr rfl, trivial⟩ ⟨rfl, trivial⟩) ⟨rfl, rfl⟩)


def ac28 : ACode := (.seq (.reg [⟨none, (some 6), (.mv (some 6) (.k (.int .i64 0)))⟩]) (.seq (.seq (.reg [⟨none, (some 7), (.mv (some 7) (.t 0))⟩, ⟨none, (some 8), (.mv (some 8) (.t 1))⟩, ⟨none, (some 9), (.bin (some 9) .lss (.t 7) (.t 8))⟩]) (.cond (.t 9) (.seq (.reg [⟨none, (some 10), (.mv (some 10) (.t 1))⟩, ⟨none, (some 6), (.mv (some 6) (.t 10))⟩]) .ret) .skip)) (.seq (.seq (.reg [⟨none, (some 11), (.mv (some 11) (.t 0))⟩, ⟨none, (some 12), (.mv (some 12) (.t 2))⟩, ⟨none, (some 13), (.bin (some 13) .gtr (.t 11) (.t 12))⟩]) (.cond (.t 13) (.seq (.reg [⟨none, (some 14), (.mv (some 14) (.t 2))⟩, ⟨none, (some 6), (.mv (some 6) (.t 14))⟩]) .ret) .skip)) (.seq (.reg [⟨none, (some 15), (.mv (some 15) (.t 0))⟩, ⟨none, (some 6), (.mv (some 6) (.t 15))⟩]) .ret))))
theorem tr28 : ((Try.f28.name == "runtime.NumGoroutine") = false ∧ Try.f28.results = ([6].map ResultVar.tmp).toArray) ∧ Try.f28.ntmps = 16 ∧ (Try.f28.body.bind (trCode Try.prog Try.f28.ntmps)) = some ac28 := ⟨⟨by kernel_rfl, by kernel_rfl⟩, by kernel_rfl, by kernel_rfl⟩


def near (a lo hi : Int) : Int := if a < lo then lo else if hi < a then hi else a
theorem near_FS (a lo hi : Int) : FS Try.prog 28 [.c (.p (.v (.int .i64 a))), .c (.p (.v (.int .i64 lo))), .c (.p (.v (.int .i64 hi)))] [] fun res rg => res = .c (.p (.v (.int .i64 (near a lo hi)))) ∧ rg = [] := by
  refine FS_def [6] 16 Try.func28 tr28 rfl ?_
  unfold ac28
  refine codeW_seq fun K1 hK1 => codeW_reg ?_
  refine O_cons (W_it (W_mv rfl ?_))
  refine O_nil (hK1 _ ?_)
  clear hK1 K1
  refine codeW_seq fun K2 hK2 => ?_
  refine codeW_seq fun K3 hK3 => codeW_reg ?_
  refine O_cons (W_it (W_mv rfl ?_))
  refine O_cons (W_it (W_mv rfl ?_))
  refine O_cons (W_it (W_lss rfl rfl ?_))
  refine O_nil (hK3 _ ?_)
  clear hK3 K3
  refine codeW_cond rfl (fun hc0 => ?_) (fun hc0 => ?_)
  · refine codeW_seq fun K4 hK4 => codeW_reg ?_
    refine O_cons (W_it (W_mv rfl ?_))
    refine O_cons (W_it (W_mv rfl ?_))
    refine O_nil (hK4 _ ?_)
    clear hK4 K4
    refine codeW_ret (Fin.here (.inr rfl) ⟨?_, rfl⟩)
    simp [near, resOf, lk, *]
    all_goals (simp_all <;> omega)
  · refine codeW_skip ?_
    refine (hK2 _ ?_ : K2 _)
    try clear hK2 K2
    refine codeW_seq fun K5 hK5 => ?_
    refine codeW_seq fun K6 hK6 => codeW_reg ?_
    refine O_cons (W_it (W_mv rfl ?_))
    refine O_cons (W_it (W_mv rfl ?_))
    refine O_cons (W_it (W_gtr rfl rfl ?_))
    refine O_nil (hK6 _ ?_)
    clear hK6 K6
    refine codeW_cond rfl (fun hc1 => ?_) (fun hc1 => ?_)
    · refine codeW_seq fun K7 hK7 => codeW_reg ?_
      refine O_cons (W_it (W_mv rfl ?_))
      refine O_cons (W_it (W_mv rfl ?_))
      refine O_nil (hK7 _ ?_)
      clear hK7 K7
      refine codeW_ret (Fin.here (.inr rfl) ⟨?_, rfl⟩)
      simp [near, resOf, lk, *]
      all_goals (simp_all <;> omega)
    · refine codeW_skip ?_
      refine (hK5 _ ?_ : K5 _)
      try clear hK5 K5
      refine codeW_seq fun K8 hK8 => codeW_reg ?_
      refine O_cons (W_it (W_mv rfl ?_))
      refine O_cons (W_it (W_mv rfl ?_))
      refine O_nil (hK8 _ ?_)
      clear hK8 K8
      refine codeW_ret (Fin.here (.inr rfl) ⟨?_, rfl⟩)
      simp [near, resOf, lk, *]
      all_goals (simp_all <;> omega)

def ac57 : ACode := (.seq (.reg [⟨none, (some 4), (.mv (some 4) (.k (.int .u8 0)))⟩]) (.seq (.reg [⟨none, (some 5), (.mv (some 5) (.t 0))⟩, ⟨none, (some 6), (.cvi (some 6) .u64 (.t 5))⟩, ⟨none, (some 7), (.mv (some 7) (.t 1))⟩, ⟨none, (some 8), (.bin (some 8) .mul (.k (.int .i64 8)) (.t 7))⟩, ⟨none, (some 9), (.bin (some 9) .shr (.t 6) (.t 8))⟩, ⟨none, (some 10), (.bin (some 10) .and (.t 9) (.k (.int .u64 255)))⟩, ⟨none, (some 11), (.cvi (some 11) .u8 (.t 10))⟩, ⟨none, (some 4), (.mv (some 4) (.t 11))⟩]) .ret))
theorem tr57 : ((Try.f57.name == "runtime.NumGoroutine") = false ∧ Try.f57.results = ([4].map ResultVar.tmp).toArray) ∧ Try.f57.ntmps = 12 ∧ (Try.f57.body.bind (trCode Try.prog Try.f57.ntmps)) = some ac57 := ⟨⟨by kernel_rfl, by kernel_rfl⟩, by kernel_rfl, by kernel_rfl⟩


def digit (n : Int) (i : Nat) : Int := IntKind.u8.wrap (bits .and .u64 (IntKind.u64.wrap n / 2 ^ (min (8 * i) 64)) 255)
theorem digit_FS (n : Int) (i : Nat) (hi : i < 8) : FS Try.prog 57 [.c (.p (.v (.int .i64 n))), .c (.p (.v (.int .i64 (i : Int))))] [] fun res rg => res = .c (.p (.v (.int .u8 (digit n i)))) ∧ rg = [] := by
  refine FS_def [4] 12 Try.func57 tr57 rfl ?_
  unfold ac57
  refine codeW_seq fun K1 hK1 => codeW_reg ?_
  refine O_cons (W_it (W_mv rfl ?_))
  refine O_nil (hK1 _ ?_)
  clear hK1 K1
  refine codeW_seq fun K2 hK2 => codeW_reg ?_
  refine O_cons (W_it (W_mv rfl ?_))
  refine O_cons (W_it (W_cvi rfl ?_))
  refine O_cons (W_it (W_mv rfl ?_))
  refine O_cons (W_it (W_mul rfl rfl ?_))
  rw [wrap64_id (a := 8 * (i : Int)) (by omega) (by omega)]
  refine O_cons (W_it (W_shr rfl rfl (by first | decide | omega) ?_))
  refine O_cons (W_it (W_and rfl rfl ?_))
  refine O_cons (W_it (W_cvi rfl ?_))
  refine O_cons (W_it (W_mv rfl ?_))
  refine O_nil (hK2 _ ?_)
  clear hK2 K2
  refine codeW_ret (Fin.here (.inr rfl) ⟨?_, rfl⟩)
  rfl

def ac31 : ACode := (.seq (.reg [⟨none, (some 6), (.mv (some 6) (.t 1))⟩, ⟨none, (some 7), (.len (some 7) (.t 6))⟩, ⟨none, (some 8), (.mv (some 8) (.k (.int .i64 0)))⟩]) (.block 0 (.loop (.seq (.reg [⟨none, (some 9), (.bin (some 9) .lss (.t 8) (.t 7))⟩]) (.seq (.cond (.t 9) .skip (.exit 0)) (.seq (.block 1 (.seq (.reg [⟨none, (some 10), (.ixs (some 10) 1 (.t 6) (.t 8))⟩, ⟨none, (some 11), (.load (some 11) 1 false (.t 10))⟩, ⟨none, (some 5), (.mv (some 5) (.t 11))⟩]) (.reg [⟨none, (some 12), (.mv (some 12) (.t 0))⟩, ⟨none, (some 13), (.mv (some 13) (.t 0))⟩, ⟨none, (some 14), (.nilc (some 14) (.t 13))⟩, ⟨none, (some 15), (.fad (some 15) 0 (.t 14))⟩, ⟨none, (some 16), (.load (some 16) 1 false (.t 15))⟩, ⟨none, (some 17), (.mv (some 17) (.t 5))⟩, ⟨none, (some 18), (.call (some 18) 53 [(.t 16), (.t 17), (.k (.int .i64 8))])⟩, ⟨none, (some 19), (.nilc (some 19) (.t 12))⟩, ⟨none, (some 20), (.fad (some 20) 0 (.t 19))⟩, ⟨none, none, (.store 1 (.t 20) (.t 18))⟩]))) (.reg [⟨none, (some 21), (.bin (some 21) .add (.t 8) (.k (.int .i64 1)))⟩, ⟨none, (some 8), (.mv (some 8) (.t 21))⟩])))))))
theorem tr31 : ((Try.f31.name == "runtime.NumGoroutine") = false ∧ Try.f31.results = ([].map ResultVar.tmp).toArray) ∧ Try.f31.ntmps = 22 ∧ (Try.f31.body.bind (trCode Try.prog Try.f31.ntmps)) = some ac31 := ⟨⟨by kernel_rfl, by kernel_rfl⟩, by kernel_rfl, by kernel_rfl⟩


def nums8 (ns : List Int) : List (List PV) := ns.flatMap fun n => (be8 8 (IntKind.u64.wrap n) 8).take 8
theorem nums8_snoc (ns : List Int) (n : Int) : nums8 (ns ++ [n]) = nums8 ns ++ (be8 8 (IntKind.u64.wrap n) 8).take 8 := by simp [nums8]
theorem nums8_len (ns : List Int) : (nums8 ns).length = 8 * ns.length := by
  induction ns with
  | nil => rfl
  | cons n ns ih => rw [nums8, List.flatMap_cons, List.length_append, ← nums8, ih, List.length_take, be8_len]; simp; omega
def ints (k : IntKind) (ns : List Int) : List (List PV) := ns.map fun n => [.v (.int k n)]
theorem ints_len (k : IntKind) (ns : List Int) : (ints k ns).length = ns.length := by simp [ints]
theorem ints_geti {k : IntKind} {ns : List Int} {i : Nat} (h : i < ns.length) : (ints k ns)[(i : Int).toNat]? = some [.v (.int k ns[i])] := by simp [ints, h]
theorem ints_get {k : IntKind} {ns : List Int} {i : Nat} (h : i < ns.length) : (ints k ns)[i]? = some [.v (.int k ns[i])] := by simp [ints, h]
theorem num_FS (bs : List (List PV)) (ns : List Int) (hb : bs.length + 8 * ns.length ≤ 1000000000) :
    FS Try.prog 31 [.c (.ptr 0 0), .c (.p (.sl 1 (ints .i64 ns)))] [.ac [.p (.sl 1 bs)]] fun res rg => res = .tup [] ∧ rg = [.ac [.p (.sl 1 (bs ++ nums8 ns))]] := by
  refine FS_def [] 22 Try.func31 tr31 rfl ?_
  unfold ac31
  refine codeW_seq fun K1 hK1 => codeW_reg ?_
  refine O_cons (W_it (W_mv rfl ?_))
  refine O_cons (W_it (W_len rfl ?_))
  refine O_cons (W_it (W_mv rfl ?_))
  refine O_nil (hK1 _ ?_)
  clear hK1 K1
  refine codeW_block ?_
  refine codeW_weak (s' := ⟨[(8, .c (.p (.v (.int .i64 ((0 : Nat) : Int))))), (7, .c (.p (.v (.int .i64 (ns.length : Int))))), (6, .c (.p (.sl 1 (ints .i64 ns)))), (0, .c (.ptr 0 0))], [.ac [.p (.sl 1 bs)]]⟩) (Weak.ren [0] rfl (by decide) ⟨.inr rfl, trivial⟩ ⟨rfl, ?_, rfl, rfl, trivial⟩) ?_
  · exact congrArg (fun n : Nat => AV.c (.p (.v (.int .i64 (n : Int))))) (ints_len _ _)
  refine codeW_loop (fun k s => ∃ i : Nat, i + k = ns.length ∧ s = ⟨[(8, .c (.p (.v (.int .i64 (i : Int))))), (7, .c (.p (.v (.int .i64 (ns.length : Int))))), (6, .c (.p (.sl 1 (ints .i64 ns)))), (0, .c (.ptr 0 0))], [.ac [.p (.sl 1 (bs ++ nums8 (ns.take i)))]]⟩) ns.length ⟨0, by omega, by simp [nums8]⟩ ?_
  rintro k s ⟨i, hik, rfl⟩ K hK
  refine codeW_seq fun K2 hK2 => codeW_reg ?_
  refine O_cons (W_it (W_lss rfl rfl ?_))
  refine O_nil (hK2 _ ?_)
  clear hK2 K2
  refine codeW_seq fun K3 hK3 => ?_
  refine codeW_cond rfl (fun hc0 => ?_) (fun hc0 => ?_)
  · have hi : i < ns.length := by have := of_decide_eq_true hc0; omega
    refine codeW_skip ?_
    refine (hK3 _ ?_ : K3 _)
    try clear hK3 K3
    refine codeW_seq fun K4 hK4 => ?_
    refine codeW_block ?_
    refine codeW_seq fun K5 hK5 => codeW_reg ?_
    first | refine O_cons (W_it (W_ixs_s rfl rfl (by omega) (ints_geti (i := i) hi) ?_)) | refine O_cons (W_it (W_ixs_o rfl rfl (by omega) (by omega) ?_))
    first | refine O_cons (W_it (W_load_p rfl rfl rfl rfl ?_)) | refine O_cons (W_it (W_load_r rfl rfl rfl ?_)) | refine O_cons (W_it (W_load_e rfl rfl rfl rfl rfl ?_))
    refine O_cons (W_it (W_mv rfl ?_))
    refine O_nil (hK5 _ ?_)
    clear hK5 K5
    refine codeW_reg ?_
    refine O_cons (W_it (W_mv rfl ?_))
    refine O_cons (W_it (W_mv rfl ?_))
    refine O_cons (W_it (W_nilc rfl rfl ?_))
    first | refine O_cons (W_it (W_fad_p rfl ?_)) | refine O_cons (W_it (W_fad_e rfl ?_)) | refine O_cons (W_it (W_fad_r rfl ?_))
    first | refine O_cons (W_it (W_load_p rfl rfl rfl rfl ?_)) | refine O_cons (W_it (W_load_r rfl rfl rfl ?_)) | refine O_cons (W_it (W_load_e rfl rfl rfl rfl rfl ?_))
    refine O_cons (W_it (W_mv rfl ?_))
    refine O_cons (W_it (W_callF (put_FS _ _ _ ?_) [] rfl (by decide) trivial ?_))
    · rw [List.length_append, nums8_len, List.length_take]; omega
    rintro _ _ ⟨rfl, rfl⟩
    simp only [St.put, renAV, renAC, renReg, renAVs, setAll, upF, List.map_cons, List.map_nil, List.cons_append, List.nil_append, List.append_nil, List.set_cons_zero, List.set_cons_succ]
    refine O_cons (W_it (W_nilc rfl rfl ?_))
    first | refine O_cons (W_it (W_fad_p rfl ?_)) | refine O_cons (W_it (W_fad_e rfl ?_)) | refine O_cons (W_it (W_fad_r rfl ?_))
    first | refine O_cons (W_it (W_store_p rfl rfl rfl rfl rfl rfl ?_)) | refine O_cons (W_it (W_store_e rfl rfl rfl rfl rfl rfl rfl ?_))
    refine O_nil ?_
    refine (hK4 _ ?_ : K4 _)
    try clear hK4 K4
    refine codeW_reg ?_
    refine O_cons (W_it (W_add rfl rfl ?_))
    refine O_cons (W_it (W_mv rfl ?_))
    refine O_nil ?_
    refine hK _ ⟨k - 1, _, by omega, ?_, i + 1, by omega, rfl⟩
    refine Weak.ren [0] rfl (by decide) ⟨.inr ?_, trivial⟩ ⟨?_, rfl, rfl, rfl, trivial⟩
    · rw [List.take_succ_eq_append_getElem hi, nums8_snoc, ← List.append_assoc]
      rfl
    · show AV.c (.p (.v (.int .i64 (IntKind.i64.wrap ((i : Int) + 1))))) = _
      rw [wrap64_id (by omega) (by omega)]
      rfl
  · have hi : i = ns.length := by have := of_decide_eq_false hc0; omega
    subst hi
    refine codeW_exit ?_
    refine Fin.here (.inl rfl) ⟨rfl, ?_⟩
    rw [List.take_length]

def ac29 : ACode := (.seq (.reg [⟨none, (some 6), (.mv (some 6) (.t 1))⟩, ⟨none, (some 7), (.len (some 7) (.t 6))⟩, ⟨none, (some 8), (.mv (some 8) (.k (.int .i64 0)))⟩]) (.block 0 (.loop (.seq (.reg [⟨none, (some 9), (.bin (some 9) .lss (.t 8) (.t 7))⟩]) (.seq (.cond (.t 9) .skip (.exit 0)) (.seq (.block 1 (.seq (.reg [⟨none, (some 10), (.ixs (some 10) 1 (.t 6) (.t 8))⟩, ⟨none, (some 11), (.load (some 11) 1 false (.t 10))⟩, ⟨none, (some 5), (.mv (some 5) (.t 11))⟩]) (.reg [⟨none, (some 12), (.mv (some 12) (.t 0))⟩, ⟨none, (some 13), (.mv (some 13) (.t 5))⟩, ⟨none, (some 14), (.bsl (some 14) 1 1 [(.int .i64 0)] [(0, (.t 13))])⟩, ⟨none, (some 15), (.call (some 15) 31 [(.t 12), (.t 14)])⟩]))) (.reg [⟨none, (some 16), (.bin (some 16) .add (.t 8) (.k (.int .i64 1)))⟩, ⟨none, (some 8), (.mv (some 8) (.t 16))⟩])))))))
theorem tr29 : ((Try.f29.name == "runtime.NumGoroutine") = false ∧ Try.f29.results = ([].map ResultVar.tmp).toArray) ∧ Try.f29.ntmps = 17 ∧ (Try.f29.body.bind (trCode Try.prog Try.f29.ntmps)) = some ac29 := ⟨⟨by kernel_rfl, by kernel_rfl⟩, by kernel_rfl, by kernel_rfl⟩


theorem nums8_append (a b : List Int) : nums8 (a ++ b) = nums8 a ++ nums8 b := by simp [nums8]
theorem small_FS (bs : List (List PV)) (ns : List Int) (hb : bs.length + 8 * ns.length ≤ 1000000000) :
    FS Try.prog 29 [.c (.ptr 0 0), .c (.p (.sl 1 (ints .i64 ns)))] [.ac [.p (.sl 1 bs)]] fun res rg => res = .tup [] ∧ rg = [.ac [.p (.sl 1 (bs ++ nums8 ns))]] := by
  refine FS_def [] 17 Try.func29 tr29 rfl ?_
  unfold ac29
  refine codeW_seq fun K1 hK1 => codeW_reg ?_
  refine O_cons (W_it (W_mv rfl ?_))
  refine O_cons (W_it (W_len rfl ?_))
  refine O_cons (W_it (W_mv rfl ?_))
  refine O_nil (hK1 _ ?_)
  clear hK1 K1
  refine codeW_block ?_
  refine codeW_weak (s' := ⟨[(8, .c (.p (.v (.int .i64 ((0 : Nat) : Int))))), (7, .c (.p (.v (.int .i64 (ns.length : Int))))), (6, .c (.p (.sl 1 (ints .i64 ns)))), (0, .c (.ptr 0 0))], [.ac [.p (.sl 1 bs)]]⟩) (Weak.ren [0] rfl (by decide) ⟨.inr rfl, trivial⟩ ⟨rfl, ?_, rfl, rfl, trivial⟩) ?_
  · exact congrArg (fun n : Nat => AV.c (.p (.v (.int .i64 (n : Int))))) (ints_len _ _)
  refine codeW_loop (fun k s => ∃ i : Nat, i + k = ns.length ∧ s = ⟨[(8, .c (.p (.v (.int .i64 (i : Int))))), (7, .c (.p (.v (.int .i64 (ns.length : Int))))), (6, .c (.p (.sl 1 (ints .i64 ns)))), (0, .c (.ptr 0 0))], [.ac [.p (.sl 1 (bs ++ nums8 (ns.take i)))]]⟩) ns.length ⟨0, by omega, by simp [nums8]⟩ ?_
  rintro k s ⟨i, hik, rfl⟩ K hK
  refine codeW_seq fun K2 hK2 => codeW_reg ?_
  refine O_cons (W_it (W_lss rfl rfl ?_))
  refine O_nil (hK2 _ ?_)
  clear hK2 K2
  refine codeW_seq fun K3 hK3 => ?_
  refine codeW_cond rfl (fun hc0 => ?_) (fun hc0 => ?_)
  · have hi : i < ns.length := by have := of_decide_eq_true hc0; omega
    refine codeW_skip ?_
    refine (hK3 _ ?_ : K3 _)
    try clear hK3 K3
    refine codeW_seq fun K4 hK4 => ?_
    refine codeW_block ?_
    refine codeW_seq fun K5 hK5 => codeW_reg ?_
    first | refine O_cons (W_it (W_ixs_s rfl rfl (by omega) (ints_geti (i := i) hi) ?_)) | refine O_cons (W_it (W_ixs_o rfl rfl (by omega) (by omega) ?_))
    first | refine O_cons (W_it (W_load_p rfl rfl rfl rfl ?_)) | refine O_cons (W_it (W_load_r rfl rfl rfl ?_)) | refine O_cons (W_it (W_load_e rfl rfl rfl rfl rfl ?_))
    refine O_cons (W_it (W_mv rfl ?_))
    refine O_nil (hK5 _ ?_)
    clear hK5 K5
    refine codeW_reg ?_
    refine O_cons (W_it (W_mv rfl ?_))
    refine O_cons (W_it (W_mv rfl ?_))
    refine O_cons (W_it (W_bsl rfl ?_))
    refine O_cons (W_it (W_callW (num_FS _ [ns[i]] ?_) [0] _ [.c (.ptr 0 0), .c (.p (.sl 1 (ints .i64 [ns[i]])))] [.ac [.p (.sl 1 (bs ++ nums8 (ns.take i)))], .dead] rfl
      (Weak.freeze 1 1 [[.v (.int .i64 ns[i])]] rfl (by simp) ⟨.inl rfl, .inr ⟨0, 1, _, rfl, by simp, rfl⟩, trivial⟩ ⟨frz_keep rfl, frz_dead, trivial⟩) rfl rfl (by decide) ⟨rfl, trivial⟩ ?_))
    · rw [List.length_append, nums8_len, List.length_take]; simp; omega
    rintro _ _ ⟨rfl, rfl⟩
    simp only [St.put, renAV, renAC, renReg, renAVs, setAll, upF, List.map_cons, List.map_nil, List.cons_append, List.nil_append, List.append_nil, List.set_cons_zero, List.set_cons_succ]
    refine O_nil ?_
    refine (hK4 _ ?_ : K4 _)
    try clear hK4 K4
    refine codeW_reg ?_
    refine O_cons (W_it (W_add rfl rfl ?_))
    refine O_cons (W_it (W_mv rfl ?_))
    refine O_nil ?_
    refine hK _ ⟨k - 1, _, by omega, ?_, i + 1, by omega, rfl⟩
    refine Weak.ren [0] rfl (by decide) ⟨.inr ?_, trivial⟩ ⟨?_, rfl, rfl, rfl, trivial⟩
    · rw [List.take_succ_eq_append_getElem hi, nums8_append, ← List.append_assoc]
      rfl
    · show AV.c (.p (.v (.int .i64 (IntKind.i64.wrap ((i : Int) + 1))))) = _
      rw [wrap64_id (by omega) (by omega)]
      rfl
  · have hi : i = ns.length := by have := of_decide_eq_false hc0; omega
    subst hi
    refine codeW_exit ?_
    refine Fin.here (.inl rfl) ⟨rfl, ?_⟩
    rw [List.take_length]

def ac30 : ACode := (.seq (.reg [⟨none, (some 6), (.mv (some 6) (.t 1))⟩, ⟨none, (some 7), (.len (some 7) (.t 6))⟩, ⟨none, (some 8), (.mv (some 8) (.k (.int .i64 0)))⟩]) (.block 0 (.loop (.seq (.reg [⟨none, (some 9), (.bin (some 9) .lss (.t 8) (.t 7))⟩]) (.seq (.cond (.t 9) .skip (.exit 0)) (.seq (.block 1 (.seq (.reg [⟨none, (some 10), (.ixs (some 10) 3 (.t 6) (.t 8))⟩, ⟨none, (some 11), (.load (some 11) 3 true (.t 10))⟩, ⟨none, (some 5), (.alloc (some 5) [(.int .i64 0), (.int .i64 0), (.int .i64 0)])⟩, ⟨none, none, (.store 3 (.t 5) (.t 11))⟩]) (.seq (.reg [⟨none, (some 12), (.mv (some 12) (.t 0))⟩, ⟨none, (some 13), (.fad (some 13) 0 (.t 5))⟩, ⟨none, (some 14), (.load (some 14) 1 false (.t 13))⟩, ⟨none, (some 15), (.bsl (some 15) 1 1 [(.int .i64 0)] [(0, (.t 14))])⟩, ⟨none, (some 16), (.call (some 16) 31 [(.t 12), (.t 15)])⟩]) (.reg [⟨none, (some 17), (.mv (some 17) (.t 0))⟩, ⟨none, (some 18), (.fad (some 18) 1 (.t 5))⟩, ⟨none, (some 19), (.load (some 19) 1 false (.t 18))⟩, ⟨none, (some 20), (.fad (some 20) 2 (.t 5))⟩, ⟨none, (some 21), (.load (some 21) 1 false (.t 20))⟩, ⟨none, (some 22), (.bsl (some 22) 1 2 [(.int .i64 0)] [(0, (.t 19)), (1, (.t 21))])⟩, ⟨none, (some 23), (.call (some 23) 29 [(.t 17), (.t 22)])⟩])))) (.reg [⟨none, (some 24), (.bin (some 24) .add (.t 8) (.k (.int .i64 1)))⟩, ⟨none, (some 8), (.mv (some 8) (.t 24))⟩])))))))
theorem tr30 : ((Try.f30.name == "runtime.NumGoroutine") = false ∧ Try.f30.results = ([].map ResultVar.tmp).toArray) ∧ Try.f30.ntmps = 25 ∧ (Try.f30.body.bind (trCode Try.prog Try.f30.ntmps)) = some ac30 := ⟨⟨by kernel_rfl, by kernel_rfl⟩, by kernel_rfl, by kernel_rfl⟩


def words (ws : List (Int × Int × Int)) : List (List PV) := ws.map fun w => [.v (.int .i64 w.1), .v (.int .i64 w.2.1), .v (.int .i64 w.2.2)]
def words8 (ws : List (Int × Int × Int)) : List (List PV) := ws.flatMap fun w => nums8 [w.1, w.2.1, w.2.2]
theorem words_len (ws : List (Int × Int × Int)) : (words ws).length = ws.length := by simp [words]
theorem words_geti {ws : List (Int × Int × Int)} {i : Nat} (h : i < ws.length) : (words ws)[(i : Int).toNat]? = some [.v (.int .i64 ws[i].1), .v (.int .i64 ws[i].2.1), .v (.int .i64 ws[i].2.2)] := by simp [words, h]
theorem words8_append (a b : List (Int × Int × Int)) : words8 (a ++ b) = words8 a ++ words8 b := by simp [words8]
theorem words8_one (w : Int × Int × Int) : words8 [w] = nums8 [w.1] ++ nums8 [w.2.1, w.2.2] := by rw [← nums8_append]; simp [words8]
theorem words8_len (ws : List (Int × Int × Int)) : (words8 ws).length = 24 * ws.length := by
  induction ws with
  | nil => rfl
  | cons n ws ih => rw [words8, List.flatMap_cons, List.length_append, ← words8, ih, nums8_len]; simp; omega
theorem word_FS (bs : List (List PV)) (ws : List (Int × Int × Int)) (hb : bs.length + 24 * ws.length ≤ 1000000000) :
    FS Try.prog 30 [.c (.ptr 0 0), .c (.p (.sl 3 (words ws)))] [.ac [.p (.sl 1 bs)]] fun res rg => res = .tup [] ∧ rg = [.ac [.p (.sl 1 (bs ++ words8 ws))]] := by
  refine FS_def [] 25 Try.func30 tr30 rfl ?_
  unfold ac30
  refine codeW_seq fun K1 hK1 => codeW_reg ?_
  refine O_cons (W_it (W_mv rfl ?_))
  refine O_cons (W_it (W_len rfl ?_))
  refine O_cons (W_it (W_mv rfl ?_))
  refine O_nil (hK1 _ ?_)
  clear hK1 K1
  refine codeW_block ?_
  refine codeW_weak (s' := ⟨[(8, .c (.p (.v (.int .i64 ((0 : Nat) : Int))))), (7, .c (.p (.v (.int .i64 (ws.length : Int))))), (6, .c (.p (.sl 3 (words ws)))), (0, .c (.ptr 0 0))], [.ac [.p (.sl 1 bs)]]⟩) (Weak.ren [0] rfl (by decide) ⟨.inr rfl, trivial⟩ ⟨rfl, ?_, rfl, rfl, trivial⟩) ?_
  · exact congrArg (fun n : Nat => AV.c (.p (.v (.int .i64 (n : Int))))) (words_len _)
  refine codeW_loop (fun k s => ∃ i : Nat, i + k = ws.length ∧ s = ⟨[(8, .c (.p (.v (.int .i64 (i : Int))))), (7, .c (.p (.v (.int .i64 (ws.length : Int))))), (6, .c (.p (.sl 3 (words ws)))), (0, .c (.ptr 0 0))], [.ac [.p (.sl 1 (bs ++ words8 (ws.take i)))]]⟩) ws.length ⟨0, by omega, by simp [words8]⟩ ?_
  rintro k s ⟨i, hik, rfl⟩ K hK
  refine codeW_seq fun K2 hK2 => codeW_reg ?_
  refine O_cons (W_it (W_lss rfl rfl ?_))
  refine O_nil (hK2 _ ?_)
  clear hK2 K2
  refine codeW_seq fun K3 hK3 => ?_
  refine codeW_cond rfl (fun hc0 => ?_) (fun hc0 => ?_)
  · have hi : i < ws.length := by have := of_decide_eq_true hc0; omega
    refine codeW_skip ?_
    refine (hK3 _ ?_ : K3 _)
    try clear hK3 K3
    refine codeW_seq fun K4 hK4 => ?_
    refine codeW_block ?_
    refine codeW_seq fun K5 hK5 => codeW_reg ?_
    first | refine O_cons (W_it (W_ixs_s rfl rfl (by omega) (words_geti (i := i) hi) ?_)) | refine O_cons (W_it (W_ixs_o rfl rfl (by omega) (by omega) ?_))
    first | refine O_cons (W_it (W_load_p rfl rfl rfl rfl ?_)) | refine O_cons (W_it (W_load_r rfl rfl rfl ?_)) | refine O_cons (W_it (W_load_e rfl rfl rfl rfl rfl ?_))
    refine O_cons (W_it (W_alloc ?_))
    first | refine O_cons (W_it (W_store_p rfl rfl rfl rfl rfl rfl ?_)) | refine O_cons (W_it (W_store_e rfl rfl rfl rfl rfl rfl rfl ?_))
    refine O_nil (hK5 _ ?_)
    clear hK5 K5
    refine codeW_seq fun K6 hK6 => codeW_reg ?_
    refine O_cons (W_it (W_mv rfl ?_))
    first | refine O_cons (W_it (W_fad_p rfl ?_)) | refine O_cons (W_it (W_fad_e rfl ?_)) | refine O_cons (W_it (W_fad_r rfl ?_))
    first | refine O_cons (W_it (W_load_p rfl rfl rfl rfl ?_)) | refine O_cons (W_it (W_load_r rfl rfl rfl ?_)) | refine O_cons (W_it (W_load_e rfl rfl rfl rfl rfl ?_))
    refine O_cons (W_it (W_bsl rfl ?_))
    refine O_cons (W_it (W_callW (num_FS _ [ws[i].1] ?_) [0] _ [.c (.ptr 0 0), .c (.p (.sl 1 (ints .i64 [ws[i].1])))] [.ac [.p (.sl 1 (bs ++ words8 (ws.take i)))], .ac [.p (.v (.int .i64 ws[i].1)), .p (.v (.int .i64 ws[i].2.1)), .p (.v (.int .i64 ws[i].2.2))], .dead] rfl
      (Weak.freeze 2 1 [[.v (.int .i64 ws[i].1)]] rfl (by simp) ⟨.inl rfl, .inr ⟨0, 1, _, rfl, by simp, rfl⟩, trivial⟩ ⟨frz_keep rfl, frz_keep rfl, frz_dead, trivial⟩) rfl rfl (by decide) ⟨rfl, trivial⟩ ?_))
    · rw [List.length_append, words8_len, List.length_take]; simp; omega
    rintro _ _ ⟨rfl, rfl⟩
    simp only [St.put, renAV, renAC, renReg, renAVs, setAll, upF, List.map_cons, List.map_nil, List.cons_append, List.nil_append, List.append_nil, List.set_cons_zero, List.set_cons_succ]
    refine O_nil (hK6 _ ?_)
    clear hK6 K6
    refine codeW_reg ?_
    refine O_cons (W_it (W_mv rfl ?_))
    first | refine O_cons (W_it (W_fad_p rfl ?_)) | refine O_cons (W_it (W_fad_e rfl ?_)) | refine O_cons (W_it (W_fad_r rfl ?_))
    first | refine O_cons (W_it (W_load_p rfl rfl rfl rfl ?_)) | refine O_cons (W_it (W_load_r rfl rfl rfl ?_)) | refine O_cons (W_it (W_load_e rfl rfl rfl rfl rfl ?_))
    first | refine O_cons (W_it (W_fad_p rfl ?_)) | refine O_cons (W_it (W_fad_e rfl ?_)) | refine O_cons (W_it (W_fad_r rfl ?_))
    first | refine O_cons (W_it (W_load_p rfl rfl rfl rfl ?_)) | refine O_cons (W_it (W_load_r rfl rfl rfl ?_)) | refine O_cons (W_it (W_load_e rfl rfl rfl rfl rfl ?_))
    refine O_cons (W_it (W_bsl rfl ?_))
    refine O_cons (W_it (W_callW (small_FS _ [ws[i].2.1, ws[i].2.2] ?_) [0] _ [.c (.ptr 0 0), .c (.p (.sl 1 (ints .i64 [ws[i].2.1, ws[i].2.2])))] [.ac [.p (.sl 1 (bs ++ words8 (ws.take i) ++ nums8 [ws[i].1]))], .ac [.p (.v (.int .i64 ws[i].1)), .p (.v (.int .i64 ws[i].2.1)), .p (.v (.int .i64 ws[i].2.2))], .dead, .dead] rfl
      (Weak.freeze 3 1 [[.v (.int .i64 ws[i].2.1)], [.v (.int .i64 ws[i].2.2)]] rfl (by simp) ⟨.inl rfl, .inr ⟨0, 2, _, rfl, by simp, rfl⟩, trivial⟩ ⟨frz_keep rfl, frz_keep rfl, frz_keep rfl, frz_dead, trivial⟩) rfl rfl (by decide) ⟨rfl, trivial⟩ ?_))
    · rw [List.length_append, List.length_append, words8_len, List.length_take, nums8_len]; simp; omega
    rintro _ _ ⟨rfl, rfl⟩
    simp only [St.put, renAV, renAC, renReg, renAVs, setAll, upF, List.map_cons, List.map_nil, List.cons_append, List.nil_append, List.append_nil, List.set_cons_zero, List.set_cons_succ]
    refine O_nil ?_
    refine (hK4 _ ?_ : K4 _)
    try clear hK4 K4
    refine codeW_reg ?_
    refine O_cons (W_it (W_add rfl rfl ?_))
    refine O_cons (W_it (W_mv rfl ?_))
    refine O_nil ?_
    refine hK _ ⟨k - 1, _, by omega, ?_, i + 1, by omega, rfl⟩
    refine Weak.ren [0] rfl (by decide) ⟨.inr ?_, trivial⟩ ⟨?_, rfl, rfl, rfl, trivial⟩
    · rw [List.take_succ_eq_append_getElem hi, words8_append, words8_one, ← List.append_assoc, ← List.append_assoc]
      rfl
    · show AV.c (.p (.v (.int .i64 (IntKind.i64.wrap ((i : Int) + 1))))) = _
      rw [wrap64_id (by omega) (by omega)]
      rfl
  · have hi : i = ws.length := by have := of_decide_eq_false hc0; omega
    subst hi
    refine codeW_exit ?_
    refine Fin.here (.inl rfl) ⟨rfl, ?_⟩
    rw [List.take_length]

def ac32 : ACode := (.seq (.reg [⟨none, (some 6), (.mv (some 6) (.t 0))⟩, ⟨none, (some 7), (.mv (some 7) (.t 1))⟩, ⟨none, (some 8), (.len (some 8) (.t 7))⟩, ⟨none, (some 9), (.bsl (some 9) 1 1 [(.int .i64 0)] [(0, (.t 8))])⟩, ⟨none, (some 10), (.call (some 10) 29 [(.t 6), (.t 9)])⟩]) (.reg [⟨none, (some 11), (.mv (some 11) (.t 2))⟩, ⟨none, (some 12), (.mv (some 12) (.t 1))⟩, ⟨none, (some 13), (.callv (some 13) (.t 11) [(.t 12)])⟩]))
theorem tr32 : ((Try.f32.name == "runtime.NumGoroutine") = false ∧ Try.f32.results = ([].map ResultVar.tmp).toArray) ∧ Try.f32.ntmps = 14 ∧ (Try.f32.body.bind (trCode Try.prog Try.f32.ntmps)) = some ac32 := ⟨⟨by kernel_rfl, by kernel_rfl⟩, by kernel_rfl, by kernel_rfl⟩


theorem list_num_FS (bs : List (List PV)) (ns : List Int) (hb : bs.length + 8 * ns.length + 8 ≤ 1000000000) :
    FS Try.prog 32 [.c (.ptr 0 0), .c (.p (.sl 1 (ints .i64 ns))), .c (.fn (.func 31) [.ptr 0 0] [])] [.ac [.p (.sl 1 bs)]] fun res rg => res = .tup [] ∧ rg = [.ac [.p (.sl 1 (bs ++ nums8 [(ns.length : Int)] ++ nums8 ns))]] := by
  refine FS_def [] 14 Try.func32 tr32 rfl ?_
  unfold ac32
  refine codeW_seq fun K1 hK1 => codeW_reg ?_
  refine O_cons (W_it (W_mv rfl ?_))
  refine O_cons (W_it (W_mv rfl ?_))
  refine O_cons (W_it (W_len rfl ?_))
  refine O_cons (W_it (W_bsl rfl ?_))
  rw [ints_len]
  refine O_cons (W_it (W_callW (small_FS _ [(ns.length : Int)] ?_) [0] _ [.c (.ptr 0 0), .c (.p (.sl 1 (ints .i64 [(ns.length : Int)])))] [.ac [.p (.sl 1 bs)], .dead] rfl
    (Weak.freeze 1 1 [[.v (.int .i64 ns.length)]] rfl (by simp) ⟨.inl rfl, .inr ⟨0, 1, _, rfl, by simp, rfl⟩, trivial⟩ ⟨frz_keep rfl, frz_dead, trivial⟩) rfl rfl (by decide) ⟨rfl, trivial⟩ ?_))
  · simp; omega
  rintro _ _ ⟨rfl, rfl⟩
  simp only [St.put, renAV, renAC, renReg, renAVs, setAll, upF, List.map_cons, List.map_nil, List.cons_append, List.nil_append, List.append_nil, List.set_cons_zero, List.set_cons_succ]
  refine O_nil (hK1 _ ?_)
  clear hK1 K1
  refine codeW_reg ?_
  refine O_cons (W_it (W_mv rfl ?_))
  refine O_cons (W_it (W_mv rfl ?_))
  refine O_cons (W_it (W_callvW rfl (num_FS _ ns ?_) [0] _ [.c (.ptr 0 0), .c (.p (.sl 1 (ints .i64 ns)))] [.ac [.p (.sl 1 (bs ++ nums8 [(ns.length : Int)]))], .dead] rfl
    (Weak.refl _ _) rfl rfl (by decide) ⟨rfl, trivial⟩ ?_))
  · rw [List.length_append, nums8_len]; simp; omega
  rintro _ _ ⟨rfl, rfl⟩
  simp only [St.put, renAV, renAC, renReg, renAVs, setAll, upF, List.map_cons, List.map_nil, List.cons_append, List.nil_append, List.append_nil, List.set_cons_zero, List.set_cons_succ]
  refine O_nil ?_
  refine Fin.weak (.inl rfl) (s1 := ⟨[], [.ac [.p (.sl 1 (bs ++ nums8 [(ns.length : Int)] ++ nums8 ns))]]⟩) (Weak.ren [0] rfl (by decide) ⟨.inr rfl, trivial⟩ trivial) ⟨rfl, ?_⟩
  rfl

def ac54 : ACode := (.seq (.reg [⟨none, (some 6), (.mv (some 6) (.k (.slice none 0 0)))⟩]) (.seq (.reg [⟨none, (some 7), (.mv (some 7) (.k (.slice none 0 0)))⟩]) (.seq (.reg [⟨none, (some 9), (.mv (some 9) (.t 7))⟩, ⟨none, (some 10), (.mv (some 10) (.t 0))⟩, ⟨none, (some 11), (.app (some 11) 1 1 (.t 9) (.t 10))⟩, ⟨none, (some 7), (.mv (some 7) (.t 11))⟩]) (.seq (.seq (.reg [⟨none, (some 12), (.mv (some 12) (.t 2))⟩, ⟨none, (some 13), (.bin (some 13) .lss (.t 12) (.k (.int .i64 1)))⟩, ⟨none, (some 14), (.mv (some 14) (.t 13))⟩, ⟨(some (14, false)), (some 15), (.mv (some 15) (.t 2))⟩, ⟨(some (14, false)), (some 16), (.bin (some 16) .gtr (.t 15) (.k (.int .i64 8)))⟩, ⟨none, (some 17), (.pick (some 17) (.t 14) (.k (.bool true)) (.t 16))⟩]) (.cond (.t 17) (.seq (.reg [⟨none, (some 18), (.mv (some 18) (.t 7))⟩, ⟨none, (some 6), (.mv (some 6) (.t 18))⟩]) .ret) .skip)) (.seq (.seq (.reg [⟨none, (some 19), (.mv (some 19) (.t 2))⟩, ⟨none, (some 20), (.bin (some 20) .sub (.t 19) (.k (.int .i64 1)))⟩, ⟨none, (some 8), (.mv (some 8) (.t 20))⟩]) (.block 0 (.loop (.seq (.seq (.reg [⟨none, (some 21), (.mv (some 21) (.t 8))⟩, ⟨none, (some 22), (.bin (some 22) .geq (.t 21) (.k (.int .i64 0)))⟩]) (.cond (.t 22) .skip (.exit 0))) (.seq (.block 1 (.reg [⟨none, (some 25), (.mv (some 25) (.t 7))⟩, ⟨none, (some 26), (.mv (some 26) (.t 1))⟩, ⟨none, (some 27), (.mv (some 27) (.t 8))⟩, ⟨none, (some 28), (.call (some 28) 57 [(.t 26), (.t 27)])⟩, ⟨none, (some 29), (.bsl (some 29) 1 1 [(.int .u8 0)] [(0, (.t 28))])⟩, ⟨none, (some 30), (.app (some 30) 1 1 (.t 25) (.t 29))⟩, ⟨none, (some 7), (.mv (some 7) (.t 30))⟩])) (.reg [⟨none, (some 23), (.mv (some 23) (.t 8))⟩, ⟨none, (some 24), (.bin (some 24) .sub (.t 23) (.k (.int .i64 1)))⟩, ⟨none, (some 8), (.mv (some 8) (.t 24))⟩])))))) (.seq (.reg [⟨none, (some 31), (.mv (some 31) (.t 7))⟩, ⟨none, (some 6), (.mv (some 6) (.t 31))⟩]) .ret))))))
theorem tr54 : ((Try.f54.name == "runtime.NumGoroutine") = false ∧ Try.f54.results = ([6].map ResultVar.tmp).toArray) ∧ Try.f54.ntmps = 32 ∧ (Try.f54.body.bind (trCode Try.prog Try.f54.ntmps)) = some ac54 := ⟨⟨by kernel_rfl, by kernel_rfl⟩, by kernel_rfl, by kernel_rfl⟩


def digs (x : Int) (m j : Nat) : List (List PV) := (List.range j).map fun t => [.v (.int .u8 (digit x (m - 1 - t)))]
theorem digs_succ (x : Int) (m j : Nat) : digs x m (j + 1) = digs x m j ++ [[.v (.int .u8 (digit x (m - 1 - j)))]] := by simp [digs, List.range_succ]
theorem digs_len (x : Int) (m j : Nat) : (digs x m j).length = j := by simp [digs]
theorem rput_FS (bs : List (List PV)) (x : Int) (m : Nat) (h1 : 1 ≤ m) (h8 : m ≤ 8) (hb : bs.length ≤ 1000000000) :
    FS Try.prog 54 [.c (.p (.sl 1 bs)), .c (.p (.v (.int .i64 x))), .c (.p (.v (.int .i64 (m : Int))))] [] fun res rg => res = .c (.p (.sl 1 (bs ++ digs x m m))) ∧ rg = [] := by
  refine FS_def [6] 32 Try.func54 tr54 rfl ?_
  unfold ac54
  have e1 : decide ((m : Int) < 1) = false := decide_eq_false (by omega)
  have e2 : decide (8 < (m : Int)) = false := decide_eq_false (by omega)
  refine codeW_seq fun K1 hK1 => codeW_reg ?_
  refine O_cons (W_it (W_mv rfl ?_))
  refine O_nil (hK1 _ ?_)
  clear hK1 K1
  refine codeW_seq fun K2 hK2 => codeW_reg ?_
  refine O_cons (W_it (W_mv rfl ?_))
  refine O_nil (hK2 _ ?_)
  clear hK2 K2
  refine codeW_seq fun K3 hK3 => codeW_reg ?_
  refine O_cons (W_it (W_mv rfl ?_))
  refine O_cons (W_it (W_mv rfl ?_))
  refine O_cons (W_it (W_app_n rfl rfl rfl (.inr rfl) rfl (by omega) (by omega) ?_))
  refine O_cons (W_it (W_mv rfl ?_))
  refine O_nil (hK3 _ ?_)
  clear hK3 K3
  refine codeW_seq fun K4 hK4 => ?_
  refine codeW_seq fun K5 hK5 => codeW_reg ?_
  refine O_cons (W_it (W_mv rfl ?_))
  refine O_cons (W_it (W_lss rfl rfl ?_))
  refine O_cons (W_it (W_mv rfl ?_))
  first | refine O_cons (W_gyE rfl (by first | rfl | assumption) (W_mv rfl ?_)) | refine O_cons (W_gnE rfl (by first | rfl | assumption) ?_) | refine O_cons (W_gu rfl ?_)
  first | refine O_cons (W_gyE rfl (by first | rfl | assumption) (W_gtr rfl rfl ?_)) | refine O_cons (W_gnE rfl (by first | rfl | assumption) ?_) | refine O_cons (W_gu rfl ?_)
  first | refine O_cons (W_it (W_pickE rfl (by first | rfl | assumption) rfl ?_)) | refine O_cons (W_it (W_pickF rfl (by first | rfl | assumption) rfl ?_))
  refine O_nil (hK5 _ ?_)
  clear hK5 K5
  refine codeW_condF rfl (by first | rfl | assumption) ?_
  refine codeW_skip ?_
  refine (hK4 _ ?_ : K4 _)
  try clear hK4 K4
  refine codeW_seq fun K6 hK6 => ?_
  refine codeW_seq fun K7 hK7 => codeW_reg ?_
  refine O_cons (W_it (W_mv rfl ?_))
  refine O_cons (W_it (W_sub rfl rfl ?_))
  refine O_cons (W_it (W_mv rfl ?_))
  refine O_nil (hK7 _ ?_)
  clear hK7 K7
  refine codeW_block ?_
  refine codeW_weak (s' := ⟨[(8, .c (.p (.v (.int .i64 ((m : Int) - 1 - ((0 : Nat) : Int)))))), (7, .c (.own 0 0 1 (bs ++ digs x m 0).length .free)), (1, .c (.p (.v (.int .i64 x))))], [.pc 1 (bs ++ digs x m 0)]⟩) (Weak.ren [0] rfl (by decide) ⟨.inr ?_, trivial⟩ ⟨?_, ?_, rfl, trivial⟩) ?_
  · simp [digs]; rfl
  · show AV.c (.p (.v (.int .i64 (IntKind.i64.wrap ((m : Int) - 1))))) = AV.c (.p (.v (.int .i64 ((m : Int) - 1 - ((0 : Nat) : Int)))))
    rw [wrap64_id (by omega) (by omega)]
    simp
  · simp [digs]; rfl
  refine codeW_loop (fun k s => ∃ j : Nat, j + k = m ∧ s = ⟨[(8, .c (.p (.v (.int .i64 ((m : Int) - 1 - (j : Int)))))), (7, .c (.own 0 0 1 (bs ++ digs x m j).length .free)), (1, .c (.p (.v (.int .i64 x))))], [.pc 1 (bs ++ digs x m j)]⟩) m ⟨0, by omega, rfl⟩ ?_
  rintro k s ⟨j, hjk, rfl⟩ K hK
  refine codeW_seq fun K8 hK8 => ?_
  refine codeW_seq fun K9 hK9 => codeW_reg ?_
  refine O_cons (W_it (W_mv rfl ?_))
  refine O_cons (W_it (W_geq rfl rfl ?_))
  refine O_nil (hK9 _ ?_)
  clear hK9 K9
  refine codeW_cond rfl (fun hc1 => ?_) (fun hc1 => ?_)
  · have hj : j < m := by have := of_decide_eq_true hc1; omega
    refine codeW_skip ?_
    refine (hK8 _ ?_ : K8 _)
    try clear hK8 K8
    refine codeW_seq fun K10 hK10 => ?_
    refine codeW_block ?_
    refine codeW_reg ?_
    refine O_cons (W_it (W_mv rfl ?_))
    refine O_cons (W_it (W_mv rfl ?_))
    refine O_cons (W_it (W_mv rfl ?_))
    have e3 : (m : Int) - 1 - (j : Int) = ((m - 1 - j : Nat) : Int) := by omega
    rw [e3]
    refine O_cons (W_it (W_callF (digit_FS x (m - 1 - j) (by omega)) [] rfl (by decide) trivial ?_))
    rintro _ _ ⟨rfl, rfl⟩
    simp only [St.put, renAV, renAC, renReg, renAVs, setAll, upF, List.map_cons, List.map_nil, List.cons_append, List.nil_append, List.append_nil, List.set_cons_zero, List.set_cons_succ]
    refine O_cons (W_it (W_bsl rfl ?_))
    refine O_cons (W_it (W_app_o rfl rfl rfl rfl (.inr rfl) rfl rfl ?_ ?_ ?_))
    · rw [List.length_append, digs_len]; omega
    · rw [List.length_append, digs_len]; omega
    refine O_cons (W_it (W_mv rfl ?_))
    refine O_nil ?_
    refine (hK10 _ ?_ : K10 _)
    try clear hK10 K10
    refine codeW_reg ?_
    refine O_cons (W_it (W_mv rfl ?_))
    refine O_cons (W_it (W_sub rfl rfl ?_))
    refine O_cons (W_it (W_mv rfl ?_))
    refine O_nil ?_
    refine hK _ ⟨k - 1, _, by omega, ?_, j + 1, by omega, rfl⟩
    refine Weak.ren [2] rfl (by decide) ⟨.inr ?_, trivial⟩ ⟨?_, ?_, rfl, trivial⟩
    · rw [digs_succ, ← List.append_assoc]
      rfl
    · show AV.c (.p (.v (.int .i64 (IntKind.i64.wrap (((m - 1 - j : Nat) : Int) - 1))))) = AV.c (.p (.v (.int .i64 ((m : Int) - 1 - ((j + 1 : Nat) : Int)))))
      rw [wrap64_id (by omega) (by omega), show ((m - 1 - j : Nat) : Int) - 1 = (m : Int) - 1 - ((j + 1 : Nat) : Int) by omega]
    · show AV.c (.own 2 0 1 ((bs ++ digs x m j).length + 1) .free) = AV.c (.own 2 0 1 (bs ++ digs x m (j + 1)).length .free)
      rw [show (bs ++ digs x m (j + 1)).length = (bs ++ digs x m j).length + 1 by simp [digs_len]; omega]
  · have hj : j = m := by have := of_decide_eq_false hc1; omega
    subst hj
    refine codeW_exit ?_
    refine (hK6 _ ?_ : K6 _)
    try clear hK6 K6
    refine codeW_seq fun K11 hK11 => codeW_reg ?_
    refine O_cons (W_it (W_mv rfl ?_))
    refine O_cons (W_it (W_mv rfl ?_))
    refine O_nil (hK11 _ ?_)
    clear hK11 K11
    refine codeW_ret (Fin.weak (.inr rfl) (s1 := ⟨[(6, .c (.p (.sl 1 (bs ++ digs x j j))))], []⟩) (Weak.trans (s' := ⟨[(6, .c (.p (.sl 1 (bs ++ digs x j j))))], [.dead]⟩) (Weak.freeze 0 1 _ rfl (by rw [List.length_append, digs_len]; omega) ⟨.inr ⟨0, _, _, rfl, ?_, ?_⟩, trivial⟩ ⟨frz_dead, trivial⟩) (Weak.ren [] rfl (by decide) trivial ⟨rfl, trivial⟩)) ⟨rfl, rfl⟩)
    · rw [Nat.zero_add]; exact Nat.le_refl _
    · rw [List.drop_zero, List.take_length]

def ac37 : ACode := (.seq (.reg [⟨none, (some 4), (.mv (some 4) (.k (.slice none 0 0)))⟩]) (.seq (.reg [⟨none, (some 5), (.mv (some 5) (.t 0))⟩, ⟨none, (some 6), (.mv (some 6) (.t 1))⟩, ⟨none, (some 7), (.call (some 7) 54 [(.t 5), (.t 6), (.k (.int .i64 8))])⟩, ⟨none, (some 4), (.mv (some 4) (.t 7))⟩]) .ret))
theorem tr37 : ((Try.f37.name == "runtime.NumGoroutine") = false ∧ Try.f37.results = ([4].map ResultVar.tmp).toArray) ∧ Try.f37.ntmps = 8 ∧ (Try.f37.body.bind (trCode Try.prog Try.f37.ntmps)) = some ac37 := ⟨⟨by kernel_rfl, by kernel_rfl⟩, by kernel_rfl, by kernel_rfl⟩


theorem and255 (n : Nat) (h : n < 18446744073709551616) : bits .and .u64 (n : Int) 255 = ((n % 256 : Nat) : Int) := by
  have e1 : BitVec.ofInt 64 (n : Int) = BitVec.ofNat 64 n := by
    apply BitVec.eq_of_toNat_eq; simp
  have e2 : BitVec.ofInt 64 255 = BitVec.ofNat 64 255 := by decide
  have e3 : n &&& 255 = n % 256 := Nat.and_two_pow_sub_one_eq_mod n 8
  have hb : (IntKind.u64).bits = 64 := rfl
  have e4 : ((BitVec.ofNat 64 n) &&& (BitVec.ofNat 64 255)).toNat = n % 256 := by
    rw [BitVec.toNat_and, BitVec.toNat_ofNat, BitVec.toNat_ofNat, Nat.mod_eq_of_lt h]
    exact e3
  show IntKind.u64.wrap (((BitVec.ofInt 64 (n : Int)) &&& (BitVec.ofInt 64 255)).toNat : Int) = _
  rw [e1, e2, e4]
  simp [IntKind.wrap, IntKind.bits, IntKind.signed]
  omega
theorem wrap_u64_range (x : Int) : 0 ≤ IntKind.u64.wrap x ∧ IntKind.u64.wrap x < 18446744073709551616 := by
  simp [IntKind.wrap, IntKind.bits, IntKind.signed]; omega
theorem digit_eq (x : Int) (i : Nat) (hi : i < 8) : digit x i = IntKind.u8.wrap (IntKind.u64.wrap x / 256 ^ i) := by
  obtain ⟨h0, h1⟩ := wrap_u64_range x
  unfold digit
  generalize IntKind.u64.wrap x = v at *
  obtain ⟨n, rfl⟩ := Int.eq_ofNat_of_zero_le h0
  rw [show min (8 * i) 64 = 8 * i by omega]
  have e : (n : Int) / 2 ^ (8 * i) = ((n / 256 ^ i : Nat) : Int) := by
    rw [Int.natCast_ediv, Int.natCast_pow, Int.pow_mul]
    rfl
  have e' : (n : Int) / 256 ^ i = ((n / 256 ^ i : Nat) : Int) := by rw [Int.natCast_ediv, Int.natCast_pow]; rfl
  rw [e, e', and255 _ (Nat.lt_of_le_of_lt (Nat.div_le_self _ _) (by omega))]
  simp [IntKind.wrap, IntKind.bits, IntKind.signed]

theorem digs8 (x : Int) : digs x 8 8 = nums8 [x] := by
  have h : ∀ t : Nat, digit x (8 - 1 - t) = IntKind.u8.wrap (IntKind.u64.wrap x / 256 ^ (8 - 1 - t)) := fun t => digit_eq x _ (by omega)
  simp only [digs, h, nums8, List.flatMap_cons, List.flatMap_nil, List.append_nil]
  rfl
theorem rnum_FS (bs : List (List PV)) (x : Int) (hb : bs.length ≤ 1000000000) :
    FS Try.prog 37 [.c (.p (.sl 1 bs)), .c (.p (.v (.int .i64 x)))] [] fun res rg => res = .c (.p (.sl 1 (bs ++ nums8 [x]))) ∧ rg = [] := by
  refine FS_def [4] 8 Try.func37 tr37 rfl ?_
  unfold ac37
  refine codeW_seq fun K1 hK1 => codeW_reg ?_
  refine O_cons (W_it (W_mv rfl ?_))
  refine O_nil (hK1 _ ?_)
  clear hK1 K1
  refine codeW_seq fun K2 hK2 => codeW_reg ?_
  refine O_cons (W_it (W_mv rfl ?_))
  refine O_cons (W_it (W_mv rfl ?_))
  refine O_cons (W_it (W_callF (rput_FS bs x 8 (by decide) (by decide) hb) [] rfl (by decide) trivial ?_))
  rintro _ _ ⟨rfl, rfl⟩
  simp only [St.put, renAV, renAC, renReg, renAVs, setAll, upF, List.map_cons, List.map_nil, List.cons_append, List.nil_append, List.append_nil, List.set_cons_zero, List.set_cons_succ]
  refine O_cons (W_it (W_mv rfl ?_))
  refine O_nil (hK2 _ ?_)
  clear hK2 K2
  refine codeW_ret (Fin.here (.inr rfl) ⟨?_, rfl⟩)
  rw [← digs8]
  rfl

def ac35 : ACode := (.seq (.reg [⟨none, (some 4), (.mv (some 4) (.k (.slice none 0 0)))⟩]) (.seq (.reg [⟨none, (some 5), (.mv (some 5) (.t 0))⟩, ⟨none, (some 6), (.mv (some 6) (.t 1))⟩, ⟨none, (some 7), (.call (some 7) 37 [(.t 5), (.t 6)])⟩, ⟨none, (some 4), (.mv (some 4) (.t 7))⟩]) .ret))
theorem tr35 : ((Try.f35.name == "runtime.NumGoroutine") = false ∧ Try.f35.results = ([4].map ResultVar.tmp).toArray) ∧ Try.f35.ntmps = 8 ∧ (Try.f35.body.bind (trCode Try.prog Try.f35.ntmps)) = some ac35 := ⟨⟨by kernel_rfl, by kernel_rfl⟩, by kernel_rfl, by kernel_rfl⟩


theorem rsmall_FS (bs : List (List PV)) (x : Int) (hb : bs.length ≤ 1000000000) :
    FS Try.prog 35 [.c (.p (.sl 1 bs)), .c (.p (.v (.int .i64 x)))] [] fun res rg => res = .c (.p (.sl 1 (bs ++ nums8 [x]))) ∧ rg = [] := by
  refine FS_def [4] 8 Try.func35 tr35 rfl ?_
  unfold ac35
  refine codeW_seq fun K1 hK1 => codeW_reg ?_
  refine O_cons (W_it (W_mv rfl ?_))
  refine O_nil (hK1 _ ?_)
  clear hK1 K1
  refine codeW_seq fun K2 hK2 => codeW_reg ?_
  refine O_cons (W_it (W_mv rfl ?_))
  refine O_cons (W_it (W_mv rfl ?_))
  refine O_cons (W_it (W_callF (rnum_FS bs x hb) [] rfl (by decide) trivial ?_))
  rintro _ _ ⟨rfl, rfl⟩
  simp only [St.put, renAV, renAC, renReg, renAVs, setAll, upF, List.map_cons, List.map_nil, List.cons_append, List.nil_append, List.append_nil, List.set_cons_zero, List.set_cons_succ]
  refine O_cons (W_it (W_mv rfl ?_))
  refine O_nil (hK2 _ ?_)
  clear hK2 K2
  refine codeW_ret (Fin.here (.inr rfl) ⟨?_, rfl⟩)
  rfl

def ac36 : ACode := (.seq (.reg [⟨none, (some 3), (.box (some 3) (.t 1))⟩, ⟨none, (some 4), (.mv (some 4) (.k (.slice none 0 0)))⟩]) (.seq (.reg [⟨none, (some 5), (.mv (some 5) (.t 0))⟩, ⟨none, (some 6), (.fad (some 6) 0 (.t 3))⟩, ⟨none, (some 7), (.load (some 7) 1 false (.t 6))⟩, ⟨none, (some 8), (.call (some 8) 37 [(.t 5), (.t 7)])⟩, ⟨none, (some 0), (.mv (some 0) (.t 8))⟩]) (.seq (.reg [⟨none, (some 9), (.mv (some 9) (.t 0))⟩, ⟨none, (some 10), (.fad (some 10) 1 (.t 3))⟩, ⟨none, (some 11), (.load (some 11) 1 false (.t 10))⟩, ⟨none, (some 12), (.call (some 12) 35 [(.t 9), (.t 11)])⟩, ⟨none, (some 0), (.mv (some 0) (.t 12))⟩]) (.seq (.reg [⟨none, (some 13), (.mv (some 13) (.t 0))⟩, ⟨none, (some 14), (.fad (some 14) 2 (.t 3))⟩, ⟨none, (some 15), (.load (some 15) 1 false (.t 14))⟩, ⟨none, (some 16), (.call (some 16) 35 [(.t 13), (.t 15)])⟩, ⟨none, (some 4), (.mv (some 4) (.t 16))⟩]) .ret))))
theorem tr36 : ((Try.f36.name == "runtime.NumGoroutine") = false ∧ Try.f36.results = ([4].map ResultVar.tmp).toArray) ∧ Try.f36.ntmps = 17 ∧ (Try.f36.body.bind (trCode Try.prog Try.f36.ntmps)) = some ac36 := ⟨⟨by kernel_rfl, by kernel_rfl⟩, by kernel_rfl, by kernel_rfl⟩


theorem rword_FS (bs : List (List PV)) (w : Int × Int × Int) (hb : bs.length + 24 ≤ 1000000000) :
    FS Try.prog 36 [.c (.p (.sl 1 bs)), .agg [.p (.v (.int .i64 w.1)), .p (.v (.int .i64 w.2.1)), .p (.v (.int .i64 w.2.2))]] [] fun res rg => res = .c (.p (.sl 1 (bs ++ words8 [w]))) ∧ rg = [] := by
  refine FS_def [4] 17 Try.func36 tr36 rfl ?_
  unfold ac36
  refine codeW_seq fun K1 hK1 => codeW_reg ?_
  refine O_cons (W_it (W_box rfl ?_))
  refine O_cons (W_it (W_mv rfl ?_))
  refine O_nil (hK1 _ ?_)
  clear hK1 K1
  refine codeW_seq fun K2 hK2 => codeW_reg ?_
  refine O_cons (W_it (W_mv rfl ?_))
  first | refine O_cons (W_it (W_fad_p rfl ?_)) | refine O_cons (W_it (W_fad_e rfl ?_)) | refine O_cons (W_it (W_fad_r rfl ?_))
  first | refine O_cons (W_it (W_load_p rfl rfl rfl rfl ?_)) | refine O_cons (W_it (W_load_r rfl rfl rfl ?_)) | refine O_cons (W_it (W_load_e rfl rfl rfl rfl rfl ?_))
  refine O_cons (W_it (W_callF (rnum_FS bs w.1 (by omega)) [] rfl (by decide) trivial ?_))
  rintro _ _ ⟨rfl, rfl⟩
  simp only [St.put, renAV, renAC, renReg, renAVs, setAll, upF, List.map_cons, List.map_nil, List.cons_append, List.nil_append, List.append_nil, List.set_cons_zero, List.set_cons_succ]
  refine O_cons (W_it (W_mv rfl ?_))
  refine O_nil (hK2 _ ?_)
  clear hK2 K2
  refine codeW_seq fun K3 hK3 => codeW_reg ?_
  refine O_cons (W_it (W_mv rfl ?_))
  first | refine O_cons (W_it (W_fad_p rfl ?_)) | refine O_cons (W_it (W_fad_e rfl ?_)) | refine O_cons (W_it (W_fad_r rfl ?_))
  first | refine O_cons (W_it (W_load_p rfl rfl rfl rfl ?_)) | refine O_cons (W_it (W_load_r rfl rfl rfl ?_)) | refine O_cons (W_it (W_load_e rfl rfl rfl rfl rfl ?_))
  refine O_cons (W_it (W_callF (rsmall_FS (bs ++ nums8 [w.1]) w.2.1 (by rw [List.length_append, nums8_len]; simp; omega)) [] rfl (by decide) trivial ?_))
  rintro _ _ ⟨rfl, rfl⟩
  simp only [St.put, renAV, renAC, renReg, renAVs, setAll, upF, List.map_cons, List.map_nil, List.cons_append, List.nil_append, List.append_nil, List.set_cons_zero, List.set_cons_succ]
  refine O_cons (W_it (W_mv rfl ?_))
  refine O_nil (hK3 _ ?_)
  clear hK3 K3
  refine codeW_seq fun K4 hK4 => codeW_reg ?_
  refine O_cons (W_it (W_mv rfl ?_))
  first | refine O_cons (W_it (W_fad_p rfl ?_)) | refine O_cons (W_it (W_fad_e rfl ?_)) | refine O_cons (W_it (W_fad_r rfl ?_))
  first | refine O_cons (W_it (W_load_p rfl rfl rfl rfl ?_)) | refine O_cons (W_it (W_load_r rfl rfl rfl ?_)) | refine O_cons (W_it (W_load_e rfl rfl rfl rfl rfl ?_))
  refine O_cons (W_it (W_callF (rsmall_FS (bs ++ nums8 [w.1] ++ nums8 [w.2.1]) w.2.2 (by rw [List.length_append, List.length_append, nums8_len, nums8_len]; simp; omega)) [] rfl (by decide) trivial ?_))
  rintro _ _ ⟨rfl, rfl⟩
  simp only [St.put, renAV, renAC, renReg, renAVs, setAll, upF, List.map_cons, List.map_nil, List.cons_append, List.nil_append, List.append_nil, List.set_cons_zero, List.set_cons_succ]
  refine O_cons (W_it (W_mv rfl ?_))
  refine O_nil (hK4 _ ?_)
  clear hK4 K4
  refine codeW_ret (Fin.weak (.inr rfl) (s1 := ⟨[(4, .c (.p (.sl 1 (bs ++ nums8 [w.1] ++ nums8 [w.2.1] ++ nums8 [w.2.2]))))], []⟩) (Weak.ren [] rfl (by decide) trivial ⟨rfl, trivial⟩) ⟨?_, rfl⟩)
  rw [words8_one, show nums8 [w.2.1, w.2.2] = nums8 [w.2.1] ++ nums8 [w.2.2] from nums8_append [_] [_], ← List.append_assoc, ← List.append_assoc]
  rfl

def ac45 : ACode := (.seq (.reg [⟨none, (some 4), (.mv (some 4) (.k (.slice none 0 0)))⟩]) (.seq (.reg [⟨none, (some 6), (.mv (some 6) (.t 0))⟩, ⟨none, (some 7), (.mv (some 7) (.t 1))⟩, ⟨none, (some 8), (.len (some 8) (.t 7))⟩, ⟨none, (some 9), (.call (some 9) 35 [(.t 6), (.t 8)])⟩, ⟨none, (some 0), (.mv (some 0) (.t 9))⟩]) (.seq (.seq (.reg [⟨none, (some 5), (.mv (some 5) (.k (.int .i64 0)))⟩]) (.block 0 (.loop (.seq (.seq (.reg [⟨none, (some 10), (.mv (some 10) (.t 5))⟩, ⟨none, (some 11), (.mv (some 11) (.t 1))⟩, ⟨none, (some 12), (.len (some 12) (.t 11))⟩, ⟨none, (some 13), (.bin (some 13) .lss (.t 10) (.t 12))⟩]) (.cond (.t 13) .skip (.exit 0))) (.seq (.block 1 (.reg [⟨none, (some 16), (.mv (some 16) (.t 0))⟩, ⟨none, (some 17), (.mv (some 17) (.t 1))⟩, ⟨none, (some 18), (.mv (some 18) (.t 5))⟩, ⟨none, (some 19), (.ixs (some 19) 3 (.t 17) (.t 18))⟩, ⟨none, (some 20), (.load (some 20) 3 true (.t 19))⟩, ⟨none, (some 21), (.call (some 21) 36 [(.t 16), (.t 20)])⟩, ⟨none, (some 0), (.mv (some 0) (.t 21))⟩])) (.reg [⟨none, (some 14), (.mv (some 14) (.t 5))⟩, ⟨none, (some 15), (.bin (some 15) .add (.t 14) (.k (.int .i64 1)))⟩, ⟨none, (some 5), (.mv (some 5) (.t 15))⟩])))))) (.seq (.reg [⟨none, (some 22), (.mv (some 22) (.t 0))⟩, ⟨none, (some 4), (.mv (some 4) (.t 22))⟩]) .ret))))
theorem tr45 : ((Try.f45.name == "runtime.NumGoroutine") = false ∧ Try.f45.results = ([4].map ResultVar.tmp).toArray) ∧ Try.f45.ntmps = 23 ∧ (Try.f45.body.bind (trCode Try.prog Try.f45.ntmps)) = some ac45 := ⟨⟨by kernel_rfl, by kernel_rfl⟩, by kernel_rfl, by kernel_rfl⟩


theorem rwords_FS (bs : List (List PV)) (ws : List (Int × Int × Int)) (hb : bs.length + 24 * ws.length + 8 ≤ 1000000000) :
    FS Try.prog 45 [.c (.p (.sl 1 bs)), .c (.p (.sl 3 (words ws)))] [] fun res rg => res = .c (.p (.sl 1 (bs ++ nums8 [(ws.length : Int)] ++ words8 ws))) ∧ rg = [] := by
  refine FS_def [4] 23 Try.func45 tr45 rfl ?_
  unfold ac45
  refine codeW_seq fun K1 hK1 => codeW_reg ?_
  refine O_cons (W_it (W_mv rfl ?_))
  refine O_nil (hK1 _ ?_)
  clear hK1 K1
  refine codeW_seq fun K2 hK2 => codeW_reg ?_
  refine O_cons (W_it (W_mv rfl ?_))
  refine O_cons (W_it (W_mv rfl ?_))
  refine O_cons (W_it (W_len rfl ?_))
  rw [words_len]
  refine O_cons (W_it (W_callF (rsmall_FS bs (ws.length : Int) (by omega)) [] rfl (by decide) trivial ?_))
  rintro _ _ ⟨rfl, rfl⟩
  simp only [St.put, renAV, renAC, renReg, renAVs, setAll, upF, List.map_cons, List.map_nil, List.cons_append, List.nil_append, List.append_nil, List.set_cons_zero, List.set_cons_succ]
  refine O_cons (W_it (W_mv rfl ?_))
  refine O_nil (hK2 _ ?_)
  clear hK2 K2
  refine codeW_seq fun K3 hK3 => ?_
  refine codeW_seq fun K4 hK4 => codeW_reg ?_
  refine O_cons (W_it (W_mv rfl ?_))
  refine O_nil (hK4 _ ?_)
  clear hK4 K4
  refine codeW_block ?_
  refine codeW_weak (s' := ⟨[(5, .c (.p (.v (.int .i64 ((0 : Nat) : Int))))), (1, .c (.p (.sl 3 (words ws)))), (0, .c (.p (.sl 1 (bs ++ nums8 [(ws.length : Int)] ++ words8 (ws.take 0)))))], []⟩) (Weak.ren [] rfl (by decide) trivial ⟨rfl, rfl, ?_, trivial⟩) ?_
  · simp [words8]; rfl
  refine codeW_loop (fun k s => ∃ i : Nat, i + k = ws.length ∧ s = ⟨[(5, .c (.p (.v (.int .i64 (i : Int))))), (1, .c (.p (.sl 3 (words ws)))), (0, .c (.p (.sl 1 (bs ++ nums8 [(ws.length : Int)] ++ words8 (ws.take i)))))], []⟩) ws.length ⟨0, by omega, rfl⟩ ?_
  rintro k s ⟨i, hik, rfl⟩ K hK
  refine codeW_seq fun K5 hK5 => ?_
  refine codeW_seq fun K6 hK6 => codeW_reg ?_
  refine O_cons (W_it (W_mv rfl ?_))
  refine O_cons (W_it (W_mv rfl ?_))
  refine O_cons (W_it (W_len rfl ?_))
  rw [words_len]
  refine O_cons (W_it (W_lss rfl rfl ?_))
  refine O_nil (hK6 _ ?_)
  clear hK6 K6
  refine codeW_cond rfl (fun hc0 => ?_) (fun hc0 => ?_)
  · have hi : i < ws.length := by have := of_decide_eq_true hc0; omega
    refine codeW_skip ?_
    refine (hK5 _ ?_ : K5 _)
    try clear hK5 K5
    refine codeW_seq fun K7 hK7 => ?_
    refine codeW_block ?_
    refine codeW_reg ?_
    refine O_cons (W_it (W_mv rfl ?_))
    refine O_cons (W_it (W_mv rfl ?_))
    refine O_cons (W_it (W_mv rfl ?_))
    first | refine O_cons (W_it (W_ixs_s rfl rfl (by omega) (words_geti (i := i) hi) ?_)) | refine O_cons (W_it (W_ixs_o rfl rfl (by omega) (by omega) ?_))
    first | refine O_cons (W_it (W_load_p rfl rfl rfl rfl ?_)) | refine O_cons (W_it (W_load_r rfl rfl rfl ?_)) | refine O_cons (W_it (W_load_e rfl rfl rfl rfl rfl ?_))
    refine O_cons (W_it (W_callF (rword_FS (bs ++ nums8 [(ws.length : Int)] ++ words8 (ws.take i)) ws[i] (by rw [List.length_append, List.length_append, nums8_len, words8_len, List.length_take]; simp; omega)) [] rfl (by decide) trivial ?_))
    rintro _ _ ⟨rfl, rfl⟩
    simp only [St.put, renAV, renAC, renReg, renAVs, setAll, upF, List.map_cons, List.map_nil, List.cons_append, List.nil_append, List.append_nil, List.set_cons_zero, List.set_cons_succ]
    refine O_cons (W_it (W_mv rfl ?_))
    refine O_nil ?_
    refine (hK7 _ ?_ : K7 _)
    try clear hK7 K7
    refine codeW_reg ?_
    refine O_cons (W_it (W_mv rfl ?_))
    refine O_cons (W_it (W_add rfl rfl ?_))
    refine O_cons (W_it (W_mv rfl ?_))
    refine O_nil ?_
    refine hK _ ⟨k - 1, _, by omega, ?_, i + 1, by omega, rfl⟩
    refine Weak.ren [] rfl (by decide) trivial ⟨?_, rfl, ?_, trivial⟩
    · show AV.c (.p (.v (.int .i64 (IntKind.i64.wrap ((i : Int) + 1))))) = AV.c (.p (.v (.int .i64 ((i + 1 : Nat) : Int))))
      rw [wrap64_id (by omega) (by omega)]
      rfl
    · rw [List.take_succ_eq_append_getElem hi, words8_append, ← List.append_assoc]
      rfl
  · have hi : i = ws.length := by have := of_decide_eq_false hc0; omega
    refine codeW_exit ?_
    refine (hK3 _ ?_ : K3 _)
    try clear hK3 K3
    refine codeW_seq fun K8 hK8 => codeW_reg ?_
    refine O_cons (W_it (W_mv rfl ?_))
    refine O_cons (W_it (W_mv rfl ?_))
    refine O_nil (hK8 _ ?_)
    clear hK8 K8
    refine codeW_ret (Fin.here (.inr rfl) ⟨?_, rfl⟩)
    rw [hi, List.take_length]
    rfl

def ac38 : ACode := (.seq (.reg [⟨none, (some 4), (.mv (some 4) (.k (.slice none 0 0)))⟩]) (.seq (.reg [⟨none, (some 6), (.mv (some 6) (.t 0))⟩, ⟨none, (some 7), (.mv (some 7) (.t 1))⟩, ⟨none, (some 8), (.len (some 8) (.t 7))⟩, ⟨none, (some 9), (.call (some 9) 35 [(.t 6), (.t 8)])⟩, ⟨none, (some 0), (.mv (some 0) (.t 9))⟩]) (.seq (.seq (.reg [⟨none, (some 5), (.mv (some 5) (.k (.int .i64 0)))⟩]) (.block 0 (.loop (.seq (.seq (.reg [⟨none, (some 10), (.mv (some 10) (.t 5))⟩, ⟨none, (some 11), (.mv (some 11) (.t 1))⟩, ⟨none, (some 12), (.len (some 12) (.t 11))⟩, ⟨none, (some 13), (.bin (some 13) .lss (.t 10) (.t 12))⟩]) (.cond (.t 13) .skip (.exit 0))) (.seq (.block 1 (.reg [⟨none, (some 16), (.mv (some 16) (.t 0))⟩, ⟨none, (some 17), (.mv (some 17) (.t 1))⟩, ⟨none, (some 18), (.mv (some 18) (.t 5))⟩, ⟨none, (some 19), (.ixs (some 19) 1 (.t 17) (.t 18))⟩, ⟨none, (some 20), (.load (some 20) 1 false (.t 19))⟩, ⟨none, (some 21), (.call (some 21) 37 [(.t 16), (.t 20)])⟩, ⟨none, (some 0), (.mv (some 0) (.t 21))⟩])) (.reg [⟨none, (some 14), (.mv (some 14) (.t 5))⟩, ⟨none, (some 15), (.bin (some 15) .add (.t 14) (.k (.int .i64 1)))⟩, ⟨none, (some 5), (.mv (some 5) (.t 15))⟩])))))) (.seq (.reg [⟨none, (some 22), (.mv (some 22) (.t 0))⟩, ⟨none, (some 4), (.mv (some 4) (.t 22))⟩]) .ret))))
theorem tr38 : ((Try.f38.name == "runtime.NumGoroutine") = false ∧ Try.f38.results = ([4].map ResultVar.tmp).toArray) ∧ Try.f38.ntmps = 23 ∧ (Try.f38.body.bind (trCode Try.prog Try.f38.ntmps)) = some ac38 := ⟨⟨by kernel_rfl, by kernel_rfl⟩, by kernel_rfl, by kernel_rfl⟩


theorem rnums_FS (bs : List (List PV)) (ws : List Int) (hb : bs.length + 8 * ws.length + 8 ≤ 1000000000) :
    FS Try.prog 38 [.c (.p (.sl 1 bs)), .c (.p (.sl 1 (ints .i64 ws)))] [] fun res rg => res = .c (.p (.sl 1 (bs ++ nums8 [(ws.length : Int)] ++ nums8 ws))) ∧ rg = [] := by
  refine FS_def [4] 23 Try.func38 tr38 rfl ?_
  unfold ac38
  refine codeW_seq fun K1 hK1 => codeW_reg ?_
  refine O_cons (W_it (W_mv rfl ?_))
  refine O_nil (hK1 _ ?_)
  clear hK1 K1
  refine codeW_seq fun K2 hK2 => codeW_reg ?_
  refine O_cons (W_it (W_mv rfl ?_))
  refine O_cons (W_it (W_mv rfl ?_))
  refine O_cons (W_it (W_len rfl ?_))
  rw [ints_len]
  refine O_cons (W_it (W_callF (rsmall_FS bs (ws.length : Int) (by omega)) [] rfl (by decide) trivial ?_))
  rintro _ _ ⟨rfl, rfl⟩
  simp only [St.put, renAV, renAC, renReg, renAVs, setAll, upF, List.map_cons, List.map_nil, List.cons_append, List.nil_append, List.append_nil, List.set_cons_zero, List.set_cons_succ]
  refine O_cons (W_it (W_mv rfl ?_))
  refine O_nil (hK2 _ ?_)
  clear hK2 K2
  refine codeW_seq fun K3 hK3 => ?_
  refine codeW_seq fun K4 hK4 => codeW_reg ?_
  refine O_cons (W_it (W_mv rfl ?_))
  refine O_nil (hK4 _ ?_)
  clear hK4 K4
  refine codeW_block ?_
  refine codeW_weak (s' := ⟨[(5, .c (.p (.v (.int .i64 ((0 : Nat) : Int))))), (1, .c (.p (.sl 1 (ints .i64 ws)))), (0, .c (.p (.sl 1 (bs ++ nums8 [(ws.length : Int)] ++ nums8 (ws.take 0)))))], []⟩) (Weak.ren [] rfl (by decide) trivial ⟨rfl, rfl, ?_, trivial⟩) ?_
  · simp [nums8]; rfl
  refine codeW_loop (fun k s => ∃ i : Nat, i + k = ws.length ∧ s = ⟨[(5, .c (.p (.v (.int .i64 (i : Int))))), (1, .c (.p (.sl 1 (ints .i64 ws)))), (0, .c (.p (.sl 1 (bs ++ nums8 [(ws.length : Int)] ++ nums8 (ws.take i)))))], []⟩) ws.length ⟨0, by omega, rfl⟩ ?_
  rintro k s ⟨i, hik, rfl⟩ K hK
  refine codeW_seq fun K5 hK5 => ?_
  refine codeW_seq fun K6 hK6 => codeW_reg ?_
  refine O_cons (W_it (W_mv rfl ?_))
  refine O_cons (W_it (W_mv rfl ?_))
  refine O_cons (W_it (W_len rfl ?_))
  rw [ints_len]
  refine O_cons (W_it (W_lss rfl rfl ?_))
  refine O_nil (hK6 _ ?_)
  clear hK6 K6
  refine codeW_cond rfl (fun hc0 => ?_) (fun hc0 => ?_)
  · have hi : i < ws.length := by have := of_decide_eq_true hc0; omega
    refine codeW_skip ?_
    refine (hK5 _ ?_ : K5 _)
    try clear hK5 K5
    refine codeW_seq fun K7 hK7 => ?_
    refine codeW_block ?_
    refine codeW_reg ?_
    refine O_cons (W_it (W_mv rfl ?_))
    refine O_cons (W_it (W_mv rfl ?_))
    refine O_cons (W_it (W_mv rfl ?_))
    first | refine O_cons (W_it (W_ixs_s rfl rfl (by omega) (ints_geti (i := i) hi) ?_)) | refine O_cons (W_it (W_ixs_o rfl rfl (by omega) (by omega) ?_))
    first | refine O_cons (W_it (W_load_p rfl rfl rfl rfl ?_)) | refine O_cons (W_it (W_load_r rfl rfl rfl ?_)) | refine O_cons (W_it (W_load_e rfl rfl rfl rfl rfl ?_))
    refine O_cons (W_it (W_callF (rnum_FS (bs ++ nums8 [(ws.length : Int)] ++ nums8 (ws.take i)) ws[i] (by rw [List.length_append, List.length_append, nums8_len, nums8_len, List.length_take]; simp; omega)) [] rfl (by decide) trivial ?_))
    rintro _ _ ⟨rfl, rfl⟩
    simp only [St.put, renAV, renAC, renReg, renAVs, setAll, upF, List.map_cons, List.map_nil, List.cons_append, List.nil_append, List.append_nil, List.set_cons_zero, List.set_cons_succ]
    refine O_cons (W_it (W_mv rfl ?_))
    refine O_nil ?_
    refine (hK7 _ ?_ : K7 _)
    try clear hK7 K7
    refine codeW_reg ?_
    refine O_cons (W_it (W_mv rfl ?_))
    refine O_cons (W_it (W_add rfl rfl ?_))
    refine O_cons (W_it (W_mv rfl ?_))
    refine O_nil ?_
    refine hK _ ⟨k - 1, _, by omega, ?_, i + 1, by omega, rfl⟩
    refine Weak.ren [] rfl (by decide) trivial ⟨?_, rfl, ?_, trivial⟩
    · show AV.c (.p (.v (.int .i64 (IntKind.i64.wrap ((i : Int) + 1))))) = AV.c (.p (.v (.int .i64 ((i + 1 : Nat) : Int))))
      rw [wrap64_id (by omega) (by omega)]
      rfl
    · rw [List.take_succ_eq_append_getElem hi, nums8_append, ← List.append_assoc]
      rfl
  · have hi : i = ws.length := by have := of_decide_eq_false hc0; omega
    refine codeW_exit ?_
    refine (hK3 _ ?_ : K3 _)
    try clear hK3 K3
    refine codeW_seq fun K8 hK8 => codeW_reg ?_
    refine O_cons (W_it (W_mv rfl ?_))
    refine O_cons (W_it (W_mv rfl ?_))
    refine O_nil (hK8 _ ?_)
    clear hK8 K8
    refine codeW_ret (Fin.here (.inr rfl) ⟨?_, rfl⟩)
    rw [hi, List.take_length]
    rfl

def ac41 : ACode := (.seq (.reg [⟨none, (some 6), (.mv (some 6) (.t 0))⟩, ⟨none, (some 7), (.mv (some 7) (.t 1))⟩, ⟨none, (some 8), (.len (some 8) (.t 7))⟩, ⟨none, (some 9), (.bsl (some 9) 1 1 [(.int .i64 0)] [(0, (.t 8))])⟩, ⟨none, (some 10), (.call (some 10) 29 [(.t 6), (.t 9)])⟩]) (.reg [⟨none, (some 11), (.mv (some 11) (.t 2))⟩, ⟨none, (some 12), (.mv (some 12) (.t 1))⟩, ⟨none, (some 13), (.callv (some 13) (.t 11) [(.t 12)])⟩]))
theorem tr41 : ((Try.f41.name == "runtime.NumGoroutine") = false ∧ Try.f41.results = ([].map ResultVar.tmp).toArray) ∧ Try.f41.ntmps = 14 ∧ (Try.f41.body.bind (trCode Try.prog Try.f41.ntmps)) = some ac41 := ⟨⟨by kernel_rfl, by kernel_rfl⟩, by kernel_rfl, by kernel_rfl⟩


theorem list_word_FS (bs : List (List PV)) (ws : List (Int × Int × Int)) (hb : bs.length + 24 * ws.length + 8 ≤ 1000000000) :
    FS Try.prog 41 [.c (.ptr 0 0), .c (.p (.sl 3 (words ws))), .c (.fn (.func 30) [.ptr 0 0] [])] [.ac [.p (.sl 1 bs)]] fun res rg => res = .tup [] ∧ rg = [.ac [.p (.sl 1 (bs ++ nums8 [(ws.length : Int)] ++ words8 ws))]] := by
  refine FS_def [] 14 Try.func41 tr41 rfl ?_
  unfold ac41
  refine codeW_seq fun K1 hK1 => codeW_reg ?_
  refine O_cons (W_it (W_mv rfl ?_))
  refine O_cons (W_it (W_mv rfl ?_))
  refine O_cons (W_it (W_len rfl ?_))
  refine O_cons (W_it (W_bsl rfl ?_))
  rw [words_len]
  refine O_cons (W_it (W_callW (small_FS _ [(ws.length : Int)] ?_) [0] _ [.c (.ptr 0 0), .c (.p (.sl 1 (ints .i64 [(ws.length : Int)])))] [.ac [.p (.sl 1 bs)], .dead] rfl
    (Weak.freeze 1 1 [[.v (.int .i64 ws.length)]] rfl (by simp) ⟨.inl rfl, .inr ⟨0, 1, _, rfl, by simp, rfl⟩, trivial⟩ ⟨frz_keep rfl, frz_dead, trivial⟩) rfl rfl (by decide) ⟨rfl, trivial⟩ ?_))
  · simp; omega
  rintro _ _ ⟨rfl, rfl⟩
  simp only [St.put, renAV, renAC, renReg, renAVs, setAll, upF, List.map_cons, List.map_nil, List.cons_append, List.nil_append, List.append_nil, List.set_cons_zero, List.set_cons_succ]
  refine O_nil (hK1 _ ?_)
  clear hK1 K1
  refine codeW_reg ?_
  refine O_cons (W_it (W_mv rfl ?_))
  refine O_cons (W_it (W_mv rfl ?_))
  refine O_cons (W_it (W_callvW rfl (word_FS _ ws ?_) [0] _ [.c (.ptr 0 0), .c (.p (.sl 3 (words ws)))] [.ac [.p (.sl 1 (bs ++ nums8 [(ws.length : Int)]))], .dead] rfl
    (Weak.refl _ _) rfl rfl (by decide) ⟨rfl, trivial⟩ ?_))
  · rw [List.length_append, nums8_len]; simp; omega
  rintro _ _ ⟨rfl, rfl⟩
  simp only [St.put, renAV, renAC, renReg, renAVs, setAll, upF, List.map_cons, List.map_nil, List.cons_append, List.nil_append, List.append_nil, List.set_cons_zero, List.set_cons_succ]
  refine O_nil ?_
  refine Fin.weak (.inl rfl) (s1 := ⟨[], [.ac [.p (.sl 1 (bs ++ nums8 [(ws.length : Int)] ++ words8 ws))]]⟩) (Weak.ren [0] rfl (by decide) ⟨.inr rfl, trivial⟩ trivial) ⟨rfl, rfl⟩

def ac44 : ACode := (.seq (.reg [⟨none, (some 6), (.mv (some 6) (.t 0))⟩, ⟨none, (some 7), (.mv (some 7) (.t 1))⟩, ⟨none, (some 8), (.len (some 8) (.t 7))⟩, ⟨none, (some 9), (.bsl (some 9) 1 1 [(.int .i64 0)] [(0, (.t 8))])⟩, ⟨none, (some 10), (.call (some 10) 29 [(.t 6), (.t 9)])⟩]) (.reg [⟨none, (some 11), (.mv (some 11) (.t 2))⟩, ⟨none, (some 12), (.mv (some 12) (.t 1))⟩, ⟨none, (some 13), (.callv (some 13) (.t 11) [(.t 12)])⟩]))
theorem tr44 : ((Try.f44.name == "runtime.NumGoroutine") = false ∧ Try.f44.results = ([].map ResultVar.tmp).toArray) ∧ Try.f44.ntmps = 14 ∧ (Try.f44.body.bind (trCode Try.prog Try.f44.ntmps)) = some ac44 := ⟨⟨by kernel_rfl, by kernel_rfl⟩, by kernel_rfl, by kernel_rfl⟩


theorem list_small_FS (bs : List (List PV)) (ws : List Int) (hb : bs.length + 8 * ws.length + 8 ≤ 1000000000) :
    FS Try.prog 44 [.c (.ptr 0 0), .c (.p (.sl 1 (ints .i64 ws))), .c (.fn (.func 29) [.ptr 0 0] [])] [.ac [.p (.sl 1 bs)]] fun res rg => res = .tup [] ∧ rg = [.ac [.p (.sl 1 (bs ++ nums8 [(ws.length : Int)] ++ nums8 ws))]] := by
  refine FS_def [] 14 Try.func44 tr44 rfl ?_
  unfold ac44
  refine codeW_seq fun K1 hK1 => codeW_reg ?_
  refine O_cons (W_it (W_mv rfl ?_))
  refine O_cons (W_it (W_mv rfl ?_))
  refine O_cons (W_it (W_len rfl ?_))
  refine O_cons (W_it (W_bsl rfl ?_))
  rw [ints_len]
  refine O_cons (W_it (W_callW (small_FS _ [(ws.length : Int)] ?_) [0] _ [.c (.ptr 0 0), .c (.p (.sl 1 (ints .i64 [(ws.length : Int)])))] [.ac [.p (.sl 1 bs)], .dead] rfl
    (Weak.freeze 1 1 [[.v (.int .i64 ws.length)]] rfl (by simp) ⟨.inl rfl, .inr ⟨0, 1, _, rfl, by simp, rfl⟩, trivial⟩ ⟨frz_keep rfl, frz_dead, trivial⟩) rfl rfl (by decide) ⟨rfl, trivial⟩ ?_))
  · simp; omega
  rintro _ _ ⟨rfl, rfl⟩
  simp only [St.put, renAV, renAC, renReg, renAVs, setAll, upF, List.map_cons, List.map_nil, List.cons_append, List.nil_append, List.append_nil, List.set_cons_zero, List.set_cons_succ]
  refine O_nil (hK1 _ ?_)
  clear hK1 K1
  refine codeW_reg ?_
  refine O_cons (W_it (W_mv rfl ?_))
  refine O_cons (W_it (W_mv rfl ?_))
  refine O_cons (W_it (W_callvW rfl (small_FS _ ws ?_) [0] _ [.c (.ptr 0 0), .c (.p (.sl 1 (ints .i64 ws)))] [.ac [.p (.sl 1 (bs ++ nums8 [(ws.length : Int)]))], .dead] rfl
    (Weak.refl _ _) rfl rfl (by decide) ⟨rfl, trivial⟩ ?_))
  · rw [List.length_append, nums8_len]; simp; omega
  rintro _ _ ⟨rfl, rfl⟩
  simp only [St.put, renAV, renAC, renReg, renAVs, setAll, upF, List.map_cons, List.map_nil, List.cons_append, List.nil_append, List.append_nil, List.set_cons_zero, List.set_cons_succ]
  refine O_nil ?_
  refine Fin.weak (.inl rfl) (s1 := ⟨[], [.ac [.p (.sl 1 (bs ++ nums8 [(ws.length : Int)] ++ nums8 ws))]]⟩) (Weak.ren [0] rfl (by decide) ⟨.inr rfl, trivial⟩ trivial) ⟨rfl, rfl⟩

def ac34 : ACode := (.seq (.reg [⟨none, (some 5), (.mv (some 5) (.t 0))⟩, ⟨none, (some 6), (.len (some 6) (.t 5))⟩, ⟨none, (some 7), (.mv (some 7) (.k (.int .i64 0)))⟩]) (.block 0 (.loop (.seq (.reg [⟨none, (some 8), (.bin (some 8) .lss (.t 7) (.t 6))⟩]) (.seq (.cond (.t 8) .skip (.exit 0)) (.seq (.block 1 (.seq (.reg [⟨none, (some 9), (.ixs (some 9) 3 (.t 5) (.t 7))⟩, ⟨none, (some 10), (.load (some 10) 3 true (.t 9))⟩, ⟨none, (some 4), (.alloc (some 4) [(.int .i64 0), (.int .i64 0), (.int .i64 0)])⟩, ⟨none, none, (.store 3 (.t 4) (.t 10))⟩]) (.seq (.reg [⟨none, (some 11), (.load (some 11) 1 false (.t 1))⟩, ⟨none, (some 12), (.fad (some 12) 0 (.t 4))⟩, ⟨none, (some 13), (.load (some 13) 1 false (.t 12))⟩, ⟨none, (some 14), (.fad (some 14) 1 (.t 4))⟩, ⟨none, (some 15), (.load (some 15) 1 false (.t 14))⟩, ⟨none, (some 16), (.bsl (some 16) 1 2 [(.int .i64 0)] [(0, (.t 13)), (1, (.t 15))])⟩, ⟨none, (some 17), (.call (some 17) 29 [(.t 11), (.t 16)])⟩]) (.reg [⟨none, (some 18), (.load (some 18) 1 false (.t 1))⟩, ⟨none, (some 19), (.fad (some 19) 2 (.t 4))⟩, ⟨none, (some 20), (.load (some 20) 1 false (.t 19))⟩, ⟨none, (some 21), (.bsl (some 21) 1 1 [(.int .i64 0)] [(0, (.t 20))])⟩, ⟨none, (some 22), (.call (some 22) 31 [(.t 18), (.t 21)])⟩])))) (.reg [⟨none, (some 23), (.bin (some 23) .add (.t 7) (.k (.int .i64 1)))⟩, ⟨none, (some 7), (.mv (some 7) (.t 23))⟩])))))))
theorem tr34 : ((Try.f34.name == "runtime.NumGoroutine") = false ∧ Try.f34.results = ([].map ResultVar.tmp).toArray) ∧ Try.f34.ntmps = 24 ∧ (Try.f34.body.bind (trCode Try.prog Try.f34.ntmps)) = some ac34 := ⟨⟨by kernel_rfl, by kernel_rfl⟩, by kernel_rfl, by kernel_rfl⟩


theorem words8_one' (w : Int × Int × Int) : words8 [w] = nums8 [w.1, w.2.1] ++ nums8 [w.2.2] := by rw [← nums8_append]; simp [words8]
theorem bag_FS (bs : List (List PV)) (ws : List (Int × Int × Int)) (hb : bs.length + 24 * ws.length ≤ 1000000000) :
    FS Try.prog 34 [.c (.p (.sl 3 (words ws))), .c (.ptr 1 0)] [.ac [.p (.sl 1 bs)], .ac [.ptr 0 0]] fun res rg => res = .tup [] ∧ rg = [.ac [.p (.sl 1 (bs ++ words8 ws))], .ac [.ptr 0 0]] := by
  refine FS_def [] 24 Try.func34 tr34 rfl ?_
  unfold ac34
  refine codeW_seq fun K1 hK1 => codeW_reg ?_
  refine O_cons (W_it (W_mv rfl ?_))
  refine O_cons (W_it (W_len rfl ?_))
  refine O_cons (W_it (W_mv rfl ?_))
  refine O_nil (hK1 _ ?_)
  clear hK1 K1
  refine codeW_block ?_
  refine codeW_weak (s' := ⟨[(7, .c (.p (.v (.int .i64 ((0 : Nat) : Int))))), (6, .c (.p (.v (.int .i64 (ws.length : Int))))), (5, .c (.p (.sl 3 (words ws)))), (1, .c (.ptr 1 0))], [.ac [.p (.sl 1 bs)], .ac [.ptr 0 0]]⟩) (Weak.ren [0, 1] rfl (by decide) ⟨.inr rfl, .inr rfl, trivial⟩ ⟨rfl, ?_, rfl, rfl, trivial⟩) ?_
  · exact congrArg (fun n : Nat => AV.c (.p (.v (.int .i64 (n : Int))))) (words_len _)
  refine codeW_loop (fun k s => ∃ i : Nat, i + k = ws.length ∧ s = ⟨[(7, .c (.p (.v (.int .i64 (i : Int))))), (6, .c (.p (.v (.int .i64 (ws.length : Int))))), (5, .c (.p (.sl 3 (words ws)))), (1, .c (.ptr 1 0))], [.ac [.p (.sl 1 (bs ++ words8 (ws.take i)))], .ac [.ptr 0 0]]⟩) ws.length ⟨0, by omega, by simp [words8]⟩ ?_
  rintro k s ⟨i, hik, rfl⟩ K hK
  refine codeW_seq fun K2 hK2 => codeW_reg ?_
  refine O_cons (W_it (W_lss rfl rfl ?_))
  refine O_nil (hK2 _ ?_)
  clear hK2 K2
  refine codeW_seq fun K3 hK3 => ?_
  refine codeW_cond rfl (fun hc0 => ?_) (fun hc0 => ?_)
  · have hi : i < ws.length := by have := of_decide_eq_true hc0; omega
    refine codeW_skip ?_
    refine (hK3 _ ?_ : K3 _)
    try clear hK3 K3
    refine codeW_seq fun K4 hK4 => ?_
    refine codeW_block ?_
    refine codeW_seq fun K5 hK5 => codeW_reg ?_
    first | refine O_cons (W_it (W_ixs_s rfl rfl (by omega) (words_geti (i := i) hi) ?_)) | refine O_cons (W_it (W_ixs_o rfl rfl (by omega) (by omega) ?_))
    first | refine O_cons (W_it (W_load_p rfl rfl rfl rfl ?_)) | refine O_cons (W_it (W_load_r rfl rfl rfl ?_)) | refine O_cons (W_it (W_load_e rfl rfl rfl rfl rfl ?_))
    refine O_cons (W_it (W_alloc ?_))
    first | refine O_cons (W_it (W_store_p rfl rfl rfl rfl rfl rfl ?_)) | refine O_cons (W_it (W_store_e rfl rfl rfl rfl rfl rfl rfl ?_))
    refine O_nil (hK5 _ ?_)
    clear hK5 K5
    refine codeW_seq fun K6 hK6 => codeW_reg ?_
    first | refine O_cons (W_it (W_load_p rfl rfl rfl rfl ?_)) | refine O_cons (W_it (W_load_r rfl rfl rfl ?_)) | refine O_cons (W_it (W_load_e rfl rfl rfl rfl rfl ?_))
    first | refine O_cons (W_it (W_fad_p rfl ?_)) | refine O_cons (W_it (W_fad_e rfl ?_)) | refine O_cons (W_it (W_fad_r rfl ?_))
    first | refine O_cons (W_it (W_load_p rfl rfl rfl rfl ?_)) | refine O_cons (W_it (W_load_r rfl rfl rfl ?_)) | refine O_cons (W_it (W_load_e rfl rfl rfl rfl rfl ?_))
    first | refine O_cons (W_it (W_fad_p rfl ?_)) | refine O_cons (W_it (W_fad_e rfl ?_)) | refine O_cons (W_it (W_fad_r rfl ?_))
    first | refine O_cons (W_it (W_load_p rfl rfl rfl rfl ?_)) | refine O_cons (W_it (W_load_r rfl rfl rfl ?_)) | refine O_cons (W_it (W_load_e rfl rfl rfl rfl rfl ?_))
    refine O_cons (W_it (W_bsl rfl ?_))
    refine O_cons (W_it (W_callW (small_FS _ [ws[i].1, ws[i].2.1] ?_) [0] _ [.c (.ptr 0 0), .c (.p (.sl 1 (ints .i64 [ws[i].1, ws[i].2.1])))] [.ac [.p (.sl 1 (bs ++ words8 (ws.take i)))], .ac [.ptr 0 0], .ac [.p (.v (.int .i64 ws[i].1)), .p (.v (.int .i64 ws[i].2.1)), .p (.v (.int .i64 ws[i].2.2))], .dead] rfl
      (Weak.freeze 3 1 [[.v (.int .i64 ws[i].1)], [.v (.int .i64 ws[i].2.1)]] rfl (by simp) ⟨.inl rfl, .inr ⟨0, 2, _, rfl, by simp, rfl⟩, trivial⟩ ⟨frz_keep rfl, frz_keep rfl, frz_keep rfl, frz_dead, trivial⟩) rfl rfl (by decide) ⟨rfl, trivial⟩ ?_))
    · rw [List.length_append, words8_len, List.length_take]; simp; omega
    rintro _ _ ⟨rfl, rfl⟩
    simp only [St.put, renAV, renAC, renReg, renAVs, setAll, upF, List.map_cons, List.map_nil, List.cons_append, List.nil_append, List.append_nil, List.set_cons_zero, List.set_cons_succ]
    refine O_nil (hK6 _ ?_)
    clear hK6 K6
    refine codeW_reg ?_
    first | refine O_cons (W_it (W_load_p rfl rfl rfl rfl ?_)) | refine O_cons (W_it (W_load_r rfl rfl rfl ?_)) | refine O_cons (W_it (W_load_e rfl rfl rfl rfl rfl ?_))
    first | refine O_cons (W_it (W_fad_p rfl ?_)) | refine O_cons (W_it (W_fad_e rfl ?_)) | refine O_cons (W_it (W_fad_r rfl ?_))
    first | refine O_cons (W_it (W_load_p rfl rfl rfl rfl ?_)) | refine O_cons (W_it (W_load_r rfl rfl rfl ?_)) | refine O_cons (W_it (W_load_e rfl rfl rfl rfl rfl ?_))
    refine O_cons (W_it (W_bsl rfl ?_))
    refine O_cons (W_it (W_callW (num_FS _ [ws[i].2.2] ?_) [0] _ [.c (.ptr 0 0), .c (.p (.sl 1 (ints .i64 [ws[i].2.2])))] [.ac [.p (.sl 1 (bs ++ words8 (ws.take i) ++ nums8 [ws[i].1, ws[i].2.1]))], .ac [.ptr 0 0], .ac [.p (.v (.int .i64 ws[i].1)), .p (.v (.int .i64 ws[i].2.1)), .p (.v (.int .i64 ws[i].2.2))], .dead, .dead] rfl
      (Weak.freeze 4 1 [[.v (.int .i64 ws[i].2.2)]] rfl (by simp) ⟨.inl rfl, .inr ⟨0, 1, _, rfl, by simp, rfl⟩, trivial⟩ ⟨frz_keep rfl, frz_keep rfl, frz_keep rfl, frz_keep rfl, frz_dead, trivial⟩) rfl rfl (by decide) ⟨rfl, trivial⟩ ?_))
    · rw [List.length_append, List.length_append, words8_len, List.length_take, nums8_len]; simp; omega
    rintro _ _ ⟨rfl, rfl⟩
    simp only [St.put, renAV, renAC, renReg, renAVs, setAll, upF, List.map_cons, List.map_nil, List.cons_append, List.nil_append, List.append_nil, List.set_cons_zero, List.set_cons_succ]
    refine O_nil ?_
    refine (hK4 _ ?_ : K4 _)
    try clear hK4 K4
    refine codeW_reg ?_
    refine O_cons (W_it (W_add rfl rfl ?_))
    refine O_cons (W_it (W_mv rfl ?_))
    refine O_nil ?_
    refine hK _ ⟨k - 1, _, by omega, ?_, i + 1, by omega, rfl⟩
    refine Weak.ren [0, 1] rfl (by decide) ⟨.inr ?_, .inr rfl, trivial⟩ ⟨?_, rfl, rfl, rfl, trivial⟩
    · rw [List.take_succ_eq_append_getElem hi, words8_append, words8_one', ← List.append_assoc, ← List.append_assoc]
      rfl
    · show AV.c (.p (.v (.int .i64 (IntKind.i64.wrap ((i : Int) + 1))))) = _
      rw [wrap64_id (by omega) (by omega)]
      rfl
  · have hi : i = ws.length := by have := of_decide_eq_false hc0; omega
    subst hi
    refine codeW_exit ?_
    refine Fin.here (.inl rfl) ⟨rfl, ?_⟩
    rw [List.take_length]

def ac33 : ACode := (.seq (.reg [⟨none, (some 6), (.mv (some 6) (.t 0))⟩, ⟨none, (some 7), (.mv (some 7) (.t 1))⟩, ⟨none, (some 8), (.len (some 8) (.t 7))⟩, ⟨none, (some 9), (.bsl (some 9) 1 1 [(.int .i64 0)] [(0, (.t 8))])⟩, ⟨none, (some 10), (.call (some 10) 29 [(.t 6), (.t 9)])⟩]) (.reg [⟨none, (some 11), (.mv (some 11) (.t 2))⟩, ⟨none, (some 12), (.mv (some 12) (.t 1))⟩, ⟨none, (some 13), (.callv (some 13) (.t 11) [(.t 12)])⟩]))
theorem tr33 : ((Try.f33.name == "runtime.NumGoroutine") = false ∧ Try.f33.results = ([].map ResultVar.tmp).toArray) ∧ Try.f33.ntmps = 14 ∧ (Try.f33.body.bind (trCode Try.prog Try.f33.ntmps)) = some ac33 := ⟨⟨by kernel_rfl, by kernel_rfl⟩, by kernel_rfl, by kernel_rfl⟩


theorem list_bag_FS (bs : List (List PV)) (ws : List (Int × Int × Int)) (hb : bs.length + 24 * ws.length + 8 ≤ 1000000000) :
    FS Try.prog 33 [.c (.ptr 0 0), .c (.p (.sl 3 (words ws))), .c (.fn (.func 34) [] [.ptr 1 0])] [.ac [.p (.sl 1 bs)], .ac [.ptr 0 0]] fun res rg => res = .tup [] ∧ rg = [.ac [.p (.sl 1 (bs ++ nums8 [(ws.length : Int)] ++ words8 ws))], .ac [.ptr 0 0]] := by
  refine FS_def [] 14 Try.func33 tr33 rfl ?_
  unfold ac33
  refine codeW_seq fun K1 hK1 => codeW_reg ?_
  refine O_cons (W_it (W_mv rfl ?_))
  refine O_cons (W_it (W_mv rfl ?_))
  refine O_cons (W_it (W_len rfl ?_))
  refine O_cons (W_it (W_bsl rfl ?_))
  rw [words_len]
  refine O_cons (W_it (W_callW (small_FS _ [(ws.length : Int)] ?_) [0] _ [.c (.ptr 0 0), .c (.p (.sl 1 (ints .i64 [(ws.length : Int)])))] [.ac [.p (.sl 1 bs)], .ac [.ptr 0 0], .dead] rfl
    (Weak.freeze 2 1 [[.v (.int .i64 ws.length)]] rfl (by simp) ⟨.inl rfl, .inr ⟨0, 1, _, rfl, by simp, rfl⟩, trivial⟩ ⟨frz_keep rfl, frz_keep rfl, frz_dead, trivial⟩) rfl rfl (by decide) ⟨rfl, trivial⟩ ?_))
  · simp; omega
  rintro _ _ ⟨rfl, rfl⟩
  simp only [St.put, renAV, renAC, renReg, renAVs, setAll, upF, List.map_cons, List.map_nil, List.cons_append, List.nil_append, List.append_nil, List.set_cons_zero, List.set_cons_succ]
  refine O_nil (hK1 _ ?_)
  clear hK1 K1
  refine codeW_reg ?_
  refine O_cons (W_it (W_mv rfl ?_))
  refine O_cons (W_it (W_mv rfl ?_))
  refine O_cons (W_it (W_callvW rfl (bag_FS _ ws ?_) [0, 1] _ [.c (.p (.sl 3 (words ws))), .c (.ptr 1 0)] [.ac [.p (.sl 1 (bs ++ nums8 [(ws.length : Int)]))], .ac [.ptr 0 0], .dead] rfl
    (Weak.refl _ _) rfl rfl (by decide) ⟨rfl, rfl, trivial⟩ ?_))
  · rw [List.length_append, nums8_len]; simp; omega
  rintro _ _ ⟨rfl, rfl⟩
  simp only [St.put, renAV, renAC, renReg, renAVs, setAll, upF, List.map_cons, List.map_nil, List.cons_append, List.nil_append, List.append_nil, List.set_cons_zero, List.set_cons_succ]
  refine O_nil ?_
  refine Fin.weak (.inl rfl) (s1 := ⟨[], [.ac [.p (.sl 1 (bs ++ nums8 [(ws.length : Int)] ++ words8 ws))], .ac [.ptr 0 0]]⟩) (Weak.ren [0, 1] rfl (by decide) ⟨.inr rfl, .inr rfl, trivial⟩ trivial) ⟨rfl, rfl⟩

def ac40 : ACode := (.seq (.reg [⟨none, (some 5), (.mv (some 5) (.t 0))⟩, ⟨none, (some 6), (.len (some 6) (.t 5))⟩, ⟨none, (some 7), (.mv (some 7) (.k (.int .i64 0)))⟩]) (.block 0 (.loop (.seq (.reg [⟨none, (some 8), (.bin (some 8) .lss (.t 7) (.t 6))⟩]) (.seq (.cond (.t 8) .skip (.exit 0)) (.seq (.block 1 (.seq (.reg [⟨none, (some 9), (.ixs (some 9) 8 (.t 5) (.t 7))⟩, ⟨none, (some 10), (.load (some 10) 8 true (.t 9))⟩, ⟨none, (some 4), (.alloc (some 4) [(.int .i64 0), (.int .i64 0), (.int .i64 0), (.int .i64 0), (.int .i64 0), (.int .i64 0), (.int .i64 0), (.int .i64 0)])⟩, ⟨none, none, (.store 8 (.t 4) (.t 10))⟩]) (.seq (.reg [⟨none, (some 11), (.load (some 11) 1 false (.t 1))⟩, ⟨none, (some 12), (.fad (some 12) 0 (.t 4))⟩, ⟨none, (some 13), (.fad (some 13) 0 (.t 12))⟩, ⟨none, (some 14), (.load (some 14) 1 false (.t 13))⟩, ⟨none, (some 15), (.fad (some 15) 0 (.t 4))⟩, ⟨none, (some 16), (.fad (some 16) 1 (.t 15))⟩, ⟨none, (some 17), (.load (some 17) 1 false (.t 16))⟩, ⟨none, (some 18), (.fad (some 18) 0 (.t 4))⟩, ⟨none, (some 19), (.fad (some 19) 2 (.t 18))⟩, ⟨none, (some 20), (.load (some 20) 1 false (.t 19))⟩, ⟨none, (some 21), (.bsl (some 21) 1 3 [(.int .i64 0)] [(0, (.t 14)), (1, (.t 17)), (2, (.t 20))])⟩, ⟨none, (some 22), (.call (some 22) 29 [(.t 11), (.t 21)])⟩]) (.seq (.reg [⟨none, (some 23), (.load (some 23) 1 false (.t 1))⟩, ⟨none, (some 24), (.fad (some 24) 3 (.t 4))⟩, ⟨none, (some 25), (.load (some 25) 3 true (.t 24))⟩, ⟨none, (some 26), (.bsl (some 26) 3 1 [(.int .i64 0), (.int .i64 0), (.int .i64 0)] [(0, (.t 25))])⟩, ⟨none, (some 27), (.call (some 27) 30 [(.t 23), (.t 26)])⟩]) (.reg [⟨none, (some 28), (.load (some 28) 1 false (.t 1))⟩, ⟨none, (some 29), (.fad (some 29) 6 (.t 4))⟩, ⟨none, (some 30), (.load (some 30) 1 false (.t 29))⟩, ⟨none, (some 31), (.fad (some 31) 7 (.t 4))⟩, ⟨none, (some 32), (.load (some 32) 1 false (.t 31))⟩, ⟨none, (some 33), (.bsl (some 33) 1 2 [(.int .i64 0)] [(0, (.t 30)), (1, (.t 32))])⟩, ⟨none, (some 34), (.call (some 34) 29 [(.t 28), (.t 33)])⟩]))))) (.reg [⟨none, (some 35), (.bin (some 35) .add (.t 7) (.k (.int .i64 1)))⟩, ⟨none, (some 7), (.mv (some 7) (.t 35))⟩])))))))
theorem tr40 : ((Try.f40.name == "runtime.NumGoroutine") = false ∧ Try.f40.results = ([].map ResultVar.tmp).toArray) ∧ Try.f40.ntmps = 36 ∧ (Try.f40.body.bind (trCode Try.prog Try.f40.ntmps)) = some ac40 := ⟨⟨by kernel_rfl, by kernel_rfl⟩, by kernel_rfl, by kernel_rfl⟩


abbrev Ent := (Int × Int × Int) × (Int × Int × Int) × (Int × Int)
def ents (ws : List Ent) : List (List PV) := ws.map fun e => [.v (.int .i64 e.1.1), .v (.int .i64 e.1.2.1), .v (.int .i64 e.1.2.2), .v (.int .i64 e.2.1.1), .v (.int .i64 e.2.1.2.1), .v (.int .i64 e.2.1.2.2), .v (.int .i64 e.2.2.1), .v (.int .i64 e.2.2.2)]
def ents8 (ws : List Ent) : List (List PV) := ws.flatMap fun e => nums8 [e.1.1, e.1.2.1, e.1.2.2] ++ words8 [e.2.1] ++ nums8 [e.2.2.1, e.2.2.2]
theorem ents_len (ws : List Ent) : (ents ws).length = ws.length := by simp [ents]
theorem ents_geti {ws : List Ent} {i : Nat} (h : i < ws.length) : (ents ws)[(i : Int).toNat]? = some [.v (.int .i64 ws[i].1.1), .v (.int .i64 ws[i].1.2.1), .v (.int .i64 ws[i].1.2.2), .v (.int .i64 ws[i].2.1.1), .v (.int .i64 ws[i].2.1.2.1), .v (.int .i64 ws[i].2.1.2.2), .v (.int .i64 ws[i].2.2.1), .v (.int .i64 ws[i].2.2.2)] := by simp [ents, h]
theorem ents8_append (a b : List Ent) : ents8 (a ++ b) = ents8 a ++ ents8 b := by simp [ents8]
theorem ents8_one (e : Ent) : ents8 [e] = nums8 [e.1.1, e.1.2.1, e.1.2.2] ++ words8 [e.2.1] ++ nums8 [e.2.2.1, e.2.2.2] := by simp [ents8]
theorem ents8_len (ws : List Ent) : (ents8 ws).length = 64 * ws.length := by
  induction ws with
  | nil => rfl
  | cons n ws ih => rw [ents8, List.flatMap_cons, List.length_append, ← ents8, ih, List.length_append, List.length_append, nums8_len, words8_len, nums8_len]; simp; omega
theorem ent_FS (bs : List (List PV)) (ws : List Ent) (hb : bs.length + 64 * ws.length ≤ 1000000000) :
    FS Try.prog 40 [.c (.p (.sl 8 (ents ws))), .c (.ptr 1 0)] [.ac [.p (.sl 1 bs)], .ac [.ptr 0 0]] fun res rg => res = .tup [] ∧ rg = [.ac [.p (.sl 1 (bs ++ ents8 ws))], .ac [.ptr 0 0]] := by
  refine FS_def [] 36 Try.func40 tr40 rfl ?_
  unfold ac40
  refine codeW_seq fun K1 hK1 => codeW_reg ?_
  refine O_cons (W_it (W_mv rfl ?_))
  refine O_cons (W_it (W_len rfl ?_))
  refine O_cons (W_it (W_mv rfl ?_))
  refine O_nil (hK1 _ ?_)
  clear hK1 K1
  refine codeW_block ?_
  refine codeW_weak (s' := ⟨[(7, .c (.p (.v (.int .i64 ((0 : Nat) : Int))))), (6, .c (.p (.v (.int .i64 (ws.length : Int))))), (5, .c (.p (.sl 8 (ents ws)))), (1, .c (.ptr 1 0))], [.ac [.p (.sl 1 bs)], .ac [.ptr 0 0]]⟩) (Weak.ren [0, 1] rfl (by decide) ⟨.inr rfl, .inr rfl, trivial⟩ ⟨rfl, ?_, rfl, rfl, trivial⟩) ?_
  · exact congrArg (fun n : Nat => AV.c (.p (.v (.int .i64 (n : Int))))) (ents_len _)
  refine codeW_loop (fun k s => ∃ i : Nat, i + k = ws.length ∧ s = ⟨[(7, .c (.p (.v (.int .i64 (i : Int))))), (6, .c (.p (.v (.int .i64 (ws.length : Int))))), (5, .c (.p (.sl 8 (ents ws)))), (1, .c (.ptr 1 0))], [.ac [.p (.sl 1 (bs ++ ents8 (ws.take i)))], .ac [.ptr 0 0]]⟩) ws.length ⟨0, by omega, by simp [ents8]⟩ ?_
  rintro k s ⟨i, hik, rfl⟩ K hK
  refine codeW_seq fun K2 hK2 => codeW_reg ?_
  refine O_cons (W_it (W_lss rfl rfl ?_))
  refine O_nil (hK2 _ ?_)
  clear hK2 K2
  refine codeW_seq fun K3 hK3 => ?_
  refine codeW_cond rfl (fun hc0 => ?_) (fun hc0 => ?_)
  · have hi : i < ws.length := by have := of_decide_eq_true hc0; omega
    have hlen : (bs ++ ents8 (ws.take i)).length + 64 ≤ 1000000000 := by rw [List.length_append, ents8_len, List.length_take]; omega
    refine codeW_skip ?_
    refine (hK3 _ ?_ : K3 _)
    try clear hK3 K3
    refine codeW_seq fun K4 hK4 => ?_
    refine codeW_block ?_
    refine codeW_seq fun K5 hK5 => codeW_reg ?_
    first | refine O_cons (W_it (W_ixs_s rfl rfl (by omega) (ents_geti (i := i) hi) ?_)) | refine O_cons (W_it (W_ixs_o rfl rfl (by omega) (by omega) ?_))
    first | refine O_cons (W_it (W_load_p rfl rfl rfl rfl ?_)) | refine O_cons (W_it (W_load_r rfl rfl rfl ?_)) | refine O_cons (W_it (W_load_e rfl rfl rfl rfl rfl ?_))
    refine O_cons (W_it (W_alloc ?_))
    first | refine O_cons (W_it (W_store_p rfl rfl rfl rfl rfl rfl ?_)) | refine O_cons (W_it (W_store_e rfl rfl rfl rfl rfl rfl rfl ?_))
    refine O_nil (hK5 _ ?_)
    clear hK5 K5
    refine codeW_seq fun K6 hK6 => codeW_reg ?_
    first | refine O_cons (W_it (W_load_p rfl rfl rfl rfl ?_)) | refine O_cons (W_it (W_load_r rfl rfl rfl ?_)) | refine O_cons (W_it (W_load_e rfl rfl rfl rfl rfl ?_))
    first | refine O_cons (W_it (W_fad_p rfl ?_)) | refine O_cons (W_it (W_fad_e rfl ?_)) | refine O_cons (W_it (W_fad_r rfl ?_))
    first | refine O_cons (W_it (W_fad_p rfl ?_)) | refine O_cons (W_it (W_fad_e rfl ?_)) | refine O_cons (W_it (W_fad_r rfl ?_))
    first | refine O_cons (W_it (W_load_p rfl rfl rfl rfl ?_)) | refine O_cons (W_it (W_load_r rfl rfl rfl ?_)) | refine O_cons (W_it (W_load_e rfl rfl rfl rfl rfl ?_))
    first | refine O_cons (W_it (W_fad_p rfl ?_)) | refine O_cons (W_it (W_fad_e rfl ?_)) | refine O_cons (W_it (W_fad_r rfl ?_))
    first | refine O_cons (W_it (W_fad_p rfl ?_)) | refine O_cons (W_it (W_fad_e rfl ?_)) | refine O_cons (W_it (W_fad_r rfl ?_))
    first | refine O_cons (W_it (W_load_p rfl rfl rfl rfl ?_)) | refine O_cons (W_it (W_load_r rfl rfl rfl ?_)) | refine O_cons (W_it (W_load_e rfl rfl rfl rfl rfl ?_))
    first | refine O_cons (W_it (W_fad_p rfl ?_)) | refine O_cons (W_it (W_fad_e rfl ?_)) | refine O_cons (W_it (W_fad_r rfl ?_))
    first | refine O_cons (W_it (W_fad_p rfl ?_)) | refine O_cons (W_it (W_fad_e rfl ?_)) | refine O_cons (W_it (W_fad_r rfl ?_))
    first | refine O_cons (W_it (W_load_p rfl rfl rfl rfl ?_)) | refine O_cons (W_it (W_load_r rfl rfl rfl ?_)) | refine O_cons (W_it (W_load_e rfl rfl rfl rfl rfl ?_))
    refine O_cons (W_it (W_bsl rfl ?_))
    refine O_cons (W_it (W_callW (small_FS _ [ws[i].1.1, ws[i].1.2.1, ws[i].1.2.2] ?_) [0] _ [.c (.ptr 0 0), .c (.p (.sl 1 (ints .i64 [ws[i].1.1, ws[i].1.2.1, ws[i].1.2.2])))] [.ac [.p (.sl 1 (bs ++ ents8 (ws.take i)))], .ac [.ptr 0 0], .ac [.p (.v (.int .i64 ws[i].1.1)), .p (.v (.int .i64 ws[i].1.2.1)), .p (.v (.int .i64 ws[i].1.2.2)), .p (.v (.int .i64 ws[i].2.1.1)), .p (.v (.int .i64 ws[i].2.1.2.1)), .p (.v (.int .i64 ws[i].2.1.2.2)), .p (.v (.int .i64 ws[i].2.2.1)), .p (.v (.int .i64 ws[i].2.2.2))], .dead] rfl
      (Weak.freeze 3 1 [[.v (.int .i64 ws[i].1.1)], [.v (.int .i64 ws[i].1.2.1)], [.v (.int .i64 ws[i].1.2.2)]] rfl (by simp) ⟨.inl rfl, .inr ⟨0, 3, _, rfl, by simp, rfl⟩, trivial⟩ ⟨frz_keep rfl, frz_keep rfl, frz_keep rfl, frz_dead, trivial⟩) rfl rfl (by decide) ⟨rfl, trivial⟩ ?_))
    · simp only [List.length_cons, List.length_nil]; omega
    rintro _ _ ⟨rfl, rfl⟩
    simp only [St.put, renAV, renAC, renReg, renAVs, setAll, upF, List.map_cons, List.map_nil, List.cons_append, List.nil_append, List.append_nil, List.set_cons_zero, List.set_cons_succ]
    refine O_nil (hK6 _ ?_)
    clear hK6 K6
    refine codeW_seq fun K7 hK7 => codeW_reg ?_
    first | refine O_cons (W_it (W_load_p rfl rfl rfl rfl ?_)) | refine O_cons (W_it (W_load_r rfl rfl rfl ?_)) | refine O_cons (W_it (W_load_e rfl rfl rfl rfl rfl ?_))
    first | refine O_cons (W_it (W_fad_p rfl ?_)) | refine O_cons (W_it (W_fad_e rfl ?_)) | refine O_cons (W_it (W_fad_r rfl ?_))
    first | refine O_cons (W_it (W_load_p rfl rfl rfl rfl ?_)) | refine O_cons (W_it (W_load_r rfl rfl rfl ?_)) | refine O_cons (W_it (W_load_e rfl rfl rfl rfl rfl ?_))
    refine O_cons (W_it (W_bsl rfl ?_))
    refine O_cons (W_it (W_callW (word_FS _ [ws[i].2.1] ?_) [0] _ [.c (.ptr 0 0), .c (.p (.sl 3 (words [ws[i].2.1])))] [.ac [.p (.sl 1 (bs ++ ents8 (ws.take i) ++ nums8 [ws[i].1.1, ws[i].1.2.1, ws[i].1.2.2]))], .ac [.ptr 0 0], .ac [.p (.v (.int .i64 ws[i].1.1)), .p (.v (.int .i64 ws[i].1.2.1)), .p (.v (.int .i64 ws[i].1.2.2)), .p (.v (.int .i64 ws[i].2.1.1)), .p (.v (.int .i64 ws[i].2.1.2.1)), .p (.v (.int .i64 ws[i].2.1.2.2)), .p (.v (.int .i64 ws[i].2.2.1)), .p (.v (.int .i64 ws[i].2.2.2))], .dead, .dead] rfl
      (Weak.freeze 4 3 [[.v (.int .i64 ws[i].2.1.1), .v (.int .i64 ws[i].2.1.2.1), .v (.int .i64 ws[i].2.1.2.2)]] rfl (by simp) ⟨.inl rfl, .inr ⟨0, 1, _, rfl, by simp, rfl⟩, trivial⟩ ⟨frz_keep rfl, frz_keep rfl, frz_keep rfl, frz_keep rfl, frz_dead, trivial⟩) rfl rfl (by decide) ⟨rfl, trivial⟩ ?_))
    · rw [List.length_append, nums8_len]; simp only [List.length_cons, List.length_nil]; omega
    rintro _ _ ⟨rfl, rfl⟩
    simp only [St.put, renAV, renAC, renReg, renAVs, setAll, upF, List.map_cons, List.map_nil, List.cons_append, List.nil_append, List.append_nil, List.set_cons_zero, List.set_cons_succ]
    refine O_nil (hK7 _ ?_)
    clear hK7 K7
    refine codeW_reg ?_
    first | refine O_cons (W_it (W_load_p rfl rfl rfl rfl ?_)) | refine O_cons (W_it (W_load_r rfl rfl rfl ?_)) | refine O_cons (W_it (W_load_e rfl rfl rfl rfl rfl ?_))
    first | refine O_cons (W_it (W_fad_p rfl ?_)) | refine O_cons (W_it (W_fad_e rfl ?_)) | refine O_cons (W_it (W_fad_r rfl ?_))
    first | refine O_cons (W_it (W_load_p rfl rfl rfl rfl ?_)) | refine O_cons (W_it (W_load_r rfl rfl rfl ?_)) | refine O_cons (W_it (W_load_e rfl rfl rfl rfl rfl ?_))
    first | refine O_cons (W_it (W_fad_p rfl ?_)) | refine O_cons (W_it (W_fad_e rfl ?_)) | refine O_cons (W_it (W_fad_r rfl ?_))
    first | refine O_cons (W_it (W_load_p rfl rfl rfl rfl ?_)) | refine O_cons (W_it (W_load_r rfl rfl rfl ?_)) | refine O_cons (W_it (W_load_e rfl rfl rfl rfl rfl ?_))
    refine O_cons (W_it (W_bsl rfl ?_))
    refine O_cons (W_it (W_callW (small_FS _ [ws[i].2.2.1, ws[i].2.2.2] ?_) [0] _ [.c (.ptr 0 0), .c (.p (.sl 1 (ints .i64 [ws[i].2.2.1, ws[i].2.2.2])))] [.ac [.p (.sl 1 (bs ++ ents8 (ws.take i) ++ nums8 [ws[i].1.1, ws[i].1.2.1, ws[i].1.2.2] ++ words8 [ws[i].2.1]))], .ac [.ptr 0 0], .ac [.p (.v (.int .i64 ws[i].1.1)), .p (.v (.int .i64 ws[i].1.2.1)), .p (.v (.int .i64 ws[i].1.2.2)), .p (.v (.int .i64 ws[i].2.1.1)), .p (.v (.int .i64 ws[i].2.1.2.1)), .p (.v (.int .i64 ws[i].2.1.2.2)), .p (.v (.int .i64 ws[i].2.2.1)), .p (.v (.int .i64 ws[i].2.2.2))], .dead, .dead, .dead] rfl
      (Weak.freeze 5 1 [[.v (.int .i64 ws[i].2.2.1)], [.v (.int .i64 ws[i].2.2.2)]] rfl (by simp) ⟨.inl rfl, .inr ⟨0, 2, _, rfl, by simp, rfl⟩, trivial⟩ ⟨frz_keep rfl, frz_keep rfl, frz_keep rfl, frz_keep rfl, frz_keep rfl, frz_dead, trivial⟩) rfl rfl (by decide) ⟨rfl, trivial⟩ ?_))
    · rw [List.length_append, List.length_append, nums8_len, words8_len]; simp only [List.length_cons, List.length_nil]; omega
    rintro _ _ ⟨rfl, rfl⟩
    simp only [St.put, renAV, renAC, renReg, renAVs, setAll, upF, List.map_cons, List.map_nil, List.cons_append, List.nil_append, List.append_nil, List.set_cons_zero, List.set_cons_succ]
    refine O_nil ?_
    refine (hK4 _ ?_ : K4 _)
    try clear hK4 K4
    refine codeW_reg ?_
    refine O_cons (W_it (W_add rfl rfl ?_))
    refine O_cons (W_it (W_mv rfl ?_))
    refine O_nil ?_
    refine hK _ ⟨k - 1, _, by omega, ?_, i + 1, by omega, rfl⟩
    refine Weak.ren [0, 1] rfl (by decide) ⟨.inr ?_, .inr rfl, trivial⟩ ⟨?_, rfl, rfl, rfl, trivial⟩
    · rw [List.take_succ_eq_append_getElem hi, ents8_append, ents8_one, ← List.append_assoc, ← List.append_assoc, ← List.append_assoc]
      rfl
    · show AV.c (.p (.v (.int .i64 (IntKind.i64.wrap ((i : Int) + 1))))) = _
      rw [wrap64_id (by omega) (by omega)]
      rfl
  · have hi : i = ws.length := by have := of_decide_eq_false hc0; omega
    subst hi
    refine codeW_exit ?_
    refine Fin.here (.inl rfl) ⟨rfl, ?_⟩
    rw [List.take_length]

def ac39 : ACode := (.seq (.reg [⟨none, (some 6), (.mv (some 6) (.t 0))⟩, ⟨none, (some 7), (.mv (some 7) (.t 1))⟩, ⟨none, (some 8), (.len (some 8) (.t 7))⟩, ⟨none, (some 9), (.bsl (some 9) 1 1 [(.int .i64 0)] [(0, (.t 8))])⟩, ⟨none, (some 10), (.call (some 10) 29 [(.t 6), (.t 9)])⟩]) (.reg [⟨none, (some 11), (.mv (some 11) (.t 2))⟩, ⟨none, (some 12), (.mv (some 12) (.t 1))⟩, ⟨none, (some 13), (.callv (some 13) (.t 11) [(.t 12)])⟩]))
theorem tr39 : ((Try.f39.name == "runtime.NumGoroutine") = false ∧ Try.f39.results = ([].map ResultVar.tmp).toArray) ∧ Try.f39.ntmps = 14 ∧ (Try.f39.body.bind (trCode Try.prog Try.f39.ntmps)) = some ac39 := ⟨⟨by kernel_rfl, by kernel_rfl⟩, by kernel_rfl, by kernel_rfl⟩


theorem list_ent_FS (bs : List (List PV)) (ws : List Ent) (hb : bs.length + 64 * ws.length + 8 ≤ 1000000000) :
    FS Try.prog 39 [.c (.ptr 0 0), .c (.p (.sl 8 (ents ws))), .c (.fn (.func 40) [] [.ptr 1 0])] [.ac [.p (.sl 1 bs)], .ac [.ptr 0 0]] fun res rg => res = .tup [] ∧ rg = [.ac [.p (.sl 1 (bs ++ nums8 [(ws.length : Int)] ++ ents8 ws))], .ac [.ptr 0 0]] := by
  refine FS_def [] 14 Try.func39 tr39 rfl ?_
  unfold ac39
  refine codeW_seq fun K1 hK1 => codeW_reg ?_
  refine O_cons (W_it (W_mv rfl ?_))
  refine O_cons (W_it (W_mv rfl ?_))
  refine O_cons (W_it (W_len rfl ?_))
  refine O_cons (W_it (W_bsl rfl ?_))
  rw [ents_len]
  refine O_cons (W_it (W_callW (small_FS _ [(ws.length : Int)] ?_) [0] _ [.c (.ptr 0 0), .c (.p (.sl 1 (ints .i64 [(ws.length : Int)])))] [.ac [.p (.sl 1 bs)], .ac [.ptr 0 0], .dead] rfl
    (Weak.freeze 2 1 [[.v (.int .i64 ws.length)]] rfl (by simp) ⟨.inl rfl, .inr ⟨0, 1, _, rfl, by simp, rfl⟩, trivial⟩ ⟨frz_keep rfl, frz_keep rfl, frz_dead, trivial⟩) rfl rfl (by decide) ⟨rfl, trivial⟩ ?_))
  · simp; omega
  rintro _ _ ⟨rfl, rfl⟩
  simp only [St.put, renAV, renAC, renReg, renAVs, setAll, upF, List.map_cons, List.map_nil, List.cons_append, List.nil_append, List.append_nil, List.set_cons_zero, List.set_cons_succ]
  refine O_nil (hK1 _ ?_)
  clear hK1 K1
  refine codeW_reg ?_
  refine O_cons (W_it (W_mv rfl ?_))
  refine O_cons (W_it (W_mv rfl ?_))
  refine O_cons (W_it (W_callvW rfl (ent_FS _ ws ?_) [0, 1] _ [.c (.p (.sl 8 (ents ws))), .c (.ptr 1 0)] [.ac [.p (.sl 1 (bs ++ nums8 [(ws.length : Int)]))], .ac [.ptr 0 0], .dead] rfl
    (Weak.refl _ _) rfl rfl (by decide) ⟨rfl, rfl, trivial⟩ ?_))
  · rw [List.length_append, nums8_len]; simp; omega
  rintro _ _ ⟨rfl, rfl⟩
  simp only [St.put, renAV, renAC, renReg, renAVs, setAll, upF, List.map_cons, List.map_nil, List.cons_append, List.nil_append, List.append_nil, List.set_cons_zero, List.set_cons_succ]
  refine O_nil ?_
  refine Fin.weak (.inl rfl) (s1 := ⟨[], [.ac [.p (.sl 1 (bs ++ nums8 [(ws.length : Int)] ++ ents8 ws))], .ac [.ptr 0 0]]⟩) (Weak.ren [0, 1] rfl (by decide) ⟨.inr rfl, .inr rfl, trivial⟩ trivial) ⟨rfl, rfl⟩

def ac17 : ACode := (.seq (.reg [⟨none, (some 2), (.mv (some 2) (.k (.slice none 0 0)))⟩]) (.seq (.reg [⟨none, (some 4), (.build (some 4) [(.slice none 0 0)] [])⟩, ⟨none, (some 5), (.box (some 5) (.t 4))⟩, ⟨none, (some 3), (.alloc (some 3) [(.pointer none)])⟩, ⟨none, none, (.store 1 (.t 3) (.t 5))⟩]) (.seq (.reg [⟨none, (some 6), (.load (some 6) 1 false (.t 3))⟩, ⟨none, (some 7), (.mv (some 7) (.t 0))⟩, ⟨none, (some 8), (.mkf (some 8) (.func 40) [] [(.t 3)])⟩, ⟨none, (some 9), (.call (some 9) 39 [(.t 6), (.t 7), (.t 8)])⟩]) (.seq (.reg [⟨none, (some 10), (.load (some 10) 1 false (.t 3))⟩, ⟨none, (some 11), (.nilc (some 11) (.t 10))⟩, ⟨none, (some 12), (.fad (some 12) 0 (.t 11))⟩, ⟨none, (some 13), (.load (some 13) 1 false (.t 12))⟩, ⟨none, (some 2), (.mv (some 2) (.t 13))⟩]) .ret))))
theorem tr17 : ((Try.f17.name == "runtime.NumGoroutine") = false ∧ Try.f17.results = ([2].map ResultVar.tmp).toArray) ∧ Try.f17.ntmps = 14 ∧ (Try.f17.body.bind (trCode Try.prog Try.f17.ntmps)) = some ac17 := ⟨⟨by kernel_rfl, by kernel_rfl⟩, by kernel_rfl, by kernel_rfl⟩


theorem buffer_FS (ws : List Ent) (hb : 64 * ws.length + 8 ≤ 1000000000) :
    FS Try.prog 17 [.c (.p (.sl 8 (ents ws)))] [] fun res rg => res = .c (.p (.sl 1 (nums8 [(ws.length : Int)] ++ ents8 ws))) ∧ rg = [] := by
  refine FS_def [2] 14 Try.func17 tr17 rfl ?_
  unfold ac17
  refine codeW_seq fun K1 hK1 => codeW_reg ?_
  refine O_cons (W_it (W_mv rfl ?_))
  refine O_nil (hK1 _ ?_)
  clear hK1 K1
  refine codeW_seq fun K2 hK2 => codeW_reg ?_
  refine O_cons (W_it (W_build rfl ?_))
  refine O_cons (W_it (W_box rfl ?_))
  refine O_cons (W_it (W_alloc ?_))
  first | refine O_cons (W_it (W_store_p rfl rfl rfl rfl rfl rfl ?_)) | refine O_cons (W_it (W_store_e rfl rfl rfl rfl rfl rfl rfl ?_))
  refine O_nil (hK2 _ ?_)
  clear hK2 K2
  refine codeW_weak (s' := ⟨[(3, .c (.ptr 1 0)), (0, .c (.p (.sl 8 (ents ws))))], [.ac [.p (.sl 1 [])], .ac [.ptr 0 0]]⟩) (Weak.imp ⟨.inl rfl, .inl rfl, trivial⟩ ⟨t_turn (by decide) ⟨.inr (.inl ⟨1, by decide, rfl, rfl⟩), trivial⟩, t_keep (fun _ => .inl rfl) (by decide), trivial⟩) ?_
  refine codeW_seq fun K3 hK3 => codeW_reg ?_
  first | refine O_cons (W_it (W_load_p rfl rfl rfl rfl ?_)) | refine O_cons (W_it (W_load_r rfl rfl rfl ?_)) | refine O_cons (W_it (W_load_e rfl rfl rfl rfl rfl ?_))
  refine O_cons (W_it (W_mv rfl ?_))
  refine O_cons (W_it (W_mkf rfl rfl ?_))
  refine O_cons (W_it (W_callF (list_ent_FS [] ws (by simpa using hb)) [0, 1] rfl (by decide) ⟨rfl, rfl, trivial⟩ ?_))
  rintro _ _ ⟨rfl, rfl⟩
  simp only [St.put, renAV, renAC, renReg, renAVs, setAll, upF, List.map_cons, List.map_nil, List.cons_append, List.nil_append, List.append_nil, List.set_cons_zero, List.set_cons_succ]
  refine O_nil (hK3 _ ?_)
  clear hK3 K3
  refine codeW_seq fun K4 hK4 => codeW_reg ?_
  first | refine O_cons (W_it (W_load_p rfl rfl rfl rfl ?_)) | refine O_cons (W_it (W_load_r rfl rfl rfl ?_)) | refine O_cons (W_it (W_load_e rfl rfl rfl rfl rfl ?_))
  refine O_cons (W_it (W_nilc rfl rfl ?_))
  first | refine O_cons (W_it (W_fad_p rfl ?_)) | refine O_cons (W_it (W_fad_e rfl ?_)) | refine O_cons (W_it (W_fad_r rfl ?_))
  first | refine O_cons (W_it (W_load_p rfl rfl rfl rfl ?_)) | refine O_cons (W_it (W_load_r rfl rfl rfl ?_)) | refine O_cons (W_it (W_load_e rfl rfl rfl rfl rfl ?_))
  refine O_cons (W_it (W_mv rfl ?_))
  refine O_nil (hK4 _ ?_)
  clear hK4 K4
  refine codeW_ret (Fin.weak (.inr rfl) (s1 := ⟨[(2, .c (.p (.sl 1 (nums8 [(ws.length : Int)] ++ ents8 ws))))], []⟩) (Weak.ren [] rfl (by decide) trivial ⟨rfl, trivial⟩) ⟨rfl, rfl⟩)

def ac43 : ACode := (.seq (.reg [⟨none, (some 5), (.mv (some 5) (.t 0))⟩, ⟨none, (some 6), (.len (some 6) (.t 5))⟩, ⟨none, (some 7), (.mv (some 7) (.k (.int .i64 0)))⟩]) (.block 0 (.loop (.seq (.reg [⟨none, (some 8), (.bin (some 8) .lss (.t 7) (.t 6))⟩]) (.seq (.cond (.t 8) .skip (.exit 0)) (.seq (.block 1 (.seq (.reg [⟨none, (some 9), (.ixs (some 9) 10 (.t 5) (.t 7))⟩, ⟨none, (some 10), (.load (some 10) 10 true (.t 9))⟩, ⟨none, (some 4), (.alloc (some 4) [(.int .i64 0), (.int .i64 0), (.int .i64 0), (.int .i64 0), (.int .i64 0), (.int .i64 0), (.int .i64 0), (.int .i64 0), (.int .i64 0), (.int .i64 0)])⟩, ⟨none, none, (.store 10 (.t 4) (.t 10))⟩]) (.seq (.reg [⟨none, (some 11), (.load (some 11) 1 false (.t 1))⟩, ⟨none, (some 12), (.fad (some 12) 0 (.t 4))⟩, ⟨none, (some 13), (.load (some 13) 1 false (.t 12))⟩, ⟨none, (some 14), (.fad (some 14) 1 (.t 4))⟩, ⟨none, (some 15), (.load (some 15) 1 false (.t 14))⟩, ⟨none, (some 16), (.fad (some 16) 2 (.t 4))⟩, ⟨none, (some 17), (.load (some 17) 1 false (.t 16))⟩, ⟨none, (some 18), (.fad (some 18) 3 (.t 4))⟩, ⟨none, (some 19), (.load (some 19) 1 false (.t 18))⟩, ⟨none, (some 20), (.bsl (some 20) 1 4 [(.int .i64 0)] [(0, (.t 13)), (1, (.t 15)), (2, (.t 17)), (3, (.t 19))])⟩, ⟨none, (some 21), (.call (some 21) 29 [(.t 11), (.t 20)])⟩]) (.reg [⟨none, (some 22), (.load (some 22) 1 false (.t 1))⟩, ⟨none, (some 23), (.fad (some 23) 4 (.t 4))⟩, ⟨none, (some 24), (.sla (some 24) 2 3 (.t 23) none none none)⟩, ⟨none, (some 25), (.call (some 25) 30 [(.t 22), (.t 24)])⟩])))) (.reg [⟨none, (some 26), (.bin (some 26) .add (.t 7) (.k (.int .i64 1)))⟩, ⟨none, (some 7), (.mv (some 7) (.t 26))⟩])))))))
theorem tr43 : ((Try.f43.name == "runtime.NumGoroutine") = false ∧ Try.f43.results = ([].map ResultVar.tmp).toArray) ∧ Try.f43.ntmps = 27 ∧ (Try.f43.body.bind (trCode Try.prog Try.f43.ntmps)) = some ac43 := ⟨⟨by kernel_rfl, by kernel_rfl⟩, by kernel_rfl, by kernel_rfl⟩


abbrev Cel := (Int × Int × Int × Int) × (Int × Int × Int) × (Int × Int × Int)
def cels (ws : List Cel) : List (List PV) := ws.map fun e => [.v (.int .i64 e.1.1), .v (.int .i64 e.1.2.1), .v (.int .i64 e.1.2.2.1), .v (.int .i64 e.1.2.2.2), .v (.int .i64 e.2.1.1), .v (.int .i64 e.2.1.2.1), .v (.int .i64 e.2.1.2.2), .v (.int .i64 e.2.2.1), .v (.int .i64 e.2.2.2.1), .v (.int .i64 e.2.2.2.2)]
def cells8 (ws : List Cel) : List (List PV) := ws.flatMap fun e => nums8 [e.1.1, e.1.2.1, e.1.2.2.1, e.1.2.2.2] ++ words8 [e.2.1, e.2.2]
theorem cels_len (ws : List Cel) : (cels ws).length = ws.length := by simp [cels]
theorem cels_geti {ws : List Cel} {i : Nat} (h : i < ws.length) : (cels ws)[(i : Int).toNat]? = some [.v (.int .i64 ws[i].1.1), .v (.int .i64 ws[i].1.2.1), .v (.int .i64 ws[i].1.2.2.1), .v (.int .i64 ws[i].1.2.2.2), .v (.int .i64 ws[i].2.1.1), .v (.int .i64 ws[i].2.1.2.1), .v (.int .i64 ws[i].2.1.2.2), .v (.int .i64 ws[i].2.2.1), .v (.int .i64 ws[i].2.2.2.1), .v (.int .i64 ws[i].2.2.2.2)] := by simp [cels, h]
theorem cells8_append (a b : List Cel) : cells8 (a ++ b) = cells8 a ++ cells8 b := by simp [cells8]
theorem cells8_one (e : Cel) : cells8 [e] = nums8 [e.1.1, e.1.2.1, e.1.2.2.1, e.1.2.2.2] ++ words8 [e.2.1, e.2.2] := by simp [cells8]
theorem cells8_len (ws : List Cel) : (cells8 ws).length = 80 * ws.length := by
  induction ws with
  | nil => rfl
  | cons n ws ih => rw [cells8, List.flatMap_cons, List.length_append, ← cells8, ih, List.length_append, nums8_len, words8_len]; simp; omega
theorem cell_FS (bs : List (List PV)) (ws : List Cel) (hb : bs.length + 80 * ws.length ≤ 1000000000) :
    FS Try.prog 43 [.c (.p (.sl 10 (cels ws))), .c (.ptr 1 0)] [.ac [.p (.sl 1 bs)], .ac [.ptr 0 0]] fun res rg => res = .tup [] ∧ rg = [.ac [.p (.sl 1 (bs ++ cells8 ws))], .ac [.ptr 0 0]] := by
  refine FS_def [] 27 Try.func43 tr43 rfl ?_
  unfold ac43
  refine codeW_seq fun K1 hK1 => codeW_reg ?_
  refine O_cons (W_it (W_mv rfl ?_))
  refine O_cons (W_it (W_len rfl ?_))
  refine O_cons (W_it (W_mv rfl ?_))
  refine O_nil (hK1 _ ?_)
  clear hK1 K1
  refine codeW_block ?_
  refine codeW_weak (s' := ⟨[(7, .c (.p (.v (.int .i64 ((0 : Nat) : Int))))), (6, .c (.p (.v (.int .i64 (ws.length : Int))))), (5, .c (.p (.sl 10 (cels ws)))), (1, .c (.ptr 1 0))], [.ac [.p (.sl 1 bs)], .ac [.ptr 0 0]]⟩) (Weak.ren [0, 1] rfl (by decide) ⟨.inr rfl, .inr rfl, trivial⟩ ⟨rfl, ?_, rfl, rfl, trivial⟩) ?_
  · exact congrArg (fun n : Nat => AV.c (.p (.v (.int .i64 (n : Int))))) (cels_len _)
  refine codeW_loop (fun k s => ∃ i : Nat, i + k = ws.length ∧ s = ⟨[(7, .c (.p (.v (.int .i64 (i : Int))))), (6, .c (.p (.v (.int .i64 (ws.length : Int))))), (5, .c (.p (.sl 10 (cels ws)))), (1, .c (.ptr 1 0))], [.ac [.p (.sl 1 (bs ++ cells8 (ws.take i)))], .ac [.ptr 0 0]]⟩) ws.length ⟨0, by omega, by simp [cells8]⟩ ?_
  rintro k s ⟨i, hik, rfl⟩ K hK
  refine codeW_seq fun K2 hK2 => codeW_reg ?_
  refine O_cons (W_it (W_lss rfl rfl ?_))
  refine O_nil (hK2 _ ?_)
  clear hK2 K2
  refine codeW_seq fun K3 hK3 => ?_
  refine codeW_cond rfl (fun hc0 => ?_) (fun hc0 => ?_)
  · have hi : i < ws.length := by have := of_decide_eq_true hc0; omega
    have hlen : (bs ++ cells8 (ws.take i)).length + 80 ≤ 1000000000 := by rw [List.length_append, cells8_len, List.length_take]; omega
    refine codeW_skip ?_
    refine (hK3 _ ?_ : K3 _)
    try clear hK3 K3
    refine codeW_seq fun K4 hK4 => ?_
    refine codeW_block ?_
    refine codeW_seq fun K5 hK5 => codeW_reg ?_
    first | refine O_cons (W_it (W_ixs_s rfl rfl (by omega) (cels_geti (i := i) hi) ?_)) | refine O_cons (W_it (W_ixs_o rfl rfl (by omega) (by omega) ?_))
    first | refine O_cons (W_it (W_load_p rfl rfl rfl rfl ?_)) | refine O_cons (W_it (W_load_r rfl rfl rfl ?_)) | refine O_cons (W_it (W_load_e rfl rfl rfl rfl rfl ?_))
    refine O_cons (W_it (W_alloc ?_))
    first | refine O_cons (W_it (W_store_p rfl rfl rfl rfl rfl rfl ?_)) | refine O_cons (W_it (W_store_e rfl rfl rfl rfl rfl rfl rfl ?_))
    refine O_nil (hK5 _ ?_)
    clear hK5 K5
    refine codeW_weak (s' := ⟨[(4, .c (.rp [.v (.int .i64 ws[i].1.1), .v (.int .i64 ws[i].1.2.1), .v (.int .i64 ws[i].1.2.2.1), .v (.int .i64 ws[i].1.2.2.2), .v (.int .i64 ws[i].2.1.1), .v (.int .i64 ws[i].2.1.2.1), .v (.int .i64 ws[i].2.1.2.2), .v (.int .i64 ws[i].2.2.1), .v (.int .i64 ws[i].2.2.2.1), .v (.int .i64 ws[i].2.2.2.2)])), (7, .c (.p (.v (.int .i64 (i : Int))))), (6, .c (.p (.v (.int .i64 (ws.length : Int))))), (5, .c (.p (.sl 10 (cels ws)))), (1, .c (.ptr 1 0))], [.ac [.p (.sl 1 (bs ++ cells8 (ws.take i)))], .ac [.ptr 0 0], .dead]⟩)
      (Weak.box 2 [.v (.int .i64 ws[i].1.1), .v (.int .i64 ws[i].1.2.1), .v (.int .i64 ws[i].1.2.2.1), .v (.int .i64 ws[i].1.2.2.2), .v (.int .i64 ws[i].2.1.1), .v (.int .i64 ws[i].2.1.2.1), .v (.int .i64 ws[i].2.1.2.2), .v (.int .i64 ws[i].2.2.1), .v (.int .i64 ws[i].2.2.2.1), .v (.int .i64 ws[i].2.2.2.2)] rfl ⟨.inr ⟨0, rfl, Nat.zero_le _, rfl⟩, .inl rfl, .inl rfl, .inl rfl, .inl rfl, trivial⟩ ⟨t_keep (fun _ => .inl rfl) (by decide), t_keep (fun _ => .inl rfl) (by decide), t_dead (by decide), trivial⟩) ?_
    refine codeW_seq fun K6 hK6 => codeW_reg ?_
    first | refine O_cons (W_it (W_load_p rfl rfl rfl rfl ?_)) | refine O_cons (W_it (W_load_r rfl rfl rfl ?_)) | refine O_cons (W_it (W_load_e rfl rfl rfl rfl rfl ?_))
    first | refine O_cons (W_it (W_fad_p rfl ?_)) | refine O_cons (W_it (W_fad_e rfl ?_)) | refine O_cons (W_it (W_fad_r rfl ?_))
    first | refine O_cons (W_it (W_load_p rfl rfl rfl rfl ?_)) | refine O_cons (W_it (W_load_r rfl rfl rfl ?_)) | refine O_cons (W_it (W_load_e rfl rfl rfl rfl rfl ?_))
    first | refine O_cons (W_it (W_fad_p rfl ?_)) | refine O_cons (W_it (W_fad_e rfl ?_)) | refine O_cons (W_it (W_fad_r rfl ?_))
    first | refine O_cons (W_it (W_load_p rfl rfl rfl rfl ?_)) | refine O_cons (W_it (W_load_r rfl rfl rfl ?_)) | refine O_cons (W_it (W_load_e rfl rfl rfl rfl rfl ?_))
    first | refine O_cons (W_it (W_fad_p rfl ?_)) | refine O_cons (W_it (W_fad_e rfl ?_)) | refine O_cons (W_it (W_fad_r rfl ?_))
    first | refine O_cons (W_it (W_load_p rfl rfl rfl rfl ?_)) | refine O_cons (W_it (W_load_r rfl rfl rfl ?_)) | refine O_cons (W_it (W_load_e rfl rfl rfl rfl rfl ?_))
    first | refine O_cons (W_it (W_fad_p rfl ?_)) | refine O_cons (W_it (W_fad_e rfl ?_)) | refine O_cons (W_it (W_fad_r rfl ?_))
    first | refine O_cons (W_it (W_load_p rfl rfl rfl rfl ?_)) | refine O_cons (W_it (W_load_r rfl rfl rfl ?_)) | refine O_cons (W_it (W_load_e rfl rfl rfl rfl rfl ?_))
    refine O_cons (W_it (W_bsl rfl ?_))
    refine O_cons (W_it (W_callW (small_FS _ [ws[i].1.1, ws[i].1.2.1, ws[i].1.2.2.1, ws[i].1.2.2.2] ?_) [0] _ [.c (.ptr 0 0), .c (.p (.sl 1 (ints .i64 [ws[i].1.1, ws[i].1.2.1, ws[i].1.2.2.1, ws[i].1.2.2.2])))] [.ac [.p (.sl 1 (bs ++ cells8 (ws.take i)))], .ac [.ptr 0 0], .dead, .dead] rfl
      (Weak.freeze 3 1 [[.v (.int .i64 ws[i].1.1)], [.v (.int .i64 ws[i].1.2.1)], [.v (.int .i64 ws[i].1.2.2.1)], [.v (.int .i64 ws[i].1.2.2.2)]] rfl (by simp) ⟨.inl rfl, .inr ⟨0, 4, _, rfl, by simp, rfl⟩, trivial⟩ ⟨frz_keep rfl, frz_keep rfl, frz_keep rfl, frz_dead, trivial⟩) rfl rfl (by decide) ⟨rfl, trivial⟩ ?_))
    · simp only [List.length_cons, List.length_nil]; omega
    rintro _ _ ⟨rfl, rfl⟩
    simp only [St.put, renAV, renAC, renReg, renAVs, setAll, upF, List.map_cons, List.map_nil, List.cons_append, List.nil_append, List.append_nil, List.set_cons_zero, List.set_cons_succ]
    refine O_nil (hK6 _ ?_)
    clear hK6 K6
    refine codeW_reg ?_
    first | refine O_cons (W_it (W_load_p rfl rfl rfl rfl ?_)) | refine O_cons (W_it (W_load_r rfl rfl rfl ?_)) | refine O_cons (W_it (W_load_e rfl rfl rfl rfl rfl ?_))
    first | refine O_cons (W_it (W_fad_p rfl ?_)) | refine O_cons (W_it (W_fad_e rfl ?_)) | refine O_cons (W_it (W_fad_r rfl ?_))
    refine O_cons (W_it (W_sla_r rfl rfl (by decide) (by decide) (by decide) (by decide) (Nat.le_of_ble_eq_true rfl) ?_))
    refine O_cons (W_it (W_callF (word_FS (bs ++ cells8 (ws.take i) ++ nums8 [ws[i].1.1, ws[i].1.2.1, ws[i].1.2.2.1, ws[i].1.2.2.2]) [ws[i].2.1, ws[i].2.2] ?_) [0] rfl (by decide) ⟨rfl, trivial⟩ ?_))
    · rw [List.length_append, nums8_len]; simp only [List.length_cons, List.length_nil]; omega
    rintro _ _ ⟨rfl, rfl⟩
    simp only [St.put, renAV, renAC, renReg, renAVs, setAll, upF, List.map_cons, List.map_nil, List.cons_append, List.nil_append, List.append_nil, List.set_cons_zero, List.set_cons_succ]
    refine O_nil ?_
    refine (hK4 _ ?_ : K4 _)
    try clear hK4 K4
    refine codeW_reg ?_
    refine O_cons (W_it (W_add rfl rfl ?_))
    refine O_cons (W_it (W_mv rfl ?_))
    refine O_nil ?_
    refine hK _ ⟨k - 1, _, by omega, ?_, i + 1, by omega, rfl⟩
    refine Weak.ren [0, 1] rfl (by decide) ⟨.inr ?_, .inr rfl, trivial⟩ ⟨?_, rfl, rfl, rfl, trivial⟩
    · rw [List.take_succ_eq_append_getElem hi, cells8_append, cells8_one, ← List.append_assoc, ← List.append_assoc]
      rfl
    · show AV.c (.p (.v (.int .i64 (IntKind.i64.wrap ((i : Int) + 1))))) = _
      rw [wrap64_id (by omega) (by omega)]
      rfl
  · have hi : i = ws.length := by have := of_decide_eq_false hc0; omega
    subst hi
    refine codeW_exit ?_
    refine Fin.here (.inl rfl) ⟨rfl, ?_⟩
    rw [List.take_length]

def ac42 : ACode := (.seq (.reg [⟨none, (some 6), (.mv (some 6) (.t 0))⟩, ⟨none, (some 7), (.mv (some 7) (.t 1))⟩, ⟨none, (some 8), (.len (some 8) (.t 7))⟩, ⟨none, (some 9), (.bsl (some 9) 1 1 [(.int .i64 0)] [(0, (.t 8))])⟩, ⟨none, (some 10), (.call (some 10) 29 [(.t 6), (.t 9)])⟩]) (.reg [⟨none, (some 11), (.mv (some 11) (.t 2))⟩, ⟨none, (some 12), (.mv (some 12) (.t 1))⟩, ⟨none, (some 13), (.callv (some 13) (.t 11) [(.t 12)])⟩]))
theorem tr42 : ((Try.f42.name == "runtime.NumGoroutine") = false ∧ Try.f42.results = ([].map ResultVar.tmp).toArray) ∧ Try.f42.ntmps = 14 ∧ (Try.f42.body.bind (trCode Try.prog Try.f42.ntmps)) = some ac42 := ⟨⟨by kernel_rfl, by kernel_rfl⟩, by kernel_rfl, by kernel_rfl⟩


theorem list_cell_FS (bs : List (List PV)) (ws : List Cel) (hb : bs.length + 80 * ws.length + 8 ≤ 1000000000) :
    FS Try.prog 42 [.c (.ptr 0 0), .c (.p (.sl 10 (cels ws))), .c (.fn (.func 43) [] [.ptr 1 0])] [.ac [.p (.sl 1 bs)], .ac [.ptr 0 0]] fun res rg => res = .tup [] ∧ rg = [.ac [.p (.sl 1 (bs ++ nums8 [(ws.length : Int)] ++ cells8 ws))], .ac [.ptr 0 0]] := by
  refine FS_def [] 14 Try.func42 tr42 rfl ?_
  unfold ac42
  refine codeW_seq fun K1 hK1 => codeW_reg ?_
  refine O_cons (W_it (W_mv rfl ?_))
  refine O_cons (W_it (W_mv rfl ?_))
  refine O_cons (W_it (W_len rfl ?_))
  refine O_cons (W_it (W_bsl rfl ?_))
  rw [cels_len]
  refine O_cons (W_it (W_callW (small_FS _ [(ws.length : Int)] ?_) [0] _ [.c (.ptr 0 0), .c (.p (.sl 1 (ints .i64 [(ws.length : Int)])))] [.ac [.p (.sl 1 bs)], .ac [.ptr 0 0], .dead] rfl
    (Weak.freeze 2 1 [[.v (.int .i64 ws.length)]] rfl (by simp) ⟨.inl rfl, .inr ⟨0, 1, _, rfl, by simp, rfl⟩, trivial⟩ ⟨frz_keep rfl, frz_keep rfl, frz_dead, trivial⟩) rfl rfl (by decide) ⟨rfl, trivial⟩ ?_))
  · simp; omega
  rintro _ _ ⟨rfl, rfl⟩
  simp only [St.put, renAV, renAC, renReg, renAVs, setAll, upF, List.map_cons, List.map_nil, List.cons_append, List.nil_append, List.append_nil, List.set_cons_zero, List.set_cons_succ]
  refine O_nil (hK1 _ ?_)
  clear hK1 K1
  refine codeW_reg ?_
  refine O_cons (W_it (W_mv rfl ?_))
  refine O_cons (W_it (W_mv rfl ?_))
  refine O_cons (W_it (W_callvW rfl (cell_FS _ ws ?_) [0, 1] _ [.c (.p (.sl 10 (cels ws))), .c (.ptr 1 0)] [.ac [.p (.sl 1 (bs ++ nums8 [(ws.length : Int)]))], .ac [.ptr 0 0], .dead] rfl
    (Weak.refl _ _) rfl rfl (by decide) ⟨rfl, rfl, trivial⟩ ?_))
  · rw [List.length_append, nums8_len]; simp; omega
  rintro _ _ ⟨rfl, rfl⟩
  simp only [St.put, renAV, renAC, renReg, renAVs, setAll, upF, List.map_cons, List.map_nil, List.cons_append, List.nil_append, List.append_nil, List.set_cons_zero, List.set_cons_succ]
  refine O_nil ?_
  refine Fin.weak (.inl rfl) (s1 := ⟨[], [.ac [.p (.sl 1 (bs ++ nums8 [(ws.length : Int)] ++ cells8 ws))], .ac [.ptr 0 0]]⟩) (Weak.ren [0, 1] rfl (by decide) ⟨.inr rfl, .inr rfl, trivial⟩ trivial) ⟨rfl, rfl⟩

def ac15 : ACode := (.seq (.reg [⟨none, (some 1), (.box (some 1) (.t 0))⟩, ⟨none, (some 2), (.mv (some 2) (.k (.slice none 0 0)))⟩]) (.seq (.reg [⟨none, (some 4), (.build (some 4) [(.slice none 0 0)] [])⟩, ⟨none, (some 5), (.box (some 5) (.t 4))⟩, ⟨none, (some 3), (.alloc (some 3) [(.pointer none)])⟩, ⟨none, none, (.store 1 (.t 3) (.t 5))⟩]) (.seq (.reg [⟨none, (some 6), (.load (some 6) 1 false (.t 3))⟩, ⟨none, (some 7), (.fad (some 7) 0 (.t 1))⟩, ⟨none, (some 8), (.load (some 8) 1 false (.t 7))⟩, ⟨none, (some 9), (.fad (some 9) 1 (.t 1))⟩, ⟨none, (some 10), (.load (some 10) 1 false (.t 9))⟩, ⟨none, (some 11), (.fad (some 11) 2 (.t 1))⟩, ⟨none, (some 12), (.load (some 12) 1 false (.t 11))⟩, ⟨none, (some 13), (.bsl (some 13) 1 3 [(.int .i64 0)] [(0, (.t 8)), (1, (.t 10)), (2, (.t 12))])⟩, ⟨none, (some 14), (.call (some 14) 29 [(.t 6), (.t 13)])⟩]) (.seq (.reg [⟨none, (some 15), (.load (some 15) 1 false (.t 3))⟩, ⟨none, (some 16), (.fad (some 16) 3 (.t 1))⟩, ⟨none, (some 17), (.sla (some 17) 4 3 (.t 16) none none none)⟩, ⟨none, (some 18), (.call (some 18) 30 [(.t 15), (.t 17)])⟩]) (.seq (.reg [⟨none, (some 19), (.load (some 19) 1 false (.t 3))⟩, ⟨none, (some 20), (.fad (some 20) 15 (.t 1))⟩, ⟨none, (some 21), (.fad (some 21) 0 (.t 20))⟩, ⟨none, (some 22), (.load (some 22) 1 false (.t 21))⟩, ⟨none, (some 23), (.fad (some 23) 15 (.t 1))⟩, ⟨none, (some 24), (.fad (some 24) 1 (.t 23))⟩, ⟨none, (some 25), (.load (some 25) 1 false (.t 24))⟩, ⟨none, (some 26), (.bsl (some 26) 1 2 [(.int .i64 0)] [(0, (.t 22)), (1, (.t 25))])⟩, ⟨none, (some 27), (.call (some 27) 29 [(.t 19), (.t 26)])⟩]) (.seq (.reg [⟨none, (some 28), (.load (some 28) 1 false (.t 3))⟩, ⟨none, (some 29), (.fad (some 29) 15 (.t 1))⟩, ⟨none, (some 30), (.fad (some 30) 2 (.t 29))⟩, ⟨none, (some 31), (.load (some 31) 1 false (.t 30))⟩, ⟨none, (some 32), (.bsl (some 32) 1 1 [(.int .i64 0)] [(0, (.t 31))])⟩, ⟨none, (some 33), (.call (some 33) 31 [(.t 28), (.t 32)])⟩]) (.seq (.reg [⟨none, (some 34), (.load (some 34) 1 false (.t 3))⟩, ⟨none, (some 35), (.fad (some 35) 15 (.t 1))⟩, ⟨none, (some 36), (.fad (some 36) 3 (.t 35))⟩, ⟨none, (some 37), (.load (some 37) 1 false (.t 36))⟩, ⟨none, (some 38), (.load (some 38) 1 false (.t 3))⟩, ⟨none, (some 39), (.mkf (some 39) (.func 31) [(.t 38)] [])⟩, ⟨none, (some 40), (.call (some 40) 32 [(.t 34), (.t 37), (.t 39)])⟩]) (.seq (.reg [⟨none, (some 41), (.load (some 41) 1 false (.t 3))⟩, ⟨none, (some 42), (.fad (some 42) 19 (.t 1))⟩, ⟨none, (some 43), (.load (some 43) 1 false (.t 42))⟩, ⟨none, (some 44), (.mkf (some 44) (.func 34) [] [(.t 3)])⟩, ⟨none, (some 45), (.call (some 45) 33 [(.t 41), (.t 43), (.t 44)])⟩]) (.seq (.reg [⟨none, (some 46), (.load (some 46) 1 false (.t 3))⟩, ⟨none, (some 47), (.fad (some 47) 20 (.t 1))⟩, ⟨none, (some 48), (.load (some 48) 1 false (.t 47))⟩, ⟨none, (some 49), (.load (some 49) 1 false (.t 3))⟩, ⟨none, (some 50), (.mkf (some 50) (.func 31) [(.t 49)] [])⟩, ⟨none, (some 51), (.call (some 51) 32 [(.t 46), (.t 48), (.t 50)])⟩]) (.seq (.reg [⟨none, (some 52), (.load (some 52) 1 false (.t 3))⟩, ⟨none, (some 53), (.fad (some 53) 21 (.t 1))⟩, ⟨none, (some 54), (.load (some 54) 1 false (.t 53))⟩, ⟨none, (some 55), (.bsl (some 55) 1 1 [(.int .i64 0)] [(0, (.t 54))])⟩, ⟨none, (some 56), (.call (some 56) 29 [(.t 52), (.t 55)])⟩]) (.seq (.reg [⟨none, (some 57), (.load (some 57) 1 false (.t 3))⟩, ⟨none, (some 58), (.nilc (some 58) (.t 57))⟩, ⟨none, (some 59), (.fad (some 59) 0 (.t 58))⟩, ⟨none, (some 60), (.load (some 60) 1 false (.t 59))⟩, ⟨none, (some 2), (.mv (some 2) (.t 60))⟩]) .ret)))))))))))
theorem tr15 : ((Try.f15.name == "runtime.NumGoroutine") = false ∧ Try.f15.results = ([2].map ResultVar.tmp).toArray) ∧ Try.f15.ntmps = 61 ∧ (Try.f15.body.bind (trCode Try.prog Try.f15.ntmps)) = some ac15 := ⟨⟨by kernel_rfl, by kernel_rfl⟩, by kernel_rfl, by kernel_rfl⟩


structure Thr where
  pc : Int
  fuel : Int
  status : Int
  r0 : Int × Int × Int
  r1 : Int × Int × Int
  r2 : Int × Int × Int
  r3 : Int × Int × Int
  kind : Int
  i : Int
  n : Int
  seen : List Int
  bag : List (Int × Int × Int)
  snap : List Int
  old : Int
def Thr.cells (th : Thr) : List PV := [.v (.int .i64 th.pc), .v (.int .i64 th.fuel), .v (.int .i64 th.status), .v (.int .i64 th.r0.1), .v (.int .i64 th.r0.2.1), .v (.int .i64 th.r0.2.2), .v (.int .i64 th.r1.1), .v (.int .i64 th.r1.2.1), .v (.int .i64 th.r1.2.2), .v (.int .i64 th.r2.1), .v (.int .i64 th.r2.2.1), .v (.int .i64 th.r2.2.2), .v (.int .i64 th.r3.1), .v (.int .i64 th.r3.2.1), .v (.int .i64 th.r3.2.2), .v (.int .i64 th.kind), .v (.int .i64 th.i), .v (.int .i64 th.n), .sl 1 (ints .i64 th.seen), .sl 3 (words th.bag), .sl 1 (ints .i64 th.snap), .v (.int .i64 th.old)]
def Thr.bulk (th : Thr) : Nat := 24 * (th.seen.length + th.bag.length + th.snap.length)
def Thr.octets (th : Thr) : List (List PV) := nums8 [th.pc, th.fuel, th.status] ++ words8 [th.r0, th.r1, th.r2, th.r3] ++ nums8 [th.kind, th.i] ++ nums8 [th.n] ++ nums8 [(th.seen.length : Int)] ++ nums8 th.seen ++ nums8 [(th.bag.length : Int)] ++ words8 th.bag ++ nums8 [(th.snap.length : Int)] ++ nums8 th.snap ++ nums8 [th.old]
theorem thread_FS (th : Thr) (hb : th.bulk ≤ 900000000) :
    FS Try.prog 15 [.agg (th.cells.map .p)] [] fun res rg => res = .c (.p (.sl 1 th.octets)) ∧ rg = [] := by
  refine FS_def [2] 61 Try.func15 tr15 rfl ?_
  unfold ac15
  have hb2 : 24 * (th.seen.length + th.bag.length + th.snap.length) ≤ 900000000 := hb
  refine codeW_seq fun K1 hK1 => codeW_reg ?_
  refine O_cons (W_it (W_box rfl ?_))
  refine O_cons (W_it (W_mv rfl ?_))
  refine O_nil (hK1 _ ?_)
  clear hK1 K1
  refine codeW_seq fun K2 hK2 => codeW_reg ?_
  refine O_cons (W_it (W_build rfl ?_))
  refine O_cons (W_it (W_box rfl ?_))
  refine O_cons (W_it (W_alloc ?_))
  first | refine O_cons (W_it (W_store_p rfl rfl rfl rfl rfl rfl ?_)) | refine O_cons (W_it (W_store_e rfl rfl rfl rfl rfl rfl rfl ?_))
  refine O_nil (hK2 _ ?_)
  clear hK2 K2
  refine codeW_weak (s' := ⟨[(1, .c (.rp th.cells)), (3, .c (.ptr 2 0))], [.dead, .ac [.p (.v (.slice none 0 0))], .ac [.ptr 1 0]]⟩) (Weak.box 0 th.cells rfl ⟨.inr ⟨0, rfl, Nat.zero_le _, rfl⟩, .inl rfl, trivial⟩ ⟨t_dead (by decide), t_keep (fun _ => .inl rfl) (by decide), t_keep (fun _ => .inl rfl) (by decide), trivial⟩) ?_
  refine codeW_weak (s' := ⟨[(1, .c (.rp th.cells)), (3, .c (.ptr 2 0))], [.dead, .ac [.p (.sl 1 [])], .ac [.ptr 1 0]]⟩) (Weak.imp ⟨.inl rfl, .inl rfl, trivial⟩ ⟨t_keep (fun _ => .inl rfl) (by decide), t_turn (by decide) ⟨.inr (.inl ⟨1, by decide, rfl, rfl⟩), trivial⟩, t_keep (fun _ => .inl rfl) (by decide), trivial⟩) ?_
  refine codeW_weak (s' := ⟨[(1, .c (.rp th.cells)), (3, .c (.ptr 1 0))], [.ac [.p (.sl 1 [])], .ac [.ptr 0 0]]⟩) (Weak.ren [1, 2] rfl (by decide) ⟨.inr rfl, .inr rfl, trivial⟩ ⟨rfl, rfl, trivial⟩) ?_
  refine codeW_seq fun K3 hK3 => codeW_reg ?_
  first | refine O_cons (W_it (W_load_p rfl rfl rfl rfl ?_)) | refine O_cons (W_it (W_load_r rfl rfl rfl ?_)) | refine O_cons (W_it (W_load_e rfl rfl rfl rfl rfl ?_))
  first | refine O_cons (W_it (W_fad_p rfl ?_)) | refine O_cons (W_it (W_fad_e rfl ?_)) | refine O_cons (W_it (W_fad_r rfl ?_))
  first | refine O_cons (W_it (W_load_p rfl rfl rfl rfl ?_)) | refine O_cons (W_it (W_load_r rfl rfl rfl ?_)) | refine O_cons (W_it (W_load_e rfl rfl rfl rfl rfl ?_))
  first | refine O_cons (W_it (W_fad_p rfl ?_)) | refine O_cons (W_it (W_fad_e rfl ?_)) | refine O_cons (W_it (W_fad_r rfl ?_))
  first | refine O_cons (W_it (W_load_p rfl rfl rfl rfl ?_)) | refine O_cons (W_it (W_load_r rfl rfl rfl ?_)) | refine O_cons (W_it (W_load_e rfl rfl rfl rfl rfl ?_))
  first | refine O_cons (W_it (W_fad_p rfl ?_)) | refine O_cons (W_it (W_fad_e rfl ?_)) | refine O_cons (W_it (W_fad_r rfl ?_))
  first | refine O_cons (W_it (W_load_p rfl rfl rfl rfl ?_)) | refine O_cons (W_it (W_load_r rfl rfl rfl ?_)) | refine O_cons (W_it (W_load_e rfl rfl rfl rfl rfl ?_))
  refine O_cons (W_it (W_bsl rfl ?_))
  refine O_cons (W_it (W_callW (small_FS ([]) [th.pc, th.fuel, th.status] ?_) [0] _ [.c (.ptr 0 0), .c (.p (.sl 1 (ints .i64 [th.pc, th.fuel, th.status])))] [.ac [.p (.sl 1 ([]))], .ac [.ptr 0 0], .dead] rfl
    (Weak.freeze 2 1 [[.v (.int .i64 th.pc)], [.v (.int .i64 th.fuel)], [.v (.int .i64 th.status)]] rfl (by simp) ⟨.inl rfl, .inr ⟨0, 3, _, rfl, by simp, rfl⟩, trivial⟩ ⟨frz_keep rfl, frz_keep rfl, frz_dead, trivial⟩) rfl rfl (by decide) ⟨rfl, trivial⟩ ?_))
  · simp only [List.length_append, nums8_len, words8_len, List.length_cons, List.length_nil]; omega
  rintro _ _ ⟨rfl, rfl⟩
  simp only [St.put, renAV, renAC, renReg, renAVs, setAll, upF, List.map_cons, List.map_nil, List.cons_append, List.nil_append, List.append_nil, List.set_cons_zero, List.set_cons_succ]
  refine O_nil (hK3 _ ?_)
  clear hK3 K3
  refine codeW_seq fun K4 hK4 => codeW_reg ?_
  first | refine O_cons (W_it (W_load_p rfl rfl rfl rfl ?_)) | refine O_cons (W_it (W_load_r rfl rfl rfl ?_)) | refine O_cons (W_it (W_load_e rfl rfl rfl rfl rfl ?_))
  first | refine O_cons (W_it (W_fad_p rfl ?_)) | refine O_cons (W_it (W_fad_e rfl ?_)) | refine O_cons (W_it (W_fad_r rfl ?_))
  refine O_cons (W_it (W_sla_r rfl rfl (by decide) (by decide) (by decide) (by decide) (Nat.le_of_ble_eq_true rfl) ?_))
  refine O_cons (W_it (W_callF (word_FS (nums8 [th.pc, th.fuel, th.status]) [th.r0, th.r1, th.r2, th.r3] ?_) [0] rfl (by decide) ⟨rfl, trivial⟩ ?_))
  · simp only [List.length_append, nums8_len, words8_len, List.length_cons, List.length_nil]; omega
  rintro _ _ ⟨rfl, rfl⟩
  simp only [St.put, renAV, renAC, renReg, renAVs, setAll, upF, List.map_cons, List.map_nil, List.cons_append, List.nil_append, List.append_nil, List.set_cons_zero, List.set_cons_succ]
  refine O_nil (hK4 _ ?_)
  clear hK4 K4
  refine codeW_seq fun K5 hK5 => codeW_reg ?_
  first | refine O_cons (W_it (W_load_p rfl rfl rfl rfl ?_)) | refine O_cons (W_it (W_load_r rfl rfl rfl ?_)) | refine O_cons (W_it (W_load_e rfl rfl rfl rfl rfl ?_))
  first | refine O_cons (W_it (W_fad_p rfl ?_)) | refine O_cons (W_it (W_fad_e rfl ?_)) | refine O_cons (W_it (W_fad_r rfl ?_))
  first | refine O_cons (W_it (W_fad_p rfl ?_)) | refine O_cons (W_it (W_fad_e rfl ?_)) | refine O_cons (W_it (W_fad_r rfl ?_))
  first | refine O_cons (W_it (W_load_p rfl rfl rfl rfl ?_)) | refine O_cons (W_it (W_load_r rfl rfl rfl ?_)) | refine O_cons (W_it (W_load_e rfl rfl rfl rfl rfl ?_))
  first | refine O_cons (W_it (W_fad_p rfl ?_)) | refine O_cons (W_it (W_fad_e rfl ?_)) | refine O_cons (W_it (W_fad_r rfl ?_))
  first | refine O_cons (W_it (W_fad_p rfl ?_)) | refine O_cons (W_it (W_fad_e rfl ?_)) | refine O_cons (W_it (W_fad_r rfl ?_))
  first | refine O_cons (W_it (W_load_p rfl rfl rfl rfl ?_)) | refine O_cons (W_it (W_load_r rfl rfl rfl ?_)) | refine O_cons (W_it (W_load_e rfl rfl rfl rfl rfl ?_))
  refine O_cons (W_it (W_bsl rfl ?_))
  refine O_cons (W_it (W_callW (small_FS (nums8 [th.pc, th.fuel, th.status] ++ words8 [th.r0, th.r1, th.r2, th.r3]) [th.kind, th.i] ?_) [0] _ [.c (.ptr 0 0), .c (.p (.sl 1 (ints .i64 [th.kind, th.i])))] [.ac [.p (.sl 1 (nums8 [th.pc, th.fuel, th.status] ++ words8 [th.r0, th.r1, th.r2, th.r3]))], .ac [.ptr 0 0], .dead, .dead] rfl
    (Weak.freeze 3 1 [[.v (.int .i64 th.kind)], [.v (.int .i64 th.i)]] rfl (by simp) ⟨.inl rfl, .inr ⟨0, 2, _, rfl, by simp, rfl⟩, trivial⟩ ⟨frz_keep rfl, frz_keep rfl, frz_keep rfl, frz_dead, trivial⟩) rfl rfl (by decide) ⟨rfl, trivial⟩ ?_))
  · simp only [List.length_append, nums8_len, words8_len, List.length_cons, List.length_nil]; omega
  rintro _ _ ⟨rfl, rfl⟩
  simp only [St.put, renAV, renAC, renReg, renAVs, setAll, upF, List.map_cons, List.map_nil, List.cons_append, List.nil_append, List.append_nil, List.set_cons_zero, List.set_cons_succ]
  refine O_nil (hK5 _ ?_)
  clear hK5 K5
  refine codeW_seq fun K6 hK6 => codeW_reg ?_
  first | refine O_cons (W_it (W_load_p rfl rfl rfl rfl ?_)) | refine O_cons (W_it (W_load_r rfl rfl rfl ?_)) | refine O_cons (W_it (W_load_e rfl rfl rfl rfl rfl ?_))
  first | refine O_cons (W_it (W_fad_p rfl ?_)) | refine O_cons (W_it (W_fad_e rfl ?_)) | refine O_cons (W_it (W_fad_r rfl ?_))
  first | refine O_cons (W_it (W_fad_p rfl ?_)) | refine O_cons (W_it (W_fad_e rfl ?_)) | refine O_cons (W_it (W_fad_r rfl ?_))
  first | refine O_cons (W_it (W_load_p rfl rfl rfl rfl ?_)) | refine O_cons (W_it (W_load_r rfl rfl rfl ?_)) | refine O_cons (W_it (W_load_e rfl rfl rfl rfl rfl ?_))
  refine O_cons (W_it (W_bsl rfl ?_))
  refine O_cons (W_it (W_callW (num_FS (nums8 [th.pc, th.fuel, th.status] ++ words8 [th.r0, th.r1, th.r2, th.r3] ++ nums8 [th.kind, th.i]) [th.n] ?_) [0] _ [.c (.ptr 0 0), .c (.p (.sl 1 (ints .i64 [th.n])))] [.ac [.p (.sl 1 (nums8 [th.pc, th.fuel, th.status] ++ words8 [th.r0, th.r1, th.r2, th.r3] ++ nums8 [th.kind, th.i]))], .ac [.ptr 0 0], .dead, .dead, .dead] rfl
    (Weak.freeze 4 1 [[.v (.int .i64 th.n)]] rfl (by simp) ⟨.inl rfl, .inr ⟨0, 1, _, rfl, by simp, rfl⟩, trivial⟩ ⟨frz_keep rfl, frz_keep rfl, frz_keep rfl, frz_keep rfl, frz_dead, trivial⟩) rfl rfl (by decide) ⟨rfl, trivial⟩ ?_))
  · simp only [List.length_append, nums8_len, words8_len, List.length_cons, List.length_nil]; omega
  rintro _ _ ⟨rfl, rfl⟩
  simp only [St.put, renAV, renAC, renReg, renAVs, setAll, upF, List.map_cons, List.map_nil, List.cons_append, List.nil_append, List.append_nil, List.set_cons_zero, List.set_cons_succ]
  refine O_nil (hK6 _ ?_)
  clear hK6 K6
  refine codeW_seq fun K7 hK7 => codeW_reg ?_
  first | refine O_cons (W_it (W_load_p rfl rfl rfl rfl ?_)) | refine O_cons (W_it (W_load_r rfl rfl rfl ?_)) | refine O_cons (W_it (W_load_e rfl rfl rfl rfl rfl ?_))
  first | refine O_cons (W_it (W_fad_p rfl ?_)) | refine O_cons (W_it (W_fad_e rfl ?_)) | refine O_cons (W_it (W_fad_r rfl ?_))
  first | refine O_cons (W_it (W_fad_p rfl ?_)) | refine O_cons (W_it (W_fad_e rfl ?_)) | refine O_cons (W_it (W_fad_r rfl ?_))
  first | refine O_cons (W_it (W_load_p rfl rfl rfl rfl ?_)) | refine O_cons (W_it (W_load_r rfl rfl rfl ?_)) | refine O_cons (W_it (W_load_e rfl rfl rfl rfl rfl ?_))
  first | refine O_cons (W_it (W_load_p rfl rfl rfl rfl ?_)) | refine O_cons (W_it (W_load_r rfl rfl rfl ?_)) | refine O_cons (W_it (W_load_e rfl rfl rfl rfl rfl ?_))
  refine O_cons (W_it (W_mkf rfl rfl ?_))
  refine O_cons (W_it (W_callF (list_num_FS (nums8 [th.pc, th.fuel, th.status] ++ words8 [th.r0, th.r1, th.r2, th.r3] ++ nums8 [th.kind, th.i] ++ nums8 [th.n]) th.seen ?_) [0] rfl (by decide) ⟨rfl, trivial⟩ ?_))
  · simp only [List.length_append, nums8_len, words8_len, List.length_cons, List.length_nil]; omega
  rintro _ _ ⟨rfl, rfl⟩
  simp only [St.put, renAV, renAC, renReg, renAVs, setAll, upF, List.map_cons, List.map_nil, List.cons_append, List.nil_append, List.append_nil, List.set_cons_zero, List.set_cons_succ]
  refine O_nil (hK7 _ ?_)
  clear hK7 K7
  refine codeW_seq fun K8 hK8 => codeW_reg ?_
  first | refine O_cons (W_it (W_load_p rfl rfl rfl rfl ?_)) | refine O_cons (W_it (W_load_r rfl rfl rfl ?_)) | refine O_cons (W_it (W_load_e rfl rfl rfl rfl rfl ?_))
  first | refine O_cons (W_it (W_fad_p rfl ?_)) | refine O_cons (W_it (W_fad_e rfl ?_)) | refine O_cons (W_it (W_fad_r rfl ?_))
  first | refine O_cons (W_it (W_load_p rfl rfl rfl rfl ?_)) | refine O_cons (W_it (W_load_r rfl rfl rfl ?_)) | refine O_cons (W_it (W_load_e rfl rfl rfl rfl rfl ?_))
  refine O_cons (W_it (W_mkf rfl rfl ?_))
  refine O_cons (W_it (W_callF (list_bag_FS (nums8 [th.pc, th.fuel, th.status] ++ words8 [th.r0, th.r1, th.r2, th.r3] ++ nums8 [th.kind, th.i] ++ nums8 [th.n] ++ nums8 [(th.seen.length : Int)] ++ nums8 th.seen) th.bag ?_) [0, 1] rfl (by decide) ⟨rfl, rfl, trivial⟩ ?_))
  · simp only [List.length_append, nums8_len, words8_len, List.length_cons, List.length_nil]; omega
  rintro _ _ ⟨rfl, rfl⟩
  simp only [St.put, renAV, renAC, renReg, renAVs, setAll, upF, List.map_cons, List.map_nil, List.cons_append, List.nil_append, List.append_nil, List.set_cons_zero, List.set_cons_succ]
  refine O_nil (hK8 _ ?_)
  clear hK8 K8
  refine codeW_seq fun K9 hK9 => codeW_reg ?_
  first | refine O_cons (W_it (W_load_p rfl rfl rfl rfl ?_)) | refine O_cons (W_it (W_load_r rfl rfl rfl ?_)) | refine O_cons (W_it (W_load_e rfl rfl rfl rfl rfl ?_))
  first | refine O_cons (W_it (W_fad_p rfl ?_)) | refine O_cons (W_it (W_fad_e rfl ?_)) | refine O_cons (W_it (W_fad_r rfl ?_))
  first | refine O_cons (W_it (W_load_p rfl rfl rfl rfl ?_)) | refine O_cons (W_it (W_load_r rfl rfl rfl ?_)) | refine O_cons (W_it (W_load_e rfl rfl rfl rfl rfl ?_))
  first | refine O_cons (W_it (W_load_p rfl rfl rfl rfl ?_)) | refine O_cons (W_it (W_load_r rfl rfl rfl ?_)) | refine O_cons (W_it (W_load_e rfl rfl rfl rfl rfl ?_))
  refine O_cons (W_it (W_mkf rfl rfl ?_))
  refine O_cons (W_it (W_callF (list_num_FS (nums8 [th.pc, th.fuel, th.status] ++ words8 [th.r0, th.r1, th.r2, th.r3] ++ nums8 [th.kind, th.i] ++ nums8 [th.n] ++ nums8 [(th.seen.length : Int)] ++ nums8 th.seen ++ nums8 [(th.bag.length : Int)] ++ words8 th.bag) th.snap ?_) [0] rfl (by decide) ⟨rfl, trivial⟩ ?_))
  · simp only [List.length_append, nums8_len, words8_len, List.length_cons, List.length_nil]; omega
  rintro _ _ ⟨rfl, rfl⟩
  simp only [St.put, renAV, renAC, renReg, renAVs, setAll, upF, List.map_cons, List.map_nil, List.cons_append, List.nil_append, List.append_nil, List.set_cons_zero, List.set_cons_succ]
  refine O_nil (hK9 _ ?_)
  clear hK9 K9
  refine codeW_seq fun K10 hK10 => codeW_reg ?_
  first | refine O_cons (W_it (W_load_p rfl rfl rfl rfl ?_)) | refine O_cons (W_it (W_load_r rfl rfl rfl ?_)) | refine O_cons (W_it (W_load_e rfl rfl rfl rfl rfl ?_))
  first | refine O_cons (W_it (W_fad_p rfl ?_)) | refine O_cons (W_it (W_fad_e rfl ?_)) | refine O_cons (W_it (W_fad_r rfl ?_))
  first | refine O_cons (W_it (W_load_p rfl rfl rfl rfl ?_)) | refine O_cons (W_it (W_load_r rfl rfl rfl ?_)) | refine O_cons (W_it (W_load_e rfl rfl rfl rfl rfl ?_))
  refine O_cons (W_it (W_bsl rfl ?_))
  refine O_cons (W_it (W_callW (small_FS (nums8 [th.pc, th.fuel, th.status] ++ words8 [th.r0, th.r1, th.r2, th.r3] ++ nums8 [th.kind, th.i] ++ nums8 [th.n] ++ nums8 [(th.seen.length : Int)] ++ nums8 th.seen ++ nums8 [(th.bag.length : Int)] ++ words8 th.bag ++ nums8 [(th.snap.length : Int)] ++ nums8 th.snap) [th.old] ?_) [0] _ [.c (.ptr 0 0), .c (.p (.sl 1 (ints .i64 [th.old])))] [.ac [.p (.sl 1 (nums8 [th.pc, th.fuel, th.status] ++ words8 [th.r0, th.r1, th.r2, th.r3] ++ nums8 [th.kind, th.i] ++ nums8 [th.n] ++ nums8 [(th.seen.length : Int)] ++ nums8 th.seen ++ nums8 [(th.bag.length : Int)] ++ words8 th.bag ++ nums8 [(th.snap.length : Int)] ++ nums8 th.snap))], .ac [.ptr 0 0], .dead, .dead, .dead, .dead] rfl
    (Weak.freeze 5 1 [[.v (.int .i64 th.old)]] rfl (by simp) ⟨.inl rfl, .inr ⟨0, 1, _, rfl, by simp, rfl⟩, trivial⟩ ⟨frz_keep rfl, frz_keep rfl, frz_keep rfl, frz_keep rfl, frz_keep rfl, frz_dead, trivial⟩) rfl rfl (by decide) ⟨rfl, trivial⟩ ?_))
  · simp only [List.length_append, nums8_len, words8_len, List.length_cons, List.length_nil]; omega
  rintro _ _ ⟨rfl, rfl⟩
  simp only [St.put, renAV, renAC, renReg, renAVs, setAll, upF, List.map_cons, List.map_nil, List.cons_append, List.nil_append, List.append_nil, List.set_cons_zero, List.set_cons_succ]
  refine O_nil (hK10 _ ?_)
  clear hK10 K10
  refine codeW_seq fun K11 hK11 => codeW_reg ?_
  first | refine O_cons (W_it (W_load_p rfl rfl rfl rfl ?_)) | refine O_cons (W_it (W_load_r rfl rfl rfl ?_)) | refine O_cons (W_it (W_load_e rfl rfl rfl rfl rfl ?_))
  refine O_cons (W_it (W_nilc rfl rfl ?_))
  first | refine O_cons (W_it (W_fad_p rfl ?_)) | refine O_cons (W_it (W_fad_e rfl ?_)) | refine O_cons (W_it (W_fad_r rfl ?_))
  first | refine O_cons (W_it (W_load_p rfl rfl rfl rfl ?_)) | refine O_cons (W_it (W_load_r rfl rfl rfl ?_)) | refine O_cons (W_it (W_load_e rfl rfl rfl rfl rfl ?_))
  refine O_cons (W_it (W_mv rfl ?_))
  refine O_nil (hK11 _ ?_)
  clear hK11 K11
  refine codeW_ret (Fin.weak (.inr rfl) (s1 := ⟨[(2, .c (.p (.sl 1 th.octets)))], []⟩) (Weak.ren [] rfl (by decide) trivial ⟨?_, trivial⟩) ⟨rfl, rfl⟩)
  rfl

def ac19 : ACode := (.seq (.reg [⟨none, (some 1), (.box (some 1) (.t 0))⟩, ⟨none, (some 2), (.mv (some 2) (.k (.slice none 0 0)))⟩]) (.seq (.reg [⟨none, (some 4), (.build (some 4) [(.slice none 0 0)] [])⟩, ⟨none, (some 5), (.box (some 5) (.t 4))⟩, ⟨none, (some 3), (.alloc (some 3) [(.pointer none)])⟩, ⟨none, none, (.store 1 (.t 3) (.t 5))⟩]) (.seq (.reg [⟨none, (some 6), (.load (some 6) 1 false (.t 3))⟩, ⟨none, (some 7), (.fad (some 7) 2 (.t 1))⟩, ⟨none, (some 8), (.load (some 8) 1 false (.t 7))⟩, ⟨none, (some 9), (.load (some 9) 1 false (.t 3))⟩, ⟨none, (some 10), (.mkf (some 10) (.func 30) [(.t 9)] [])⟩, ⟨none, (some 11), (.call (some 11) 41 [(.t 6), (.t 8), (.t 10)])⟩]) (.seq (.reg [⟨none, (some 12), (.load (some 12) 1 false (.t 3))⟩, ⟨none, (some 13), (.fad (some 13) 3 (.t 1))⟩, ⟨none, (some 14), (.load (some 14) 1 false (.t 13))⟩, ⟨none, (some 15), (.load (some 15) 1 false (.t 3))⟩, ⟨none, (some 16), (.mkf (some 16) (.func 30) [(.t 15)] [])⟩, ⟨none, (some 17), (.call (some 17) 41 [(.t 12), (.t 14), (.t 16)])⟩]) (.seq (.reg [⟨none, (some 18), (.load (some 18) 1 false (.t 3))⟩, ⟨none, (some 19), (.fad (some 19) 4 (.t 1))⟩, ⟨none, (some 20), (.load (some 20) 1 false (.t 19))⟩, ⟨none, (some 21), (.mkf (some 21) (.func 43) [] [(.t 3)])⟩, ⟨none, (some 22), (.call (some 22) 42 [(.t 18), (.t 20), (.t 21)])⟩]) (.seq (.reg [⟨none, (some 23), (.load (some 23) 1 false (.t 3))⟩, ⟨none, (some 24), (.fad (some 24) 5 (.t 1))⟩, ⟨none, (some 25), (.load (some 25) 1 false (.t 24))⟩, ⟨none, (some 26), (.load (some 26) 1 false (.t 3))⟩, ⟨none, (some 27), (.mkf (some 27) (.func 29) [(.t 26)] [])⟩, ⟨none, (some 28), (.call (some 28) 44 [(.t 23), (.t 25), (.t 27)])⟩]) (.seq (.reg [⟨none, (some 29), (.load (some 29) 1 false (.t 3))⟩, ⟨none, (some 30), (.fad (some 30) 6 (.t 1))⟩, ⟨none, (some 31), (.load (some 31) 1 false (.t 30))⟩, ⟨none, (some 32), (.bsl (some 32) 1 1 [(.int .i64 0)] [(0, (.t 31))])⟩, ⟨none, (some 33), (.call (some 33) 31 [(.t 29), (.t 32)])⟩]) (.seq (.reg [⟨none, (some 34), (.load (some 34) 1 false (.t 3))⟩, ⟨none, (some 35), (.fad (some 35) 7 (.t 1))⟩, ⟨none, (some 36), (.load (some 36) 1 false (.t 35))⟩, ⟨none, (some 37), (.load (some 37) 1 false (.t 3))⟩, ⟨none, (some 38), (.mkf (some 38) (.func 31) [(.t 37)] [])⟩, ⟨none, (some 39), (.call (some 39) 32 [(.t 34), (.t 36), (.t 38)])⟩]) (.seq (.reg [⟨none, (some 40), (.load (some 40) 1 false (.t 3))⟩, ⟨none, (some 41), (.fad (some 41) 8 (.t 1))⟩, ⟨none, (some 42), (.load (some 42) 1 false (.t 41))⟩, ⟨none, (some 43), (.load (some 43) 1 false (.t 3))⟩, ⟨none, (some 44), (.mkf (some 44) (.func 31) [(.t 43)] [])⟩, ⟨none, (some 45), (.call (some 45) 32 [(.t 40), (.t 42), (.t 44)])⟩]) (.seq (.reg [⟨none, (some 46), (.load (some 46) 1 false (.t 3))⟩, ⟨none, (some 47), (.nilc (some 47) (.t 46))⟩, ⟨none, (some 48), (.fad (some 48) 0 (.t 47))⟩, ⟨none, (some 49), (.load (some 49) 1 false (.t 48))⟩, ⟨none, (some 2), (.mv (some 2) (.t 49))⟩]) .ret))))))))))
theorem tr19 : ((Try.f19.name == "runtime.NumGoroutine") = false ∧ Try.f19.results = ([2].map ResultVar.tmp).toArray) ∧ Try.f19.ntmps = 50 ∧ (Try.f19.body.bind (trCode Try.prog Try.f19.ntmps)) = some ac19 := ⟨⟨by kernel_rfl, by kernel_rfl⟩, by kernel_rfl, by kernel_rfl⟩


structure Sta where
  threads : List Thr
  buffers : List (List Ent)
  roots : List (Int × Int × Int)
  slots : List (Int × Int × Int)
  cells : List Cel
  free : List Int
  epoch : Int
  marks : List Int
  counts : List Int
def Sta.row (st : Sta) : List PV := [.sl 22 (st.threads.map Thr.cells), .sl 1 (st.buffers.map fun b => [.sl 8 (ents b)]), .sl 3 (words st.roots), .sl 3 (words st.slots), .sl 10 (cels st.cells), .sl 1 (ints .i64 st.free), .v (.int .i64 st.epoch), .sl 1 (ints .i64 st.marks), .sl 1 (ints .i64 st.counts)]
def Sta.bulk (st : Sta) : Nat := 80 * (st.roots.length + st.slots.length + st.cells.length + st.free.length + st.marks.length + st.counts.length)
def Sta.sharedOctets (st : Sta) : List (List PV) := nums8 [(st.roots.length : Int)] ++ words8 st.roots ++ nums8 [(st.slots.length : Int)] ++ words8 st.slots ++ nums8 [(st.cells.length : Int)] ++ cells8 st.cells ++ nums8 [(st.free.length : Int)] ++ nums8 st.free ++ nums8 [st.epoch] ++ nums8 [(st.marks.length : Int)] ++ nums8 st.marks ++ nums8 [(st.counts.length : Int)] ++ nums8 st.counts
theorem shared_FS (st : Sta) (hb : st.bulk ≤ 900000000) :
    FS Try.prog 19 [.agg (st.row.map .p)] [] fun res rg => res = .c (.p (.sl 1 st.sharedOctets)) ∧ rg = [] := by
  refine FS_def [2] 50 Try.func19 tr19 rfl ?_
  unfold ac19
  have hb2 : 80 * (st.roots.length + st.slots.length + st.cells.length + st.free.length + st.marks.length + st.counts.length) ≤ 900000000 := hb
  refine codeW_seq fun K1 hK1 => codeW_reg ?_
  refine O_cons (W_it (W_box rfl ?_))
  refine O_cons (W_it (W_mv rfl ?_))
  refine O_nil (hK1 _ ?_)
  clear hK1 K1
  refine codeW_seq fun K2 hK2 => codeW_reg ?_
  refine O_cons (W_it (W_build rfl ?_))
  refine O_cons (W_it (W_box rfl ?_))
  refine O_cons (W_it (W_alloc ?_))
  first | refine O_cons (W_it (W_store_p rfl rfl rfl rfl rfl rfl ?_)) | refine O_cons (W_it (W_store_e rfl rfl rfl rfl rfl rfl rfl ?_))
  refine O_nil (hK2 _ ?_)
  clear hK2 K2
  refine codeW_weak (s' := ⟨[(1, .c (.rp st.row)), (3, .c (.ptr 2 0))], [.dead, .ac [.p (.v (.slice none 0 0))], .ac [.ptr 1 0]]⟩) (Weak.box 0 st.row rfl ⟨.inr ⟨0, rfl, Nat.zero_le _, rfl⟩, .inl rfl, trivial⟩ ⟨t_dead (by decide), t_keep (fun _ => .inl rfl) (by decide), t_keep (fun _ => .inl rfl) (by decide), trivial⟩) ?_
  refine codeW_weak (s' := ⟨[(1, .c (.rp st.row)), (3, .c (.ptr 2 0))], [.dead, .ac [.p (.sl 1 [])], .ac [.ptr 1 0]]⟩) (Weak.imp ⟨.inl rfl, .inl rfl, trivial⟩ ⟨t_keep (fun _ => .inl rfl) (by decide), t_turn (by decide) ⟨.inr (.inl ⟨1, by decide, rfl, rfl⟩), trivial⟩, t_keep (fun _ => .inl rfl) (by decide), trivial⟩) ?_
  refine codeW_weak (s' := ⟨[(1, .c (.rp st.row)), (3, .c (.ptr 1 0))], [.ac [.p (.sl 1 [])], .ac [.ptr 0 0]]⟩) (Weak.ren [1, 2] rfl (by decide) ⟨.inr rfl, .inr rfl, trivial⟩ ⟨rfl, rfl, trivial⟩) ?_
  refine codeW_seq fun K3 hK3 => codeW_reg ?_
  first | refine O_cons (W_it (W_load_p rfl rfl rfl rfl ?_)) | refine O_cons (W_it (W_load_r rfl rfl rfl ?_)) | refine O_cons (W_it (W_load_e rfl rfl rfl rfl rfl ?_))
  first | refine O_cons (W_it (W_fad_p rfl ?_)) | refine O_cons (W_it (W_fad_e rfl ?_)) | refine O_cons (W_it (W_fad_r rfl ?_))
  first | refine O_cons (W_it (W_load_p rfl rfl rfl rfl ?_)) | refine O_cons (W_it (W_load_r rfl rfl rfl ?_)) | refine O_cons (W_it (W_load_e rfl rfl rfl rfl rfl ?_))
  first | refine O_cons (W_it (W_load_p rfl rfl rfl rfl ?_)) | refine O_cons (W_it (W_load_r rfl rfl rfl ?_)) | refine O_cons (W_it (W_load_e rfl rfl rfl rfl rfl ?_))
  refine O_cons (W_it (W_mkf rfl rfl ?_))
  refine O_cons (W_it (W_callF (list_word_FS ([]) st.roots ?_) [0] rfl (by decide) ⟨rfl, trivial⟩ ?_))
  · simp only [List.length_append, nums8_len, words8_len, cells8_len, List.length_cons, List.length_nil]; omega
  rintro _ _ ⟨rfl, rfl⟩
  simp only [St.put, renAV, renAC, renReg, renAVs, setAll, upF, List.map_cons, List.map_nil, List.cons_append, List.nil_append, List.append_nil, List.set_cons_zero, List.set_cons_succ]
  refine O_nil (hK3 _ ?_)
  clear hK3 K3
  refine codeW_seq fun K4 hK4 => codeW_reg ?_
  first | refine O_cons (W_it (W_load_p rfl rfl rfl rfl ?_)) | refine O_cons (W_it (W_load_r rfl rfl rfl ?_)) | refine O_cons (W_it (W_load_e rfl rfl rfl rfl rfl ?_))
  first | refine O_cons (W_it (W_fad_p rfl ?_)) | refine O_cons (W_it (W_fad_e rfl ?_)) | refine O_cons (W_it (W_fad_r rfl ?_))
  first | refine O_cons (W_it (W_load_p rfl rfl rfl rfl ?_)) | refine O_cons (W_it (W_load_r rfl rfl rfl ?_)) | refine O_cons (W_it (W_load_e rfl rfl rfl rfl rfl ?_))
  first | refine O_cons (W_it (W_load_p rfl rfl rfl rfl ?_)) | refine O_cons (W_it (W_load_r rfl rfl rfl ?_)) | refine O_cons (W_it (W_load_e rfl rfl rfl rfl rfl ?_))
  refine O_cons (W_it (W_mkf rfl rfl ?_))
  refine O_cons (W_it (W_callF (list_word_FS (nums8 [(st.roots.length : Int)] ++ words8 st.roots) st.slots ?_) [0] rfl (by decide) ⟨rfl, trivial⟩ ?_))
  · simp only [List.length_append, nums8_len, words8_len, cells8_len, List.length_cons, List.length_nil]; omega
  rintro _ _ ⟨rfl, rfl⟩
  simp only [St.put, renAV, renAC, renReg, renAVs, setAll, upF, List.map_cons, List.map_nil, List.cons_append, List.nil_append, List.append_nil, List.set_cons_zero, List.set_cons_succ]
  refine O_nil (hK4 _ ?_)
  clear hK4 K4
  refine codeW_seq fun K5 hK5 => codeW_reg ?_
  first | refine O_cons (W_it (W_load_p rfl rfl rfl rfl ?_)) | refine O_cons (W_it (W_load_r rfl rfl rfl ?_)) | refine O_cons (W_it (W_load_e rfl rfl rfl rfl rfl ?_))
  first | refine O_cons (W_it (W_fad_p rfl ?_)) | refine O_cons (W_it (W_fad_e rfl ?_)) | refine O_cons (W_it (W_fad_r rfl ?_))
  first | refine O_cons (W_it (W_load_p rfl rfl rfl rfl ?_)) | refine O_cons (W_it (W_load_r rfl rfl rfl ?_)) | refine O_cons (W_it (W_load_e rfl rfl rfl rfl rfl ?_))
  refine O_cons (W_it (W_mkf rfl rfl ?_))
  refine O_cons (W_it (W_callF (list_cell_FS (nums8 [(st.roots.length : Int)] ++ words8 st.roots ++ nums8 [(st.slots.length : Int)] ++ words8 st.slots) st.cells ?_) [0, 1] rfl (by decide) ⟨rfl, rfl, trivial⟩ ?_))
  · simp only [List.length_append, nums8_len, words8_len, cells8_len, List.length_cons, List.length_nil]; omega
  rintro _ _ ⟨rfl, rfl⟩
  simp only [St.put, renAV, renAC, renReg, renAVs, setAll, upF, List.map_cons, List.map_nil, List.cons_append, List.nil_append, List.append_nil, List.set_cons_zero, List.set_cons_succ]
  refine O_nil (hK5 _ ?_)
  clear hK5 K5
  refine codeW_seq fun K6 hK6 => codeW_reg ?_
  first | refine O_cons (W_it (W_load_p rfl rfl rfl rfl ?_)) | refine O_cons (W_it (W_load_r rfl rfl rfl ?_)) | refine O_cons (W_it (W_load_e rfl rfl rfl rfl rfl ?_))
  first | refine O_cons (W_it (W_fad_p rfl ?_)) | refine O_cons (W_it (W_fad_e rfl ?_)) | refine O_cons (W_it (W_fad_r rfl ?_))
  first | refine O_cons (W_it (W_load_p rfl rfl rfl rfl ?_)) | refine O_cons (W_it (W_load_r rfl rfl rfl ?_)) | refine O_cons (W_it (W_load_e rfl rfl rfl rfl rfl ?_))
  first | refine O_cons (W_it (W_load_p rfl rfl rfl rfl ?_)) | refine O_cons (W_it (W_load_r rfl rfl rfl ?_)) | refine O_cons (W_it (W_load_e rfl rfl rfl rfl rfl ?_))
  refine O_cons (W_it (W_mkf rfl rfl ?_))
  refine O_cons (W_it (W_callF (list_small_FS (nums8 [(st.roots.length : Int)] ++ words8 st.roots ++ nums8 [(st.slots.length : Int)] ++ words8 st.slots ++ nums8 [(st.cells.length : Int)] ++ cells8 st.cells) st.free ?_) [0] rfl (by decide) ⟨rfl, trivial⟩ ?_))
  · simp only [List.length_append, nums8_len, words8_len, cells8_len, List.length_cons, List.length_nil]; omega
  rintro _ _ ⟨rfl, rfl⟩
  simp only [St.put, renAV, renAC, renReg, renAVs, setAll, upF, List.map_cons, List.map_nil, List.cons_append, List.nil_append, List.append_nil, List.set_cons_zero, List.set_cons_succ]
  refine O_nil (hK6 _ ?_)
  clear hK6 K6
  refine codeW_seq fun K7 hK7 => codeW_reg ?_
  first | refine O_cons (W_it (W_load_p rfl rfl rfl rfl ?_)) | refine O_cons (W_it (W_load_r rfl rfl rfl ?_)) | refine O_cons (W_it (W_load_e rfl rfl rfl rfl rfl ?_))
  first | refine O_cons (W_it (W_fad_p rfl ?_)) | refine O_cons (W_it (W_fad_e rfl ?_)) | refine O_cons (W_it (W_fad_r rfl ?_))
  first | refine O_cons (W_it (W_load_p rfl rfl rfl rfl ?_)) | refine O_cons (W_it (W_load_r rfl rfl rfl ?_)) | refine O_cons (W_it (W_load_e rfl rfl rfl rfl rfl ?_))
  refine O_cons (W_it (W_bsl rfl ?_))
  refine O_cons (W_it (W_callW (num_FS (nums8 [(st.roots.length : Int)] ++ words8 st.roots ++ nums8 [(st.slots.length : Int)] ++ words8 st.slots ++ nums8 [(st.cells.length : Int)] ++ cells8 st.cells ++ nums8 [(st.free.length : Int)] ++ nums8 st.free) [st.epoch] ?_) [0] _ [.c (.ptr 0 0), .c (.p (.sl 1 (ints .i64 [st.epoch])))] [.ac [.p (.sl 1 (nums8 [(st.roots.length : Int)] ++ words8 st.roots ++ nums8 [(st.slots.length : Int)] ++ words8 st.slots ++ nums8 [(st.cells.length : Int)] ++ cells8 st.cells ++ nums8 [(st.free.length : Int)] ++ nums8 st.free))], .ac [.ptr 0 0], .dead] rfl
    (Weak.freeze 2 1 [[.v (.int .i64 st.epoch)]] rfl (by simp) ⟨.inl rfl, .inr ⟨0, 1, _, rfl, by simp, rfl⟩, trivial⟩ ⟨frz_keep rfl, frz_keep rfl, frz_dead, trivial⟩) rfl rfl (by decide) ⟨rfl, trivial⟩ ?_))
  · simp only [List.length_append, nums8_len, words8_len, cells8_len, List.length_cons, List.length_nil]; omega
  rintro _ _ ⟨rfl, rfl⟩
  simp only [St.put, renAV, renAC, renReg, renAVs, setAll, upF, List.map_cons, List.map_nil, List.cons_append, List.nil_append, List.append_nil, List.set_cons_zero, List.set_cons_succ]
  refine O_nil (hK7 _ ?_)
  clear hK7 K7
  refine codeW_seq fun K8 hK8 => codeW_reg ?_
  first | refine O_cons (W_it (W_load_p rfl rfl rfl rfl ?_)) | refine O_cons (W_it (W_load_r rfl rfl rfl ?_)) | refine O_cons (W_it (W_load_e rfl rfl rfl rfl rfl ?_))
  first | refine O_cons (W_it (W_fad_p rfl ?_)) | refine O_cons (W_it (W_fad_e rfl ?_)) | refine O_cons (W_it (W_fad_r rfl ?_))
  first | refine O_cons (W_it (W_load_p rfl rfl rfl rfl ?_)) | refine O_cons (W_it (W_load_r rfl rfl rfl ?_)) | refine O_cons (W_it (W_load_e rfl rfl rfl rfl rfl ?_))
  first | refine O_cons (W_it (W_load_p rfl rfl rfl rfl ?_)) | refine O_cons (W_it (W_load_r rfl rfl rfl ?_)) | refine O_cons (W_it (W_load_e rfl rfl rfl rfl rfl ?_))
  refine O_cons (W_it (W_mkf rfl rfl ?_))
  refine O_cons (W_it (W_callF (list_num_FS (nums8 [(st.roots.length : Int)] ++ words8 st.roots ++ nums8 [(st.slots.length : Int)] ++ words8 st.slots ++ nums8 [(st.cells.length : Int)] ++ cells8 st.cells ++ nums8 [(st.free.length : Int)] ++ nums8 st.free ++ nums8 [st.epoch]) st.marks ?_) [0] rfl (by decide) ⟨rfl, trivial⟩ ?_))
  · simp only [List.length_append, nums8_len, words8_len, cells8_len, List.length_cons, List.length_nil]; omega
  rintro _ _ ⟨rfl, rfl⟩
  simp only [St.put, renAV, renAC, renReg, renAVs, setAll, upF, List.map_cons, List.map_nil, List.cons_append, List.nil_append, List.append_nil, List.set_cons_zero, List.set_cons_succ]
  refine O_nil (hK8 _ ?_)
  clear hK8 K8
  refine codeW_seq fun K9 hK9 => codeW_reg ?_
  first | refine O_cons (W_it (W_load_p rfl rfl rfl rfl ?_)) | refine O_cons (W_it (W_load_r rfl rfl rfl ?_)) | refine O_cons (W_it (W_load_e rfl rfl rfl rfl rfl ?_))
  first | refine O_cons (W_it (W_fad_p rfl ?_)) | refine O_cons (W_it (W_fad_e rfl ?_)) | refine O_cons (W_it (W_fad_r rfl ?_))
  first | refine O_cons (W_it (W_load_p rfl rfl rfl rfl ?_)) | refine O_cons (W_it (W_load_r rfl rfl rfl ?_)) | refine O_cons (W_it (W_load_e rfl rfl rfl rfl rfl ?_))
  first | refine O_cons (W_it (W_load_p rfl rfl rfl rfl ?_)) | refine O_cons (W_it (W_load_r rfl rfl rfl ?_)) | refine O_cons (W_it (W_load_e rfl rfl rfl rfl rfl ?_))
  refine O_cons (W_it (W_mkf rfl rfl ?_))
  refine O_cons (W_it (W_callF (list_num_FS (nums8 [(st.roots.length : Int)] ++ words8 st.roots ++ nums8 [(st.slots.length : Int)] ++ words8 st.slots ++ nums8 [(st.cells.length : Int)] ++ cells8 st.cells ++ nums8 [(st.free.length : Int)] ++ nums8 st.free ++ nums8 [st.epoch] ++ nums8 [(st.marks.length : Int)] ++ nums8 st.marks) st.counts ?_) [0] rfl (by decide) ⟨rfl, trivial⟩ ?_))
  · simp only [List.length_append, nums8_len, words8_len, cells8_len, List.length_cons, List.length_nil]; omega
  rintro _ _ ⟨rfl, rfl⟩
  simp only [St.put, renAV, renAC, renReg, renAVs, setAll, upF, List.map_cons, List.map_nil, List.cons_append, List.nil_append, List.append_nil, List.set_cons_zero, List.set_cons_succ]
  refine O_nil (hK9 _ ?_)
  clear hK9 K9
  refine codeW_seq fun K10 hK10 => codeW_reg ?_
  first | refine O_cons (W_it (W_load_p rfl rfl rfl rfl ?_)) | refine O_cons (W_it (W_load_r rfl rfl rfl ?_)) | refine O_cons (W_it (W_load_e rfl rfl rfl rfl rfl ?_))
  refine O_cons (W_it (W_nilc rfl rfl ?_))
  first | refine O_cons (W_it (W_fad_p rfl ?_)) | refine O_cons (W_it (W_fad_e rfl ?_)) | refine O_cons (W_it (W_fad_r rfl ?_))
  first | refine O_cons (W_it (W_load_p rfl rfl rfl rfl ?_)) | refine O_cons (W_it (W_load_r rfl rfl rfl ?_)) | refine O_cons (W_it (W_load_e rfl rfl rfl rfl rfl ?_))
  refine O_cons (W_it (W_mv rfl ?_))
  refine O_nil (hK10 _ ?_)
  clear hK10 K10
  refine codeW_ret (Fin.weak (.inr rfl) (s1 := ⟨[(2, .c (.p (.sl 1 st.sharedOctets)))], []⟩) (Weak.ren [] rfl (by decide) trivial ⟨?_, trivial⟩) ⟨rfl, rfl⟩)
  rfl

end Go.Sim
