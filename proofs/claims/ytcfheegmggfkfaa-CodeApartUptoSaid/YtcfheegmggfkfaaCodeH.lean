import Derived.Test.YtcfheegmggfkfaaCodeG
import Derived.Test.YtcfheegmggfkfaaChecked
import Derived.KernelRfl
namespace Go.Sim
open Go.RowKit Go.Proofs.Ytcfheegmggfkfaa.B Go.Proofs
set_option maxRecDepth 100000
set_option linter.unusedSimpArgs false
set_option linter.unusedVariables false

def st0 : Sta := ⟨[], [], [], [], [], [], 0, [], []⟩
def st1 : Sta := ⟨[], [], [], [], [], [], 1, [], []⟩
theorem st0_fine : st0.Fine := by constructor <;> simp [st0, InR, Sta.weight, thrW, bufW, Sta.bulk]
theorem st1_fine : st1.Fine := by constructor <;> simp [st1, InR, Sta.weight, thrW, bufW, Sta.bulk]
theorem st0_len : st0.octets.length = 72 := by rw [Sta.octets_V, ints_len, V_len]; rfl
theorem st1_len : st1.octets.length = 72 := by rw [Sta.octets_V, ints_len, V_len]; rfl
theorem st_differ : (!((strB (V st1.ns)).toList == (strB (V st0.ns)).toList)) = true := by
  rw [str_eq st1_fine.ns st0_fine.ns]
  have h : ¬ st1.ns = st0.ns := by decide
  simp [h]
theorem st_hash : decide (st0.hash = sumI (IntKind.u64.wrap 128) (V st0.sharedN) (V st0.sharedN).length) = true := decide_eq_true rfl
theorem ints_take (k : IntKind) (xs : List Int) (n : Nat) : (ints k xs).take n = ints k (xs.take n) := by simp [ints, List.map_take]

def ac13 : ACode := (.seq (.reg [⟨none, (some 0), (.mv (some 0) (.k (.bool false)))⟩]) (.seq (.reg [⟨none, (some 3), (.build (some 3) [(.slice none 0 0), (.slice none 0 0), (.slice none 0 0), (.slice none 0 0), (.slice none 0 0), (.slice none 0 0), (.int .i64 0), (.slice none 0 0), (.slice none 0 0)] [(6, (1, (.k (.int .i64 1))))])⟩, ⟨none, (some 4), (.call (some 4) 21 [(.t 3)])⟩, ⟨none, (some 1), (.mv (some 1) (.t 4))⟩]) (.seq (.reg [⟨none, (some 5), (.build (some 5) [(.slice none 0 0), (.slice none 0 0), (.slice none 0 0), (.slice none 0 0), (.slice none 0 0), (.slice none 0 0), (.int .i64 0), (.slice none 0 0), (.slice none 0 0)] [])⟩, ⟨none, (some 6), (.call (some 6) 21 [(.t 5)])⟩, ⟨none, (some 2), (.mv (some 2) (.t 6))⟩]) (.seq (.reg [⟨none, (some 7), (.mv (some 7) (.t 1))⟩, ⟨none, (some 8), (.len (some 8) (.t 7))⟩, ⟨none, (some 9), (.mv (some 9) (.t 2))⟩, ⟨none, (some 10), (.len (some 10) (.t 9))⟩, ⟨none, (some 11), (.bin (some 11) .eql (.t 8) (.t 10))⟩, ⟨none, (some 12), (.mv (some 12) (.t 11))⟩, ⟨(some (12, true)), (some 13), (.mv (some 13) (.t 1))⟩, ⟨(some (12, true)), (some 14), (.len (some 14) (.t 13))⟩, ⟨(some (12, true)), (some 15), (.bin (some 15) .gtr (.t 14) (.k (.int .i64 8)))⟩, ⟨none, (some 16), (.pick (some 16) (.t 12) (.t 15) (.k (.bool false)))⟩, ⟨none, (some 17), (.mv (some 17) (.t 16))⟩, ⟨(some (17, true)), (some 18), (.mv (some 18) (.t 1))⟩, ⟨(some (17, true)), (some 19), (.b2s (some 19) (.t 18))⟩, ⟨(some (17, true)), (some 20), (.mv (some 20) (.t 2))⟩, ⟨(some (17, true)), (some 21), (.b2s (some 21) (.t 20))⟩, ⟨(some (17, true)), (some 22), (.bin (some 22) .neq (.t 19) (.t 21))⟩, ⟨none, (some 23), (.pick (some 23) (.t 17) (.t 22) (.k (.bool false)))⟩, ⟨none, (some 24), (.mv (some 24) (.t 23))⟩, ⟨(some (24, true)), (some 25), (.build (some 25) [(.slice none 0 0), (.slice none 0 0), (.slice none 0 0), (.slice none 0 0), (.slice none 0 0), (.slice none 0 0), (.int .i64 0), (.slice none 0 0), (.slice none 0 0)] [])⟩, ⟨(some (24, true)), (some 26), (.call (some 26) 23 [(.t 25)])⟩, ⟨(some (24, true)), (some 27), (.build (some 27) [(.slice none 0 0), (.slice none 0 0), (.slice none 0 0), (.slice none 0 0), (.slice none 0 0), (.slice none 0 0), (.int .i64 0), (.slice none 0 0), (.slice none 0 0)] [])⟩, ⟨(some (24, true)), (some 28), (.call (some 28) 19 [(.t 27)])⟩, ⟨(some (24, true)), (some 29), (.call (some 29) 25 [(.k (.int .i64 128)), (.t 28)])⟩, ⟨(some (24, true)), (some 30), (.bin (some 30) .eql (.t 26) (.t 29))⟩, ⟨none, (some 31), (.pick (some 31) (.t 24) (.t 30) (.k (.bool false)))⟩, ⟨none, (some 0), (.mv (some 0) (.t 31))⟩]) .ret))))
theorem tr13 : ((Try.f13.name == "runtime.NumGoroutine") = false ∧ Try.f13.results = ([0].map ResultVar.tmp).toArray) ∧ Try.f13.ntmps = 32 ∧ (Try.f13.body.bind (trCode Try.prog Try.f13.ntmps)) = some ac13 := ⟨⟨by kernel_rfl, by kernel_rfl⟩, by kernel_rfl, by kernel_rfl⟩


theorem alive_FS : FS Try.prog 13 [] [] fun res rg => res = .c (.p (.v (.bool true))) ∧ rg = [] := by
  refine FS_def [0] 32 Try.func13 tr13 rfl ?_
  unfold ac13
  refine codeW_seq fun K1 hK1 => codeW_reg ?_
  refine O_cons (W_it (W_mv rfl ?_))
  refine O_nil (hK1 _ ?_)
  clear hK1 K1
  refine codeW_seq fun K2 hK2 => codeW_reg ?_
  refine O_cons (W_it (W_build rfl ?_))
  refine O_cons (W_it (W_callW (codeput_FS st1 st1_fine.weight) [] [.agg [.p (.v (.slice none 0 0)), .p (.v (.slice none 0 0)), .p (.v (.slice none 0 0)), .p (.v (.slice none 0 0)), .p (.v (.slice none 0 0)), .p (.v (.slice none 0 0)), .p (.v (.int .i64 1)), .p (.v (.slice none 0 0)), .p (.v (.slice none 0 0))]] [.agg (st1.row.map .p)] [] rfl (Weak.imp ⟨⟨.inr (.inl ⟨22, by decide, rfl, rfl⟩), .inr (.inl ⟨1, by decide, rfl, rfl⟩), .inr (.inl ⟨3, by decide, rfl, rfl⟩), .inr (.inl ⟨3, by decide, rfl, rfl⟩), .inr (.inl ⟨10, by decide, rfl, rfl⟩), .inr (.inl ⟨1, by decide, rfl, rfl⟩), .inl rfl, .inr (.inl ⟨1, by decide, rfl, rfl⟩), .inr (.inl ⟨1, by decide, rfl, rfl⟩), trivial⟩, trivial⟩ trivial) rfl rfl (by decide) trivial ?_))
  rintro _ _ ⟨rfl, rfl⟩
  simp only [St.put, renAV, renAC, renReg, renAVs, setAll, upF, List.map_cons, List.map_nil, List.cons_append, List.nil_append, List.append_nil, List.set_cons_zero, List.set_cons_succ, List.length_cons, List.length_nil, Nat.reduceAdd, Nat.reduceLT, Nat.reduceSub, Nat.not_lt_zero, if_false, if_true, Nat.sub_zero, Nat.add_zero, Nat.zero_add]
  refine O_cons (W_it (W_mv rfl ?_))
  refine O_nil (hK2 _ ?_)
  clear hK2 K2
  refine codeW_seq fun K3 hK3 => codeW_reg ?_
  refine O_cons (W_it (W_build rfl ?_))
  refine O_cons (W_it (W_callW (codeput_FS st0 st0_fine.weight) [] [.agg [.p (.v (.slice none 0 0)), .p (.v (.slice none 0 0)), .p (.v (.slice none 0 0)), .p (.v (.slice none 0 0)), .p (.v (.slice none 0 0)), .p (.v (.slice none 0 0)), .p (.v (.int .i64 0)), .p (.v (.slice none 0 0)), .p (.v (.slice none 0 0))]] [.agg (st0.row.map .p)] [] rfl (Weak.imp ⟨⟨.inr (.inl ⟨22, by decide, rfl, rfl⟩), .inr (.inl ⟨1, by decide, rfl, rfl⟩), .inr (.inl ⟨3, by decide, rfl, rfl⟩), .inr (.inl ⟨3, by decide, rfl, rfl⟩), .inr (.inl ⟨10, by decide, rfl, rfl⟩), .inr (.inl ⟨1, by decide, rfl, rfl⟩), .inl rfl, .inr (.inl ⟨1, by decide, rfl, rfl⟩), .inr (.inl ⟨1, by decide, rfl, rfl⟩), trivial⟩, trivial⟩ trivial) rfl rfl (by decide) trivial ?_))
  rintro _ _ ⟨rfl, rfl⟩
  simp only [St.put, renAV, renAC, renReg, renAVs, setAll, upF, List.map_cons, List.map_nil, List.cons_append, List.nil_append, List.append_nil, List.set_cons_zero, List.set_cons_succ, List.length_cons, List.length_nil, Nat.reduceAdd, Nat.reduceLT, Nat.reduceSub, Nat.not_lt_zero, if_false, if_true, Nat.sub_zero, Nat.add_zero, Nat.zero_add]
  refine O_cons (W_it (W_mv rfl ?_))
  refine O_nil (hK3 _ ?_)
  clear hK3 K3
  refine codeW_seq fun K4 hK4 => codeW_reg ?_
  refine O_cons (W_it (W_mv rfl ?_))
  refine O_cons (W_it (W_len rfl ?_))
  refine O_cons (W_it (W_mv rfl ?_))
  refine O_cons (W_it (W_len rfl ?_))
  rw [st1_len, st0_len]
  refine O_cons (W_it (W_eql rfl rfl ?_))
  refine O_cons (W_it (W_mv rfl ?_))
  first | refine O_cons (W_gyE rfl (by first | rfl | assumption) (W_mv rfl ?_)) | refine O_cons (W_gnE rfl (by first | rfl | assumption) ?_) | refine O_cons (W_gu rfl ?_)
  first | refine O_cons (W_gyE rfl (by first | rfl | assumption) (W_len rfl ?_)) | refine O_cons (W_gnE rfl (by first | rfl | assumption) ?_) | refine O_cons (W_gu rfl ?_)
  try rw [st1_len]
  first | refine O_cons (W_gyE rfl (by first | rfl | assumption) (W_gtr rfl rfl ?_)) | refine O_cons (W_gnE rfl (by first | rfl | assumption) ?_) | refine O_cons (W_gu rfl ?_)
  first | refine O_cons (W_it (W_pickE rfl (by first | rfl | assumption) rfl ?_)) | refine O_cons (W_it (W_pickF rfl (by first | rfl | assumption) rfl ?_))
  refine O_cons (W_it (W_mv rfl ?_))
  first | refine O_cons (W_gyE rfl (by first | rfl | assumption) (W_mv rfl ?_)) | refine O_cons (W_gnE rfl (by first | rfl | assumption) ?_) | refine O_cons (W_gu rfl ?_)
  refine O_cons (W_gyE rfl (by first | rfl | assumption | exact st_differ) (W_b2s rfl rfl (.inr rfl) (V st1.ns) rfl st1.octets_V ?_))
  first | refine O_cons (W_gyE rfl (by first | rfl | assumption) (W_mv rfl ?_)) | refine O_cons (W_gnE rfl (by first | rfl | assumption) ?_) | refine O_cons (W_gu rfl ?_)
  refine O_cons (W_gyE rfl (by first | rfl | assumption | exact st_differ) (W_b2s rfl rfl (.inr rfl) (V st0.ns) rfl st0.octets_V ?_))
  refine O_cons (W_gyE rfl (by first | rfl | assumption | exact st_differ) (W_sneq rfl rfl ?_))
  refine O_cons (W_it (W_pickE rfl rfl rfl ?_))
  refine O_cons (W_it (W_mv rfl ?_))
  refine O_cons (W_gyE rfl (by first | rfl | assumption | exact st_differ) (W_build rfl ?_))
  refine O_cons (W_gyE rfl (by first | rfl | assumption | exact st_differ) (W_callW (hash_FS st0 st0_fine.weight) [] [.agg [.p (.v (.slice none 0 0)), .p (.v (.slice none 0 0)), .p (.v (.slice none 0 0)), .p (.v (.slice none 0 0)), .p (.v (.slice none 0 0)), .p (.v (.slice none 0 0)), .p (.v (.int .i64 0)), .p (.v (.slice none 0 0)), .p (.v (.slice none 0 0))]] [.agg (st0.row.map .p)] [] rfl (Weak.imp ⟨⟨.inr (.inl ⟨22, by decide, rfl, rfl⟩), .inr (.inl ⟨1, by decide, rfl, rfl⟩), .inr (.inl ⟨3, by decide, rfl, rfl⟩), .inr (.inl ⟨3, by decide, rfl, rfl⟩), .inr (.inl ⟨10, by decide, rfl, rfl⟩), .inr (.inl ⟨1, by decide, rfl, rfl⟩), .inl rfl, .inr (.inl ⟨1, by decide, rfl, rfl⟩), .inr (.inl ⟨1, by decide, rfl, rfl⟩), trivial⟩, trivial⟩ trivial) rfl rfl (by decide) trivial ?_))
  rintro _ _ ⟨rfl, rfl⟩
  simp only [St.put, renAV, renAC, renReg, renAVs, setAll, upF, List.map_cons, List.map_nil, List.cons_append, List.nil_append, List.append_nil, List.set_cons_zero, List.set_cons_succ, List.length_cons, List.length_nil, Nat.reduceAdd, Nat.reduceLT, Nat.reduceSub, Nat.not_lt_zero, if_false, if_true, Nat.sub_zero, Nat.add_zero, Nat.zero_add]
  refine O_cons (W_gyE rfl (by first | rfl | assumption | exact st_differ) (W_build rfl ?_))
  refine O_cons (W_gyE rfl (by first | rfl | assumption | exact st_differ) (W_callW (shared_FS st0 (by have := st0_fine.weight; simp [Sta.weight] at this; omega)) [] [.agg [.p (.v (.slice none 0 0)), .p (.v (.slice none 0 0)), .p (.v (.slice none 0 0)), .p (.v (.slice none 0 0)), .p (.v (.slice none 0 0)), .p (.v (.slice none 0 0)), .p (.v (.int .i64 0)), .p (.v (.slice none 0 0)), .p (.v (.slice none 0 0))]] [.agg (st0.row.map .p)] [] rfl (Weak.imp ⟨⟨.inr (.inl ⟨22, by decide, rfl, rfl⟩), .inr (.inl ⟨1, by decide, rfl, rfl⟩), .inr (.inl ⟨3, by decide, rfl, rfl⟩), .inr (.inl ⟨3, by decide, rfl, rfl⟩), .inr (.inl ⟨10, by decide, rfl, rfl⟩), .inr (.inl ⟨1, by decide, rfl, rfl⟩), .inl rfl, .inr (.inl ⟨1, by decide, rfl, rfl⟩), .inr (.inl ⟨1, by decide, rfl, rfl⟩), trivial⟩, trivial⟩ trivial) rfl rfl (by decide) trivial ?_))
  rintro _ _ ⟨rfl, rfl⟩
  simp only [St.put, renAV, renAC, renReg, renAVs, setAll, upF, List.map_cons, List.map_nil, List.cons_append, List.nil_append, List.append_nil, List.set_cons_zero, List.set_cons_succ, List.length_cons, List.length_nil, Nat.reduceAdd, Nat.reduceLT, Nat.reduceSub, Nat.not_lt_zero, if_false, if_true, Nat.sub_zero, Nat.add_zero, Nat.zero_add]
  rw [st0.shared_V]
  refine O_cons (W_gyE rfl (by first | rfl | assumption | exact st_differ) (W_callF (part_FS _ _ ?_) [] rfl (by decide) trivial ?_))
  · have := st0.sharedV_len; have h : st0.bulk = 0 := rfl; omega
  rintro _ _ ⟨rfl, rfl⟩
  simp only [St.put, renAV, renAC, renReg, renAVs, setAll, upF, List.map_cons, List.map_nil, List.cons_append, List.nil_append, List.append_nil, List.set_cons_zero, List.set_cons_succ, List.length_cons, List.length_nil, Nat.reduceAdd, Nat.reduceLT, Nat.reduceSub, Nat.not_lt_zero, if_false, if_true, Nat.sub_zero, Nat.add_zero, Nat.zero_add]
  refine O_cons (W_gyE rfl (by first | rfl | assumption | exact st_differ) (W_eql rfl rfl ?_))
  refine O_cons (W_it (W_pickE rfl (by first | rfl | exact st_differ) rfl ?_))
  refine O_cons (W_it (W_mv rfl ?_))
  refine O_nil (hK4 _ ?_)
  clear hK4 K4
  refine codeW_ret (Fin.weak (.inr rfl) (s1 := ⟨[(0, .c (.p (.v (.bool true))))], []⟩) (Weak.ren [] rfl (by decide) trivial ⟨?_, trivial⟩) ⟨rfl, rfl⟩)
  exact congrArg (fun b => AV.c (.p (.v (.bool b)))) st_hash

def ac6 : ACode := (.seq (.reg [⟨none, (some 1), (.box (some 1) (.t 0))⟩, ⟨none, (some 2), (.mv (some 2) (.k (.bool false)))⟩]) (.seq (.seq (.reg [⟨none, (some 5), (.call (some 5) 13 [])⟩, ⟨none, (some 6), (.un (some 6) .not (.t 5))⟩]) (.cond (.t 6) (.seq (.reg [⟨none, (some 2), (.mv (some 2) (.k (.bool false)))⟩]) .ret) .skip)) (.seq (.reg [⟨none, (some 7), (.load (some 7) 9 true (.t 1))⟩, ⟨none, (some 8), (.call (some 8) 14 [(.t 7)])⟩, ⟨none, none, (.store 9 (.t 1) (.t 8))⟩]) (.seq (.seq (.reg [⟨none, (some 3), (.mv (some 3) (.k (.int .i64 0)))⟩]) (.block 0 (.loop (.seq (.seq (.reg [⟨none, (some 9), (.mv (some 9) (.t 3))⟩, ⟨none, (some 10), (.fad (some 10) 0 (.t 1))⟩, ⟨none, (some 11), (.load (some 11) 1 false (.t 10))⟩, ⟨none, (some 12), (.len (some 12) (.t 11))⟩, ⟨none, (some 13), (.bin (some 13) .lss (.t 9) (.t 12))⟩]) (.cond (.t 13) .skip (.exit 0))) (.seq (.block 1 (.seq (.par [⟨none, (some 16), (.fad (some 16) 0 (.t 1))⟩, ⟨none, (some 17), (.load (some 17) 1 false (.t 16))⟩, ⟨none, (some 18), (.mv (some 18) (.t 3))⟩, ⟨none, (some 19), (.ixs (some 19) 22 (.t 17) (.t 18))⟩, ⟨none, (some 20), (.load (some 20) 22 true (.t 19))⟩, ⟨none, (some 21), (.call (some 21) 15 [(.t 20)])⟩, ⟨none, (some 22), (.b2s (some 22) (.t 21))⟩, ⟨none, (some 23), (.fad (some 23) 0 (.t 1))⟩, ⟨none, (some 24), (.load (some 24) 1 false (.t 23))⟩, ⟨none, (some 25), (.mv (some 25) (.t 3))⟩, ⟨none, (some 26), (.ixs (some 26) 22 (.t 24) (.t 25))⟩, ⟨none, (some 27), (.load (some 27) 22 true (.t 26))⟩, ⟨none, (some 28), (.call (some 28) 16 [(.t 27)])⟩, ⟨none, (some 29), (.b2s (some 29) (.t 28))⟩, ⟨none, (some 30), (.bin (some 30) .neq (.t 22) (.t 29))⟩] []) (.cond (.t 30) (.seq (.reg [⟨none, (some 2), (.mv (some 2) (.k (.bool false)))⟩]) .ret) .skip))) (.reg [⟨none, (some 14), (.mv (some 14) (.t 3))⟩, ⟨none, (some 15), (.bin (some 15) .add (.t 14) (.k (.int .i64 1)))⟩, ⟨none, (some 3), (.mv (some 3) (.t 15))⟩])))))) (.seq (.seq (.reg [⟨none, (some 4), (.mv (some 4) (.k (.int .i64 0)))⟩]) (.block 2 (.loop (.seq (.seq (.reg [⟨none, (some 31), (.mv (some 31) (.t 4))⟩, ⟨none, (some 32), (.fad (some 32) 1 (.t 1))⟩, ⟨none, (some 33), (.load (some 33) 1 false (.t 32))⟩, ⟨none, (some 34), (.len (some 34) (.t 33))⟩, ⟨none, (some 35), (.bin (some 35) .lss (.t 31) (.t 34))⟩]) (.cond (.t 35) .skip (.exit 2))) (.seq (.block 3 (.seq (.par [⟨none, (some 38), (.fad (some 38) 1 (.t 1))⟩, ⟨none, (some 39), (.load (some 39) 1 false (.t 38))⟩, ⟨none, (some 40), (.mv (some 40) (.t 4))⟩, ⟨none, (some 41), (.ixs (some 41) 1 (.t 39) (.t 40))⟩, ⟨none, (some 42), (.load (some 42) 1 false (.t 41))⟩, ⟨none, (some 43), (.call (some 43) 17 [(.t 42)])⟩, ⟨none, (some 44), (.b2s (some 44) (.t 43))⟩, ⟨none, (some 45), (.fad (some 45) 1 (.t 1))⟩, ⟨none, (some 46), (.load (some 46) 1 false (.t 45))⟩, ⟨none, (some 47), (.mv (some 47) (.t 4))⟩, ⟨none, (some 48), (.ixs (some 48) 1 (.t 46) (.t 47))⟩, ⟨none, (some 49), (.load (some 49) 1 false (.t 48))⟩, ⟨none, (some 50), (.call (some 50) 18 [(.t 49)])⟩, ⟨none, (some 51), (.b2s (some 51) (.t 50))⟩, ⟨none, (some 52), (.bin (some 52) .neq (.t 44) (.t 51))⟩] []) (.cond (.t 52) (.seq (.reg [⟨none, (some 2), (.mv (some 2) (.k (.bool false)))⟩]) .ret) .skip))) (.reg [⟨none, (some 36), (.mv (some 36) (.t 4))⟩, ⟨none, (some 37), (.bin (some 37) .add (.t 36) (.k (.int .i64 1)))⟩, ⟨none, (some 4), (.mv (some 4) (.t 37))⟩])))))) (.seq (.par [⟨none, (some 53), (.load (some 53) 9 true (.t 1))⟩, ⟨none, (some 54), (.call (some 54) 19 [(.t 53)])⟩, ⟨none, (some 55), (.b2s (some 55) (.t 54))⟩, ⟨none, (some 56), (.load (some 56) 9 true (.t 1))⟩, ⟨none, (some 57), (.call (some 57) 20 [(.t 56)])⟩, ⟨none, (some 58), (.b2s (some 58) (.t 57))⟩, ⟨none, (some 59), (.bin (some 59) .eql (.t 55) (.t 58))⟩, ⟨none, (some 60), (.mv (some 60) (.t 59))⟩, ⟨(some (60, true)), (some 61), (.load (some 61) 9 true (.t 1))⟩, ⟨(some (60, true)), (some 62), (.call (some 62) 21 [(.t 61)])⟩, ⟨(some (60, true)), (some 63), (.b2s (some 63) (.t 62))⟩, ⟨(some (60, true)), (some 64), (.load (some 64) 9 true (.t 1))⟩, ⟨(some (60, true)), (some 65), (.call (some 65) 22 [(.t 64)])⟩, ⟨(some (60, true)), (some 66), (.b2s (some 66) (.t 65))⟩, ⟨(some (60, true)), (some 67), (.bin (some 67) .eql (.t 63) (.t 66))⟩, ⟨none, (some 68), (.pick (some 68) (.t 60) (.t 67) (.k (.bool false)))⟩, ⟨none, (some 2), (.mv (some 2) (.t 68))⟩] []) .ret))))))
theorem tr6 : ((Try.f6.name == "runtime.NumGoroutine") = false ∧ Try.f6.results = ([2].map ResultVar.tmp).toArray) ∧ Try.f6.ntmps = 69 ∧ (Try.f6.body.bind (trCode Try.prog Try.f6.ntmps)) = some ac6 := ⟨⟨by kernel_rfl, by kernel_rfl⟩, by kernel_rfl, by kernel_rfl⟩


theorem law_puts_FS (st : Sta) (hf : st.Fine) :
    FS Try.prog 6 [.agg (st.row.map .p)] [] fun res rg => res = .c (.p (.v (.bool true))) ∧ rg = [] := by
  refine FS_def [2] 69 Try.func6 tr6 rfl ?_
  unfold ac6
  have hb2 : thrW st.few.threads + bufW st.few.buffers + st.few.bulk + 2000 ≤ 900000000 := hf.few.weight
  have q4 := thrW_len st.few.threads
  have q5 := bufW_len st.few.buffers
  have hs : ((strB (V st.few.sharedN)).toList == (strB (V st.few.sharedN)).toList) = true := str_self _
  refine codeW_seq fun K1 hK1 => codeW_reg ?_
  refine O_cons (W_it (W_box rfl ?_))
  refine O_cons (W_it (W_mv rfl ?_))
  refine O_nil (hK1 _ ?_)
  clear hK1 K1
  refine codeW_seq fun K2 hK2 => ?_
  refine codeW_seq fun K3 hK3 => codeW_reg ?_
  refine O_cons (W_it (W_callF alive_FS [] rfl (by decide) trivial ?_))
  rintro _ _ ⟨rfl, rfl⟩
  simp only [St.put, renAV, renAC, renReg, renAVs, setAll, upF, List.map_cons, List.map_nil, List.cons_append, List.nil_append, List.append_nil, List.set_cons_zero, List.set_cons_succ, List.length_cons, List.length_nil, Nat.reduceAdd, Nat.reduceLT, Nat.reduceSub, Nat.not_lt_zero, if_false, if_true, Nat.sub_zero, Nat.add_zero, Nat.zero_add]
  refine O_cons (W_it (W_not rfl ?_))
  refine O_nil (hK3 _ ?_)
  clear hK3 K3
  refine codeW_condF rfl (by first | rfl | assumption) ?_
  refine codeW_skip ?_
  refine (hK2 _ ?_ : K2 _)
  try clear hK2 K2
  refine codeW_seq fun K4 hK4 => codeW_reg ?_
  first | refine O_cons (W_it (W_load_p rfl rfl rfl rfl ?_)) | refine O_cons (W_it (W_load_r rfl rfl rfl ?_)) | refine O_cons (W_it (W_load_e rfl rfl rfl rfl rfl ?_))
  refine O_cons (W_it (W_callF (few_FS st) [] rfl (by decide) trivial ?_))
  rintro _ _ ⟨rfl, rfl⟩
  simp only [St.put, renAV, renAC, renReg, renAVs, setAll, upF, List.map_cons, List.map_nil, List.cons_append, List.nil_append, List.append_nil, List.set_cons_zero, List.set_cons_succ, List.length_cons, List.length_nil, Nat.reduceAdd, Nat.reduceLT, Nat.reduceSub, Nat.not_lt_zero, if_false, if_true, Nat.sub_zero, Nat.add_zero, Nat.zero_add]
  first | refine O_cons (W_it (W_store_p rfl rfl rfl rfl rfl rfl ?_)) | refine O_cons (W_it (W_store_e rfl rfl rfl rfl rfl rfl rfl ?_))
  refine O_nil (hK4 _ ?_)
  clear hK4 K4
  refine codeW_seq fun K5 hK5 => ?_
  refine codeW_weak (s' := ⟨[(1, .c (.rp st.few.row))], [.dead]⟩) (Weak.box 0 st.few.row rfl ⟨.inr ⟨0, rfl, Nat.zero_le _, rfl⟩, trivial⟩ ⟨t_dead (by decide), trivial⟩) ?_
  refine codeW_weak (s' := ⟨[(1, .c (.rp st.few.row))], []⟩) (Weak.ren [] rfl (by decide) trivial ⟨rfl, trivial⟩) ?_
  refine codeW_seq fun K6 hK6 => codeW_reg ?_
  refine O_cons (W_it (W_mv rfl ?_))
  refine O_nil (hK6 _ ?_)
  clear hK6 K6
  refine codeW_block ?_
  refine codeW_weak (s' := ⟨[(3, .c (.p (.v (.int .i64 ((0 : Nat) : Int))))), (1, .c (.rp st.few.row))], []⟩) (Weak.ren [] rfl (by decide) trivial ⟨rfl, rfl, trivial⟩) ?_
  refine codeW_loop (fun k s => ∃ i : Nat, i + k = st.few.threads.length ∧ s = ⟨[(3, .c (.p (.v (.int .i64 (i : Int))))), (1, .c (.rp st.few.row))], []⟩) st.few.threads.length ⟨0, by omega, rfl⟩ ?_
  rintro k s ⟨i, hik, rfl⟩ K hK
  refine codeW_seq fun K7 hK7 => ?_
  refine codeW_seq fun K8 hK8 => codeW_reg ?_
  refine O_cons (W_it (W_mv rfl ?_))
  first | refine O_cons (W_it (W_fad_p rfl ?_)) | refine O_cons (W_it (W_fad_e rfl ?_)) | refine O_cons (W_it (W_fad_r rfl ?_))
  first | refine O_cons (W_it (W_load_p rfl rfl rfl rfl ?_)) | refine O_cons (W_it (W_load_r rfl rfl rfl ?_)) | refine O_cons (W_it (W_load_e rfl rfl rfl rfl rfl ?_))
  refine O_cons (W_it (W_len rfl ?_))
  rw [show (st.few.threads.map Thr.cells).length = st.few.threads.length from List.length_map _]
  refine O_cons (W_it (W_lss rfl rfl ?_))
  refine O_nil (hK8 _ ?_)
  clear hK8 K8
  refine codeW_cond rfl (fun hc1 => ?_) (fun hc1 => ?_)
  · have hi : i < st.few.threads.length := by have := of_decide_eq_true hc1; omega
    have q2 := thrW_get _ _ hi
    have hx : (!((strB (V (st.few.threads[i]'hi).ns)).toList == (strB (V (st.few.threads[i]'hi).ns)).toList)) = false := by rw [str_self]; rfl
    refine codeW_skip ?_
    refine (hK7 _ ?_ : K7 _)
    try clear hK7 K7
    refine codeW_seq fun K9 hK9 => ?_
    refine codeW_block ?_
    refine codeW_seq fun K10 hK10 => codeW_par ?_
    first | refine V_cons (fun K hK => W_it (W_fad_p rfl hK)) ?_ | refine V_cons (fun K hK => W_it (W_fad_e rfl hK)) ?_ | refine V_cons (fun K hK => W_it (W_fad_r rfl hK)) ?_
    first | refine V_cons (fun K hK => W_it (W_load_p rfl rfl rfl rfl hK)) ?_ | refine V_cons (fun K hK => W_it (W_load_r rfl rfl rfl hK)) ?_ | refine V_cons (fun K hK => W_it (W_load_e rfl rfl rfl rfl rfl hK)) ?_
    refine V_cons (fun K hK => W_it (W_mv rfl hK)) ?_
    first | refine V_cons (fun K hK => W_it (W_ixs_s rfl rfl (by omega) (thr_geti (i := i) hi) hK)) ?_ | refine V_cons (fun K hK => W_it (W_ixs_o rfl rfl (by omega) (by omega) hK)) ?_
    first | refine V_cons (fun K hK => W_it (W_load_p rfl rfl rfl rfl hK)) ?_ | refine V_cons (fun K hK => W_it (W_load_r rfl rfl rfl hK)) ?_ | refine V_cons (fun K hK => W_it (W_load_e rfl rfl rfl rfl rfl hK)) ?_
    refine V_cons (fun K hK => W_it (W_callF (thread_FS (st.few.threads[i]'hi) (by omega)) [] rfl (by decide) trivial fun res rg h => by obtain ⟨rfl, rfl⟩ := h; exact hK)) ?_
    refine V_cons (fun K hK => W_it (W_b2s rfl rfl (.inr rfl) (V (st.few.threads[i]'hi).ns) rfl ((st.few.threads[i]'hi).octets_V) hK)) ?_
    first | refine V_cons (fun K hK => W_it (W_fad_p rfl hK)) ?_ | refine V_cons (fun K hK => W_it (W_fad_e rfl hK)) ?_ | refine V_cons (fun K hK => W_it (W_fad_r rfl hK)) ?_
    first | refine V_cons (fun K hK => W_it (W_load_p rfl rfl rfl rfl hK)) ?_ | refine V_cons (fun K hK => W_it (W_load_r rfl rfl rfl hK)) ?_ | refine V_cons (fun K hK => W_it (W_load_e rfl rfl rfl rfl rfl hK)) ?_
    refine V_cons (fun K hK => W_it (W_mv rfl hK)) ?_
    first | refine V_cons (fun K hK => W_it (W_ixs_s rfl rfl (by omega) (thr_geti (i := i) hi) hK)) ?_ | refine V_cons (fun K hK => W_it (W_ixs_o rfl rfl (by omega) (by omega) hK)) ?_
    first | refine V_cons (fun K hK => W_it (W_load_p rfl rfl rfl rfl hK)) ?_ | refine V_cons (fun K hK => W_it (W_load_r rfl rfl rfl hK)) ?_ | refine V_cons (fun K hK => W_it (W_load_e rfl rfl rfl rfl rfl hK)) ?_
    refine V_cons (fun K hK => W_it (W_callF (rthread_FS (st.few.threads[i]'hi) (by omega)) [] rfl (by decide) trivial fun res rg h => by obtain ⟨rfl, rfl⟩ := h; exact hK)) ?_
    refine V_cons (fun K hK => W_it (W_b2s rfl rfl (.inr rfl) (V (st.few.threads[i]'hi).ns) rfl ((st.few.threads[i]'hi).octets_V) hK)) ?_
    refine V_cons (fun K hK => W_it (W_sneq rfl rfl hK)) ?_
    refine V_nil ?_
    refine O_nil (hK10 _ ?_)
    clear hK10 K10
    refine codeW_condF rfl (by first | rfl | assumption) ?_
    refine codeW_skip ?_
    refine (hK9 _ ?_ : K9 _)
    try clear hK9 K9
    refine codeW_reg ?_
    refine O_cons (W_it (W_mv rfl ?_))
    refine O_cons (W_it (W_add rfl rfl ?_))
    refine O_cons (W_it (W_mv rfl ?_))
    refine O_nil ?_
    refine hK _ ⟨k - 1, _, by omega, ?_, i + 1, by omega, rfl⟩
    refine Weak.ren [] rfl (by decide) trivial ⟨?_, rfl, trivial⟩
    · show AV.c (.p (.v (.int .i64 (IntKind.i64.wrap ((i : Int) + 1))))) = AV.c (.p (.v (.int .i64 ((i + 1 : Nat) : Int))))
      rw [wrap64_id (by omega) (by omega)]
      rfl
  · refine codeW_exit ?_
    refine (hK5 _ ?_ : K5 _)
    try clear hK5 K5
    refine codeW_seq fun K11 hK11 => ?_
    refine codeW_seq fun K12 hK12 => codeW_reg ?_
    refine O_cons (W_it (W_mv rfl ?_))
    refine O_nil (hK12 _ ?_)
    clear hK12 K12
    refine codeW_block ?_
    refine codeW_weak (s' := ⟨[(4, .c (.p (.v (.int .i64 ((0 : Nat) : Int))))), (1, .c (.rp st.few.row))], []⟩) (Weak.ren [] rfl (by decide) trivial ⟨rfl, rfl, trivial⟩) ?_
    refine codeW_loop (fun k s => ∃ i : Nat, i + k = st.few.buffers.length ∧ s = ⟨[(4, .c (.p (.v (.int .i64 (i : Int))))), (1, .c (.rp st.few.row))], []⟩) st.few.buffers.length ⟨0, by omega, rfl⟩ ?_
    rintro k s ⟨i, hik, rfl⟩ K hK
    refine codeW_seq fun K13 hK13 => ?_
    refine codeW_seq fun K14 hK14 => codeW_reg ?_
    refine O_cons (W_it (W_mv rfl ?_))
    first | refine O_cons (W_it (W_fad_p rfl ?_)) | refine O_cons (W_it (W_fad_e rfl ?_)) | refine O_cons (W_it (W_fad_r rfl ?_))
    first | refine O_cons (W_it (W_load_p rfl rfl rfl rfl ?_)) | refine O_cons (W_it (W_load_r rfl rfl rfl ?_)) | refine O_cons (W_it (W_load_e rfl rfl rfl rfl rfl ?_))
    refine O_cons (W_it (W_len rfl ?_))
    rw [show (st.few.buffers.map fun b => [PV.sl 8 (ents b)]).length = st.few.buffers.length from List.length_map _]
    refine O_cons (W_it (W_lss rfl rfl ?_))
    refine O_nil (hK14 _ ?_)
    clear hK14 K14
    refine codeW_cond rfl (fun hc3 => ?_) (fun hc3 => ?_)
    · have hi : i < st.few.buffers.length := by have := of_decide_eq_true hc3; omega
      have q2 := bufW_get _ _ hi
      have hx : (!((strB (V (bufN (st.few.buffers[i]'hi)))).toList == (strB (V (bufN (st.few.buffers[i]'hi)))).toList)) = false := by rw [str_self]; rfl
      refine codeW_skip ?_
      refine (hK13 _ ?_ : K13 _)
      try clear hK13 K13
      refine codeW_seq fun K15 hK15 => ?_
      refine codeW_block ?_
      refine codeW_seq fun K16 hK16 => codeW_par ?_
      first | refine V_cons (fun K hK => W_it (W_fad_p rfl hK)) ?_ | refine V_cons (fun K hK => W_it (W_fad_e rfl hK)) ?_ | refine V_cons (fun K hK => W_it (W_fad_r rfl hK)) ?_
      first | refine V_cons (fun K hK => W_it (W_load_p rfl rfl rfl rfl hK)) ?_ | refine V_cons (fun K hK => W_it (W_load_r rfl rfl rfl hK)) ?_ | refine V_cons (fun K hK => W_it (W_load_e rfl rfl rfl rfl rfl hK)) ?_
      refine V_cons (fun K hK => W_it (W_mv rfl hK)) ?_
      first | refine V_cons (fun K hK => W_it (W_ixs_s rfl rfl (by omega) (buf_geti (i := i) hi) hK)) ?_ | refine V_cons (fun K hK => W_it (W_ixs_o rfl rfl (by omega) (by omega) hK)) ?_
      first | refine V_cons (fun K hK => W_it (W_load_p rfl rfl rfl rfl hK)) ?_ | refine V_cons (fun K hK => W_it (W_load_r rfl rfl rfl hK)) ?_ | refine V_cons (fun K hK => W_it (W_load_e rfl rfl rfl rfl rfl hK)) ?_
      refine V_cons (fun K hK => W_it (W_callF (buffer_FS (st.few.buffers[i]'hi) (by omega)) [] rfl (by decide) trivial fun res rg h => by obtain ⟨rfl, rfl⟩ := h; exact hK)) ?_
      refine V_cons (fun K hK => W_it (W_b2s rfl rfl (.inr rfl) (V (bufN (st.few.buffers[i]'hi))) rfl (bufOctets_V (st.few.buffers[i]'hi)) hK)) ?_
      first | refine V_cons (fun K hK => W_it (W_fad_p rfl hK)) ?_ | refine V_cons (fun K hK => W_it (W_fad_e rfl hK)) ?_ | refine V_cons (fun K hK => W_it (W_fad_r rfl hK)) ?_
      first | refine V_cons (fun K hK => W_it (W_load_p rfl rfl rfl rfl hK)) ?_ | refine V_cons (fun K hK => W_it (W_load_r rfl rfl rfl hK)) ?_ | refine V_cons (fun K hK => W_it (W_load_e rfl rfl rfl rfl rfl hK)) ?_
      refine V_cons (fun K hK => W_it (W_mv rfl hK)) ?_
      first | refine V_cons (fun K hK => W_it (W_ixs_s rfl rfl (by omega) (buf_geti (i := i) hi) hK)) ?_ | refine V_cons (fun K hK => W_it (W_ixs_o rfl rfl (by omega) (by omega) hK)) ?_
      first | refine V_cons (fun K hK => W_it (W_load_p rfl rfl rfl rfl hK)) ?_ | refine V_cons (fun K hK => W_it (W_load_r rfl rfl rfl hK)) ?_ | refine V_cons (fun K hK => W_it (W_load_e rfl rfl rfl rfl rfl hK)) ?_
      refine V_cons (fun K hK => W_it (W_callF (rbuffer_FS (st.few.buffers[i]'hi) (by omega)) [] rfl (by decide) trivial fun res rg h => by obtain ⟨rfl, rfl⟩ := h; exact hK)) ?_
      refine V_cons (fun K hK => W_it (W_b2s rfl rfl (.inr rfl) (V (bufN (st.few.buffers[i]'hi))) rfl (bufOctets_V (st.few.buffers[i]'hi)) hK)) ?_
      refine V_cons (fun K hK => W_it (W_sneq rfl rfl hK)) ?_
      refine V_nil ?_
      refine O_nil (hK16 _ ?_)
      clear hK16 K16
      refine codeW_condF rfl (by first | rfl | assumption) ?_
      refine codeW_skip ?_
      refine (hK15 _ ?_ : K15 _)
      try clear hK15 K15
      refine codeW_reg ?_
      refine O_cons (W_it (W_mv rfl ?_))
      refine O_cons (W_it (W_add rfl rfl ?_))
      refine O_cons (W_it (W_mv rfl ?_))
      refine O_nil ?_
      refine hK _ ⟨k - 1, _, by omega, ?_, i + 1, by omega, rfl⟩
      refine Weak.ren [] rfl (by decide) trivial ⟨?_, rfl, trivial⟩
      · show AV.c (.p (.v (.int .i64 (IntKind.i64.wrap ((i : Int) + 1))))) = AV.c (.p (.v (.int .i64 ((i + 1 : Nat) : Int))))
        rw [wrap64_id (by omega) (by omega)]
        rfl
    · refine codeW_exit ?_
      refine (hK11 _ ?_ : K11 _)
      try clear hK11 K11
      refine codeW_seq fun K17 hK17 => codeW_par ?_
      first | refine V_cons (fun K hK => W_it (W_load_p rfl rfl rfl rfl hK)) ?_ | refine V_cons (fun K hK => W_it (W_load_r rfl rfl rfl hK)) ?_ | refine V_cons (fun K hK => W_it (W_load_e rfl rfl rfl rfl rfl hK)) ?_
      refine V_cons (fun K hK => W_it (W_callF (shared_FS st.few (by omega)) [] rfl (by decide) trivial fun res rg h => by obtain ⟨rfl, rfl⟩ := h; exact hK)) ?_
      refine V_cons (fun K hK => W_it (W_b2s rfl rfl (.inr rfl) (V st.few.sharedN) rfl (st.few.shared_V) hK)) ?_
      first | refine V_cons (fun K hK => W_it (W_load_p rfl rfl rfl rfl hK)) ?_ | refine V_cons (fun K hK => W_it (W_load_r rfl rfl rfl hK)) ?_ | refine V_cons (fun K hK => W_it (W_load_e rfl rfl rfl rfl rfl hK)) ?_
      refine V_cons (fun K hK => W_it (W_callF (rshared_FS st.few (by omega)) [] rfl (by decide) trivial fun res rg h => by obtain ⟨rfl, rfl⟩ := h; exact hK)) ?_
      refine V_cons (fun K hK => W_it (W_b2s rfl rfl (.inr rfl) (V st.few.sharedN) rfl (st.few.shared_V) hK)) ?_
      refine V_cons (fun K hK => W_it (W_seql rfl rfl hK)) ?_
      refine V_cons (fun K hK => W_it (W_mv rfl hK)) ?_
      first | refine V_cons (fun K hK => W_gyE rfl (by first | rfl | assumption) (W_load_p rfl rfl rfl rfl hK)) ?_ | refine V_cons (fun K hK => W_gyE rfl (by first | rfl | assumption) (W_load_r rfl rfl rfl hK)) ?_ | refine V_cons (fun K hK => W_gyE rfl (by first | rfl | assumption) (W_load_e rfl rfl rfl rfl rfl hK)) ?_ | refine V_cons (fun K hK => W_gnE rfl (by first | rfl | assumption) hK) ?_ | refine V_cons (fun K hK => W_gu rfl hK) ?_
      refine V_cons (fun K hK => W_gyE rfl (by first | rfl | assumption) (W_callF (codeput_FS st.few hf.few.weight) [] rfl (by decide) trivial fun res rg h => by obtain ⟨rfl, rfl⟩ := h; exact hK)) ?_
      refine V_cons (fun K hK => W_gyE rfl (by first | rfl | assumption) (W_b2s rfl rfl (.inr rfl) (V st.few.ns) rfl (st.few.octets_V) hK)) ?_
      first | refine V_cons (fun K hK => W_gyE rfl (by first | rfl | assumption) (W_load_p rfl rfl rfl rfl hK)) ?_ | refine V_cons (fun K hK => W_gyE rfl (by first | rfl | assumption) (W_load_r rfl rfl rfl hK)) ?_ | refine V_cons (fun K hK => W_gyE rfl (by first | rfl | assumption) (W_load_e rfl rfl rfl rfl rfl hK)) ?_ | refine V_cons (fun K hK => W_gnE rfl (by first | rfl | assumption) hK) ?_ | refine V_cons (fun K hK => W_gu rfl hK) ?_
      refine V_cons (fun K hK => W_gyE rfl (by first | rfl | assumption) (W_callF (rput22_FS st.few hf.few.weight) [] rfl (by decide) trivial fun res rg h => by obtain ⟨rfl, rfl⟩ := h; exact hK)) ?_
      refine V_cons (fun K hK => W_gyE rfl (by first | rfl | assumption) (W_b2s rfl rfl (.inr rfl) (V st.few.ns) rfl (st.few.octets_V) hK)) ?_
      refine V_cons (fun K hK => W_gyE rfl (by first | rfl | assumption) (W_seql rfl rfl hK)) ?_
      refine V_cons (fun K hK => W_it (W_pickE rfl (by first | rfl | assumption) rfl hK)) ?_
      refine V_cons (fun K hK => W_it (W_mv rfl hK)) ?_
      refine V_nil ?_
      refine O_nil (hK17 _ ?_)
      clear hK17 K17
      refine codeW_ret (Fin.weak (.inr rfl) (s1 := ⟨[(2, .c (.p (.v (.bool true))))], []⟩) (Weak.ren [] rfl (by decide) trivial ⟨?_, trivial⟩) ⟨rfl, rfl⟩)
      exact congrArg (fun b => AV.c (.p (.v (.bool b)))) (str_self (st.few.ns))

def ac7 : ACode := (.seq (.reg [⟨none, (some 3), (.box (some 3) (.t 0))⟩, ⟨none, (some 6), (.mv (some 6) (.k (.bool false)))⟩]) (.seq (.seq (.reg [⟨none, (some 7), (.call (some 7) 13 [])⟩, ⟨none, (some 8), (.un (some 8) .not (.t 7))⟩]) (.cond (.t 8) (.seq (.reg [⟨none, (some 6), (.mv (some 6) (.k (.bool false)))⟩]) .ret) .skip)) (.seq (.reg [⟨none, (some 9), (.load (some 9) 9 true (.t 3))⟩, ⟨none, (some 10), (.call (some 10) 14 [(.t 9)])⟩, ⟨none, none, (.store 9 (.t 3) (.t 10))⟩]) (.seq (.seq (.reg [⟨none, (some 11), (.mv (some 11) (.t 2))⟩, ⟨none, (some 12), (.len (some 12) (.t 11))⟩, ⟨none, (some 13), (.bin (some 13) .gtr (.t 12) (.k (.int .i64 500)))⟩]) (.cond (.t 13) (.reg [⟨none, (some 14), (.mv (some 14) (.t 2))⟩, ⟨none, (some 15), (.sls (some 15) 1 (.t 14) none (some (.k (.int .i64 500))) none)⟩, ⟨none, (some 2), (.mv (some 2) (.t 15))⟩]) .skip)) (.seq (.par [⟨none, (some 16), (.load (some 16) 9 true (.t 3))⟩, ⟨none, (some 17), (.call (some 17) 23 [(.t 16)])⟩, ⟨none, (some 18), (.load (some 18) 9 true (.t 3))⟩, ⟨none, (some 19), (.call (some 19) 24 [(.t 18)])⟩, ⟨none, (some 20), (.bin (some 20) .eql (.t 17) (.t 19))⟩, ⟨none, (some 21), (.mv (some 21) (.t 20))⟩, ⟨(some (21, true)), (some 22), (.mv (some 22) (.t 1))⟩, ⟨(some (21, true)), (some 23), (.mv (some 23) (.t 2))⟩, ⟨(some (21, true)), (some 24), (.call (some 24) 25 [(.t 22), (.t 23)])⟩, ⟨(some (21, true)), (some 25), (.mv (some 25) (.t 1))⟩, ⟨(some (21, true)), (some 26), (.cvi (some 26) .u64 (.t 25))⟩, ⟨(some (21, true)), (some 27), (.mv (some 27) (.t 2))⟩, ⟨(some (21, true)), (some 28), (.call (some 28) 26 [(.t 26), (.t 27)])⟩, ⟨(some (21, true)), (some 29), (.bin (some 29) .eql (.t 24) (.t 28))⟩, ⟨none, (some 30), (.pick (some 30) (.t 21) (.t 29) (.k (.bool false)))⟩, ⟨none, (some 6), (.mv (some 6) (.t 30))⟩] []) .ret)))))
theorem tr7 : ((Try.f7.name == "runtime.NumGoroutine") = false ∧ Try.f7.results = ([6].map ResultVar.tmp).toArray) ∧ Try.f7.ntmps = 31 ∧ (Try.f7.body.bind (trCode Try.prog Try.f7.ntmps)) = some ac7 := ⟨⟨by kernel_rfl, by kernel_rfl⟩, by kernel_rfl, by kernel_rfl⟩


theorem law_hashes_FS (st : Sta) (hf : st.Fine) (i : Int) (xs : List Int) (hx : xs.length ≤ 9000000000000000) :
    FS Try.prog 7 [.agg (st.row.map .p), .c (.p (.v (.int .i64 i))), .c (.p (.sl 1 (ints .u8 xs)))] [] fun res rg => res = .c (.p (.v (.bool true))) ∧ rg = [] := by
  refine FS_def [6] 31 Try.func7 tr7 rfl ?_
  unfold ac7
  have hq : decide (st.few.hash = st.few.hash) = true := decide_eq_true rfl
  refine codeW_seq fun K1 hK1 => codeW_reg ?_
  refine O_cons (W_it (W_box rfl ?_))
  refine O_cons (W_it (W_mv rfl ?_))
  refine O_nil (hK1 _ ?_)
  clear hK1 K1
  refine codeW_seq fun K2 hK2 => ?_
  refine codeW_seq fun K3 hK3 => codeW_reg ?_
  refine O_cons (W_it (W_callF alive_FS [] rfl (by decide) trivial ?_))
  rintro _ _ ⟨rfl, rfl⟩
  simp only [St.put, renAV, renAC, renReg, renAVs, setAll, upF, List.map_cons, List.map_nil, List.cons_append, List.nil_append, List.append_nil, List.set_cons_zero, List.set_cons_succ, List.length_cons, List.length_nil, Nat.reduceAdd, Nat.reduceLT, Nat.reduceSub, Nat.not_lt_zero, if_false, if_true, Nat.sub_zero, Nat.add_zero, Nat.zero_add]
  refine O_cons (W_it (W_not rfl ?_))
  refine O_nil (hK3 _ ?_)
  clear hK3 K3
  refine codeW_condF rfl (by first | rfl | assumption) ?_
  refine codeW_skip ?_
  refine (hK2 _ ?_ : K2 _)
  try clear hK2 K2
  refine codeW_seq fun K4 hK4 => codeW_reg ?_
  first | refine O_cons (W_it (W_load_p rfl rfl rfl rfl ?_)) | refine O_cons (W_it (W_load_r rfl rfl rfl ?_)) | refine O_cons (W_it (W_load_e rfl rfl rfl rfl rfl ?_))
  refine O_cons (W_it (W_callF (few_FS st) [] rfl (by decide) trivial ?_))
  rintro _ _ ⟨rfl, rfl⟩
  simp only [St.put, renAV, renAC, renReg, renAVs, setAll, upF, List.map_cons, List.map_nil, List.cons_append, List.nil_append, List.append_nil, List.set_cons_zero, List.set_cons_succ, List.length_cons, List.length_nil, Nat.reduceAdd, Nat.reduceLT, Nat.reduceSub, Nat.not_lt_zero, if_false, if_true, Nat.sub_zero, Nat.add_zero, Nat.zero_add]
  first | refine O_cons (W_it (W_store_p rfl rfl rfl rfl rfl rfl ?_)) | refine O_cons (W_it (W_store_e rfl rfl rfl rfl rfl rfl rfl ?_))
  refine O_nil (hK4 _ ?_)
  clear hK4 K4
  refine codeW_seq fun K5 hK5 => ?_
  refine codeW_weak (s' := ⟨[(2, .c (.p (.sl 1 (ints .u8 xs)))), (3, .c (.rp st.few.row)), (1, .c (.p (.v (.int .i64 i))))], [.dead]⟩) (Weak.box 0 st.few.row rfl ⟨.inl rfl, .inr ⟨0, rfl, Nat.zero_le _, rfl⟩, .inl rfl, trivial⟩ ⟨t_dead (by decide), trivial⟩) ?_
  refine codeW_weak (s' := ⟨[(2, .c (.p (.sl 1 (ints .u8 xs)))), (3, .c (.rp st.few.row)), (1, .c (.p (.v (.int .i64 i))))], []⟩) (Weak.ren [] rfl (by decide) trivial ⟨rfl, rfl, rfl, trivial⟩) ?_
  refine codeW_seq fun K6 hK6 => codeW_reg ?_
  refine O_cons (W_it (W_mv rfl ?_))
  refine O_cons (W_it (W_len rfl ?_))
  rw [ints_len]
  refine O_cons (W_it (W_gtr rfl rfl ?_))
  refine O_nil (hK6 _ ?_)
  clear hK6 K6
  refine codeW_cond rfl (fun hc1 => ?_) (fun hc1 => ?_)
  · have hx2 : 500 < (xs.length : Int) := of_decide_eq_true hc1
    refine codeW_reg ?_
    refine O_cons (W_it (W_mv rfl ?_))
    refine O_cons (W_it (W_sls_s0 (qn := 500) rfl rfl rfl (by rw [ints_len]; omega) ?_))
    rw [ints_take]
    refine O_cons (W_it (W_mv rfl ?_))
    refine O_nil ?_
    refine (hK5 _ ?_ : K5 _)
    try clear hK5 K5
    refine codeW_seq fun K7 hK7 => codeW_par ?_
    first | refine V_cons (fun K hK => W_it (W_load_p rfl rfl rfl rfl hK)) ?_ | refine V_cons (fun K hK => W_it (W_load_r rfl rfl rfl hK)) ?_ | refine V_cons (fun K hK => W_it (W_load_e rfl rfl rfl rfl rfl hK)) ?_
    refine V_cons (fun K hK => W_it (W_callF (hash_FS st.few hf.few.weight) [] rfl (by decide) trivial fun res rg h => by obtain ⟨rfl, rfl⟩ := h; exact hK)) ?_
    first | refine V_cons (fun K hK => W_it (W_load_p rfl rfl rfl rfl hK)) ?_ | refine V_cons (fun K hK => W_it (W_load_r rfl rfl rfl hK)) ?_ | refine V_cons (fun K hK => W_it (W_load_e rfl rfl rfl rfl rfl hK)) ?_
    refine V_cons (fun K hK => W_it (W_callF (rhash_FS st.few hf.few.weight) [] rfl (by decide) trivial fun res rg h => by obtain ⟨rfl, rfl⟩ := h; exact hK)) ?_
    refine V_cons (fun K hK => W_it (W_eql rfl rfl hK)) ?_
    refine V_cons (fun K hK => W_it (W_mv rfl hK)) ?_
    first | refine V_cons (fun K hK => W_gyE rfl (by first | rfl | assumption) (W_mv rfl hK)) ?_ | refine V_cons (fun K hK => W_gnE rfl (by first | rfl | assumption) hK) ?_ | refine V_cons (fun K hK => W_gu rfl hK) ?_
    first | refine V_cons (fun K hK => W_gyE rfl (by first | rfl | assumption) (W_mv rfl hK)) ?_ | refine V_cons (fun K hK => W_gnE rfl (by first | rfl | assumption) hK) ?_ | refine V_cons (fun K hK => W_gu rfl hK) ?_
    refine V_cons (fun K hK => W_gyE rfl (by first | rfl | assumption) (W_callF (part_FS _ _ (by first | omega | (rw [List.length_take]; omega))) [] rfl (by decide) trivial fun res rg h => by obtain ⟨rfl, rfl⟩ := h; exact hK)) ?_
    first | refine V_cons (fun K hK => W_gyE rfl (by first | rfl | assumption) (W_mv rfl hK)) ?_ | refine V_cons (fun K hK => W_gnE rfl (by first | rfl | assumption) hK) ?_ | refine V_cons (fun K hK => W_gu rfl hK) ?_
    first | refine V_cons (fun K hK => W_gyE rfl (by first | rfl | assumption) (W_cvi rfl hK)) ?_ | refine V_cons (fun K hK => W_gnE rfl (by first | rfl | assumption) hK) ?_ | refine V_cons (fun K hK => W_gu rfl hK) ?_
    first | refine V_cons (fun K hK => W_gyE rfl (by first | rfl | assumption) (W_mv rfl hK)) ?_ | refine V_cons (fun K hK => W_gnE rfl (by first | rfl | assumption) hK) ?_ | refine V_cons (fun K hK => W_gu rfl hK) ?_
    refine V_cons (fun K hK => W_gyE rfl (by first | rfl | assumption) (W_callF (rsum_FS _ _ (by first | omega | (rw [List.length_take]; omega))) [] rfl (by decide) trivial fun res rg h => by obtain ⟨rfl, rfl⟩ := h; exact hK)) ?_
    first | refine V_cons (fun K hK => W_gyE rfl (by first | rfl | assumption) (W_eql rfl rfl hK)) ?_ | refine V_cons (fun K hK => W_gnE rfl (by first | rfl | assumption) hK) ?_ | refine V_cons (fun K hK => W_gu rfl hK) ?_
    refine V_cons (fun K hK => W_it (W_pickE rfl (by first | rfl | assumption) rfl hK)) ?_
    refine V_cons (fun K hK => W_it (W_mv rfl hK)) ?_
    refine V_nil ?_
    refine O_nil (hK7 _ ?_)
    clear hK7 K7
    refine codeW_ret (Fin.weak (.inr rfl) (s1 := ⟨[(6, .c (.p (.v (.bool true))))], []⟩) (Weak.ren [] rfl (by decide) trivial ⟨?_, trivial⟩) ⟨rfl, rfl⟩)
    exact congrArg (fun b => AV.c (.p (.v (.bool b)))) (decide_eq_true rfl)
  · refine codeW_skip ?_
    refine (hK5 _ ?_ : K5 _)
    try clear hK5 K5
    refine codeW_seq fun K8 hK8 => codeW_par ?_
    first | refine V_cons (fun K hK => W_it (W_load_p rfl rfl rfl rfl hK)) ?_ | refine V_cons (fun K hK => W_it (W_load_r rfl rfl rfl hK)) ?_ | refine V_cons (fun K hK => W_it (W_load_e rfl rfl rfl rfl rfl hK)) ?_
    refine V_cons (fun K hK => W_it (W_callF (hash_FS st.few hf.few.weight) [] rfl (by decide) trivial fun res rg h => by obtain ⟨rfl, rfl⟩ := h; exact hK)) ?_
    first | refine V_cons (fun K hK => W_it (W_load_p rfl rfl rfl rfl hK)) ?_ | refine V_cons (fun K hK => W_it (W_load_r rfl rfl rfl hK)) ?_ | refine V_cons (fun K hK => W_it (W_load_e rfl rfl rfl rfl rfl hK)) ?_
    refine V_cons (fun K hK => W_it (W_callF (rhash_FS st.few hf.few.weight) [] rfl (by decide) trivial fun res rg h => by obtain ⟨rfl, rfl⟩ := h; exact hK)) ?_
    refine V_cons (fun K hK => W_it (W_eql rfl rfl hK)) ?_
    refine V_cons (fun K hK => W_it (W_mv rfl hK)) ?_
    first | refine V_cons (fun K hK => W_gyE rfl (by first | rfl | assumption) (W_mv rfl hK)) ?_ | refine V_cons (fun K hK => W_gnE rfl (by first | rfl | assumption) hK) ?_ | refine V_cons (fun K hK => W_gu rfl hK) ?_
    first | refine V_cons (fun K hK => W_gyE rfl (by first | rfl | assumption) (W_mv rfl hK)) ?_ | refine V_cons (fun K hK => W_gnE rfl (by first | rfl | assumption) hK) ?_ | refine V_cons (fun K hK => W_gu rfl hK) ?_
    refine V_cons (fun K hK => W_gyE rfl (by first | rfl | assumption) (W_callF (part_FS _ _ (by first | omega | (rw [List.length_take]; omega))) [] rfl (by decide) trivial fun res rg h => by obtain ⟨rfl, rfl⟩ := h; exact hK)) ?_
    first | refine V_cons (fun K hK => W_gyE rfl (by first | rfl | assumption) (W_mv rfl hK)) ?_ | refine V_cons (fun K hK => W_gnE rfl (by first | rfl | assumption) hK) ?_ | refine V_cons (fun K hK => W_gu rfl hK) ?_
    first | refine V_cons (fun K hK => W_gyE rfl (by first | rfl | assumption) (W_cvi rfl hK)) ?_ | refine V_cons (fun K hK => W_gnE rfl (by first | rfl | assumption) hK) ?_ | refine V_cons (fun K hK => W_gu rfl hK) ?_
    first | refine V_cons (fun K hK => W_gyE rfl (by first | rfl | assumption) (W_mv rfl hK)) ?_ | refine V_cons (fun K hK => W_gnE rfl (by first | rfl | assumption) hK) ?_ | refine V_cons (fun K hK => W_gu rfl hK) ?_
    refine V_cons (fun K hK => W_gyE rfl (by first | rfl | assumption) (W_callF (rsum_FS _ _ (by first | omega | (rw [List.length_take]; omega))) [] rfl (by decide) trivial fun res rg h => by obtain ⟨rfl, rfl⟩ := h; exact hK)) ?_
    first | refine V_cons (fun K hK => W_gyE rfl (by first | rfl | assumption) (W_eql rfl rfl hK)) ?_ | refine V_cons (fun K hK => W_gnE rfl (by first | rfl | assumption) hK) ?_ | refine V_cons (fun K hK => W_gu rfl hK) ?_
    refine V_cons (fun K hK => W_it (W_pickE rfl (by first | rfl | assumption) rfl hK)) ?_
    refine V_cons (fun K hK => W_it (W_mv rfl hK)) ?_
    refine V_nil ?_
    refine O_nil (hK8 _ ?_)
    clear hK8 K8
    refine codeW_ret (Fin.weak (.inr rfl) (s1 := ⟨[(6, .c (.p (.v (.bool true))))], []⟩) (Weak.ren [] rfl (by decide) trivial ⟨?_, trivial⟩) ⟨rfl, rfl⟩)
    exact congrArg (fun b => AV.c (.p (.v (.bool b)))) (decide_eq_true rfl)

def Sta.epoch1 (st : Sta) (e : Int) : Sta := { st with epoch := e }
theorem Sta.Fine.epoch1 {st : Sta} (h : st.Fine) {e : Int} (he : InR e) : (st.epoch1 e).Fine where
  threads := h.threads
  buffers := h.buffers
  roots := h.roots
  slots := h.slots
  cells := h.cells
  free := h.free
  epoch := he
  marks := h.marks
  counts := h.counts
  weight := h.weight
theorem epoch1_eq (st : Sta) (e : Int) : st = st.epoch1 e ↔ st.epoch = e := by
  refine ⟨fun h => by rw [h]; rfl, fun h => ?_⟩
  subst h
  rfl
theorem state_eqD_FS (a b : Sta) (hb : a.weight ≤ 900000000) :
    FS Try.prog 27 [.agg (a.row.map .p), .agg (b.row.map .p)] [] fun res rg => res = .c (.p (.v (.bool (@decide (a = b) (Classical.propDecidable _))))) ∧ rg = [] := by
  refine (state_eq_FS a b hb).mono fun res rg h => ?_
  obtain ⟨t, rfl, rfl, ht⟩ := h
  refine ⟨?_, rfl⟩
  have : t = @decide (a = b) (Classical.propDecidable _) := by
    cases t
    · exact (@decide_eq_false _ (Classical.propDecidable _) fun h => by have := ht.2 h; cases this).symm
    · exact (@decide_eq_true _ (Classical.propDecidable _) (ht.1 rfl)).symm
  rw [this]

def ac8 : ACode := (.seq (.reg [⟨none, (some 3), (.box (some 3) (.t 0))⟩, ⟨none, (some 4), (.box (some 4) (.t 1))⟩, ⟨none, (some 6), (.mv (some 6) (.k (.bool false)))⟩]) (.seq (.seq (.reg [⟨none, (some 8), (.call (some 8) 13 [])⟩, ⟨none, (some 9), (.un (some 9) .not (.t 8))⟩]) (.cond (.t 9) (.seq (.reg [⟨none, (some 6), (.mv (some 6) (.k (.bool false)))⟩]) .ret) .skip)) (.seq (.par [⟨none, (some 10), (.load (some 10) 9 true (.t 3))⟩, ⟨none, (some 11), (.call (some 11) 14 [(.t 10)])⟩, ⟨none, (some 12), (.load (some 12) 9 true (.t 4))⟩, ⟨none, (some 13), (.call (some 13) 14 [(.t 12)])⟩] [⟨none, none, (.store 9 (.t 3) (.t 11))⟩, ⟨none, none, (.store 9 (.t 4) (.t 13))⟩]) (.seq (.reg [⟨none, (some 14), (.load (some 14) 9 true (.t 3))⟩, ⟨none, (some 7), (.alloc (some 7) [(.slice none 0 0), (.slice none 0 0), (.slice none 0 0), (.slice none 0 0), (.slice none 0 0), (.slice none 0 0), (.int .i64 0), (.slice none 0 0), (.slice none 0 0)])⟩, ⟨none, none, (.store 9 (.t 7) (.t 14))⟩]) (.seq (.reg [⟨none, (some 15), (.mv (some 15) (.t 2))⟩, ⟨none, (some 16), (.fad (some 16) 6 (.t 7))⟩, ⟨none, none, (.store 1 (.t 16) (.t 15))⟩]) (.seq (.par [⟨none, (some 17), (.load (some 17) 9 true (.t 3))⟩, ⟨none, (some 18), (.call (some 18) 21 [(.t 17)])⟩, ⟨none, (some 19), (.b2s (some 19) (.t 18))⟩, ⟨none, (some 20), (.load (some 20) 9 true (.t 4))⟩, ⟨none, (some 21), (.call (some 21) 21 [(.t 20)])⟩, ⟨none, (some 22), (.b2s (some 22) (.t 21))⟩, ⟨none, (some 23), (.bin (some 23) .eql (.t 19) (.t 22))⟩, ⟨none, (some 24), (.load (some 24) 9 true (.t 3))⟩, ⟨none, (some 25), (.load (some 25) 9 true (.t 4))⟩, ⟨none, (some 26), (.call (some 26) 27 [(.t 24), (.t 25)])⟩, ⟨none, (some 27), (.beq (some 27) false (.t 23) (.t 26))⟩, ⟨none, (some 28), (.mv (some 28) (.t 27))⟩, ⟨(some (28, true)), (some 29), (.load (some 29) 9 true (.t 3))⟩, ⟨(some (28, true)), (some 30), (.call (some 30) 21 [(.t 29)])⟩, ⟨(some (28, true)), (some 31), (.b2s (some 31) (.t 30))⟩, ⟨(some (28, true)), (some 32), (.load (some 32) 9 true (.t 7))⟩, ⟨(some (28, true)), (some 33), (.call (some 33) 21 [(.t 32)])⟩, ⟨(some (28, true)), (some 34), (.b2s (some 34) (.t 33))⟩, ⟨(some (28, true)), (some 35), (.bin (some 35) .eql (.t 31) (.t 34))⟩, ⟨(some (28, true)), (some 36), (.fad (some 36) 6 (.t 3))⟩, ⟨(some (28, true)), (some 37), (.load (some 37) 1 false (.t 36))⟩, ⟨(some (28, true)), (some 38), (.mv (some 38) (.t 2))⟩, ⟨(some (28, true)), (some 39), (.bin (some 39) .eql (.t 37) (.t 38))⟩, ⟨(some (28, true)), (some 40), (.beq (some 40) false (.t 35) (.t 39))⟩, ⟨none, (some 41), (.pick (some 41) (.t 28) (.t 40) (.k (.bool false)))⟩, ⟨none, (some 6), (.mv (some 6) (.t 41))⟩] []) .ret))))))
theorem tr8 : ((Try.f8.name == "runtime.NumGoroutine") = false ∧ Try.f8.results = ([6].map ResultVar.tmp).toArray) ∧ Try.f8.ntmps = 42 ∧ (Try.f8.body.bind (trCode Try.prog Try.f8.ntmps)) = some ac8 := ⟨⟨by kernel_rfl, by kernel_rfl⟩, by kernel_rfl, by kernel_rfl⟩


theorem law_apart_FS (a b : Sta) (ha : a.Fine) (hb : b.Fine) (e : Int) (he : InR e) :
    FS Try.prog 8 [.agg (a.row.map .p), .agg (b.row.map .p), .c (.p (.v (.int .i64 e)))] [] fun res rg => res = .c (.p (.v (.bool true))) ∧ rg = [] := by
  refine FS_def [6] 42 Try.func8 tr8 rfl ?_
  unfold ac8
  have h28 : (((strB (V a.few.ns)).toList == (strB (V b.few.ns)).toList) == @decide (a.few = b.few) (Classical.propDecidable _)) = true := by
    rw [str_eq ha.few.ns hb.few.ns]
    by_cases h : a.few = b.few
    · have h2 := (sta_ns a.few b.few).2 h
      simp [h, h2]
    · have h2 : ¬ a.few.ns = b.few.ns := fun k => h ((sta_ns _ _).1 k)
      simp [h, h2]
  have h41 : (((strB (V a.few.ns)).toList == (strB (V (a.few.epoch1 e).ns)).toList) == decide (a.few.epoch = e)) = true := by
    rw [str_eq ha.few.ns (ha.few.epoch1 he).ns]
    have h3 : a.few.ns = (a.few.epoch1 e).ns ↔ a.few.epoch = e := (sta_ns _ _).trans (epoch1_eq _ _)
    by_cases h : a.few.epoch = e
    · have h2 := h3.2 h
      simp [h, ← h2]
    · have h2 : ¬ a.few.ns = (a.few.epoch1 e).ns := fun k => h (h3.1 k)
      simp [h, h2]
  refine codeW_seq fun K1 hK1 => codeW_reg ?_
  refine O_cons (W_it (W_box rfl ?_))
  refine O_cons (W_it (W_box rfl ?_))
  refine O_cons (W_it (W_mv rfl ?_))
  refine O_nil (hK1 _ ?_)
  clear hK1 K1
  refine codeW_seq fun K2 hK2 => ?_
  refine codeW_seq fun K3 hK3 => codeW_reg ?_
  refine O_cons (W_it (W_callF alive_FS [] rfl (by decide) trivial ?_))
  rintro _ _ ⟨rfl, rfl⟩
  simp only [St.put, renAV, renAC, renReg, renAVs, setAll, upF, List.map_cons, List.map_nil, List.cons_append, List.nil_append, List.append_nil, List.set_cons_zero, List.set_cons_succ, List.length_cons, List.length_nil, Nat.reduceAdd, Nat.reduceLT, Nat.reduceSub, Nat.not_lt_zero, if_false, if_true, Nat.sub_zero, Nat.add_zero, Nat.zero_add]
  refine O_cons (W_it (W_not rfl ?_))
  refine O_nil (hK3 _ ?_)
  clear hK3 K3
  refine codeW_condF rfl (by first | rfl | assumption) ?_
  refine codeW_skip ?_
  refine (hK2 _ ?_ : K2 _)
  try clear hK2 K2
  refine codeW_seq fun K4 hK4 => codeW_par ?_
  first | refine V_cons (fun K hK => W_it (W_load_p rfl rfl rfl rfl hK)) ?_ | refine V_cons (fun K hK => W_it (W_load_r rfl rfl rfl hK)) ?_ | refine V_cons (fun K hK => W_it (W_load_e rfl rfl rfl rfl rfl hK)) ?_
  refine V_cons (fun K hK => W_it (W_callF (few_FS a) [] rfl (by decide) trivial fun res rg h => by obtain ⟨rfl, rfl⟩ := h; exact hK)) ?_
  first | refine V_cons (fun K hK => W_it (W_load_p rfl rfl rfl rfl hK)) ?_ | refine V_cons (fun K hK => W_it (W_load_r rfl rfl rfl hK)) ?_ | refine V_cons (fun K hK => W_it (W_load_e rfl rfl rfl rfl rfl hK)) ?_
  refine V_cons (fun K hK => W_it (W_callF (few_FS b) [] rfl (by decide) trivial fun res rg h => by obtain ⟨rfl, rfl⟩ := h; exact hK)) ?_
  refine V_nil ?_
  first | refine O_cons (W_it (W_store_p rfl rfl rfl rfl rfl rfl ?_)) | refine O_cons (W_it (W_store_e rfl rfl rfl rfl rfl rfl rfl ?_))
  first | refine O_cons (W_it (W_store_p rfl rfl rfl rfl rfl rfl ?_)) | refine O_cons (W_it (W_store_e rfl rfl rfl rfl rfl rfl rfl ?_))
  refine O_nil (hK4 _ ?_)
  clear hK4 K4
  refine codeW_seq fun K5 hK5 => codeW_reg ?_
  first | refine O_cons (W_it (W_load_p rfl rfl rfl rfl ?_)) | refine O_cons (W_it (W_load_r rfl rfl rfl ?_)) | refine O_cons (W_it (W_load_e rfl rfl rfl rfl rfl ?_))
  refine O_cons (W_it (W_alloc ?_))
  first | refine O_cons (W_it (W_store_p rfl rfl rfl rfl rfl rfl ?_)) | refine O_cons (W_it (W_store_e rfl rfl rfl rfl rfl rfl rfl ?_))
  refine O_nil (hK5 _ ?_)
  clear hK5 K5
  refine codeW_seq fun K6 hK6 => codeW_reg ?_
  refine O_cons (W_it (W_mv rfl ?_))
  first | refine O_cons (W_it (W_fad_p rfl ?_)) | refine O_cons (W_it (W_fad_e rfl ?_)) | refine O_cons (W_it (W_fad_r rfl ?_))
  first | refine O_cons (W_it (W_store_p rfl rfl rfl rfl rfl rfl ?_)) | refine O_cons (W_it (W_store_e rfl rfl rfl rfl rfl rfl rfl ?_))
  refine O_nil (hK6 _ ?_)
  clear hK6 K6
  refine codeW_weak (s' := ⟨[(3, .c (.ptr 0 0)), (4, .c (.ptr 1 0)), (7, .c (.ptr 2 0)), (2, .c (.p (.v (.int .i64 e))))], [.ac (a.few.row.map .p), .ac (b.few.row.map .p), .ac ((a.few.epoch1 e).row.map .p)]⟩) (Weak.ren [0, 1, 2] rfl (by decide) ⟨.inr rfl, .inr rfl, .inr rfl, trivial⟩ ⟨rfl, rfl, rfl, rfl, trivial⟩) ?_
  refine codeW_weak (s' := ⟨[(3, .c (.rp a.few.row)), (4, .c (.ptr 1 0)), (7, .c (.ptr 2 0)), (2, .c (.p (.v (.int .i64 e))))], [.dead, .ac (b.few.row.map .p), .ac ((a.few.epoch1 e).row.map .p)]⟩) (Weak.box 0 a.few.row rfl ⟨.inr ⟨0, rfl, Nat.zero_le _, rfl⟩, .inl rfl, .inl rfl, .inl rfl, trivial⟩ ⟨t_dead (by decide), t_keep (fun _ => .inl rfl) (by decide), t_keep (fun _ => .inl rfl) (by decide), trivial⟩) ?_
  refine codeW_weak (s' := ⟨[(3, .c (.rp a.few.row)), (4, .c (.rp b.few.row)), (7, .c (.ptr 2 0)), (2, .c (.p (.v (.int .i64 e))))], [.dead, .dead, .ac ((a.few.epoch1 e).row.map .p)]⟩) (Weak.box 1 b.few.row rfl ⟨.inl rfl, .inr ⟨0, rfl, Nat.zero_le _, rfl⟩, .inl rfl, .inl rfl, trivial⟩ ⟨t_keep (fun _ => .inl rfl) (by decide), t_dead (by decide), t_keep (fun _ => .inl rfl) (by decide), trivial⟩) ?_
  refine codeW_weak (s' := ⟨[(3, .c (.rp a.few.row)), (4, .c (.rp b.few.row)), (7, .c (.rp (a.few.epoch1 e).row)), (2, .c (.p (.v (.int .i64 e))))], [.dead, .dead, .dead]⟩) (Weak.box 2 (a.few.epoch1 e).row rfl ⟨.inl rfl, .inl rfl, .inr ⟨0, rfl, Nat.zero_le _, rfl⟩, .inl rfl, trivial⟩ ⟨t_keep (fun _ => .inl rfl) (by decide), t_keep (fun _ => .inl rfl) (by decide), t_dead (by decide), trivial⟩) ?_
  refine codeW_weak (s' := ⟨[(3, .c (.rp a.few.row)), (4, .c (.rp b.few.row)), (7, .c (.rp (a.few.epoch1 e).row)), (2, .c (.p (.v (.int .i64 e))))], []⟩) (Weak.ren [] rfl (by decide) trivial ⟨rfl, rfl, rfl, rfl, trivial⟩) ?_
  refine codeW_seq fun K7 hK7 => codeW_par ?_
  first | refine V_cons (fun K hK => W_it (W_load_p rfl rfl rfl rfl hK)) ?_ | refine V_cons (fun K hK => W_it (W_load_r rfl rfl rfl hK)) ?_ | refine V_cons (fun K hK => W_it (W_load_e rfl rfl rfl rfl rfl hK)) ?_
  refine V_cons (fun K hK => W_it (W_callF (codeput_FS a.few ha.few.weight) [] rfl (by decide) trivial fun res rg h => by obtain ⟨rfl, rfl⟩ := h; exact hK)) ?_
  refine V_cons (fun K hK => W_it (W_b2s rfl rfl (.inr rfl) (V a.few.ns) rfl (a.few.octets_V) hK)) ?_
  first | refine V_cons (fun K hK => W_it (W_load_p rfl rfl rfl rfl hK)) ?_ | refine V_cons (fun K hK => W_it (W_load_r rfl rfl rfl hK)) ?_ | refine V_cons (fun K hK => W_it (W_load_e rfl rfl rfl rfl rfl hK)) ?_
  refine V_cons (fun K hK => W_it (W_callF (codeput_FS b.few hb.few.weight) [] rfl (by decide) trivial fun res rg h => by obtain ⟨rfl, rfl⟩ := h; exact hK)) ?_
  refine V_cons (fun K hK => W_it (W_b2s rfl rfl (.inr rfl) (V b.few.ns) rfl (b.few.octets_V) hK)) ?_
  refine V_cons (fun K hK => W_it (W_seql rfl rfl hK)) ?_
  first | refine V_cons (fun K hK => W_it (W_load_p rfl rfl rfl rfl hK)) ?_ | refine V_cons (fun K hK => W_it (W_load_r rfl rfl rfl hK)) ?_ | refine V_cons (fun K hK => W_it (W_load_e rfl rfl rfl rfl rfl hK)) ?_
  first | refine V_cons (fun K hK => W_it (W_load_p rfl rfl rfl rfl hK)) ?_ | refine V_cons (fun K hK => W_it (W_load_r rfl rfl rfl hK)) ?_ | refine V_cons (fun K hK => W_it (W_load_e rfl rfl rfl rfl rfl hK)) ?_
  refine V_cons (fun K hK => W_it (W_callF (state_eqD_FS a.few b.few ha.few.weight) [] rfl (by decide) trivial fun res rg h => by obtain ⟨rfl, rfl⟩ := h; exact hK)) ?_
  refine V_cons (fun K hK => W_it (W_beq rfl rfl hK)) ?_
  refine V_cons (fun K hK => W_it (W_mv rfl hK)) ?_
  first | refine V_cons (fun K hK => W_gyE rfl (by first | rfl | assumption) (W_load_p rfl rfl rfl rfl hK)) ?_ | refine V_cons (fun K hK => W_gyE rfl (by first | rfl | assumption) (W_load_r rfl rfl rfl hK)) ?_ | refine V_cons (fun K hK => W_gyE rfl (by first | rfl | assumption) (W_load_e rfl rfl rfl rfl rfl hK)) ?_ | refine V_cons (fun K hK => W_gnE rfl (by first | rfl | assumption) hK) ?_ | refine V_cons (fun K hK => W_gu rfl hK) ?_
  refine V_cons (fun K hK => W_gyE rfl (by first | rfl | assumption) (W_callF (codeput_FS a.few ha.few.weight) [] rfl (by decide) trivial fun res rg h => by obtain ⟨rfl, rfl⟩ := h; exact hK)) ?_
  refine V_cons (fun K hK => W_gyE rfl (by first | rfl | assumption) (W_b2s rfl rfl (.inr rfl) (V a.few.ns) rfl (a.few.octets_V) hK)) ?_
  first | refine V_cons (fun K hK => W_gyE rfl (by first | rfl | assumption) (W_load_p rfl rfl rfl rfl hK)) ?_ | refine V_cons (fun K hK => W_gyE rfl (by first | rfl | assumption) (W_load_r rfl rfl rfl hK)) ?_ | refine V_cons (fun K hK => W_gyE rfl (by first | rfl | assumption) (W_load_e rfl rfl rfl rfl rfl hK)) ?_ | refine V_cons (fun K hK => W_gnE rfl (by first | rfl | assumption) hK) ?_ | refine V_cons (fun K hK => W_gu rfl hK) ?_
  refine V_cons (fun K hK => W_gyE rfl (by first | rfl | assumption) (W_callF (codeput_FS (a.few.epoch1 e) (ha.few.epoch1 he).weight) [] rfl (by decide) trivial fun res rg h => by obtain ⟨rfl, rfl⟩ := h; exact hK)) ?_
  refine V_cons (fun K hK => W_gyE rfl (by first | rfl | assumption) (W_b2s rfl rfl (.inr rfl) (V (a.few.epoch1 e).ns) rfl ((a.few.epoch1 e).octets_V) hK)) ?_
  refine V_cons (fun K hK => W_gyE rfl (by first | rfl | assumption) (W_seql rfl rfl hK)) ?_
  first | refine V_cons (fun K hK => W_gyE rfl (by first | rfl | assumption) (W_fad_p rfl hK)) ?_ | refine V_cons (fun K hK => W_gyE rfl (by first | rfl | assumption) (W_fad_e rfl hK)) ?_ | refine V_cons (fun K hK => W_gyE rfl (by first | rfl | assumption) (W_fad_r rfl hK)) ?_ | refine V_cons (fun K hK => W_gnE rfl (by first | rfl | assumption) hK) ?_ | refine V_cons (fun K hK => W_gu rfl hK) ?_
  first | refine V_cons (fun K hK => W_gyE rfl (by first | rfl | assumption) (W_load_p rfl rfl rfl rfl hK)) ?_ | refine V_cons (fun K hK => W_gyE rfl (by first | rfl | assumption) (W_load_r rfl rfl rfl hK)) ?_ | refine V_cons (fun K hK => W_gyE rfl (by first | rfl | assumption) (W_load_e rfl rfl rfl rfl rfl hK)) ?_ | refine V_cons (fun K hK => W_gnE rfl (by first | rfl | assumption) hK) ?_ | refine V_cons (fun K hK => W_gu rfl hK) ?_
  first | refine V_cons (fun K hK => W_gyE rfl (by first | rfl | assumption) (W_mv rfl hK)) ?_ | refine V_cons (fun K hK => W_gnE rfl (by first | rfl | assumption) hK) ?_ | refine V_cons (fun K hK => W_gu rfl hK) ?_
  first | refine V_cons (fun K hK => W_gyE rfl (by first | rfl | assumption) (W_eql rfl rfl hK)) ?_ | refine V_cons (fun K hK => W_gnE rfl (by first | rfl | assumption) hK) ?_ | refine V_cons (fun K hK => W_gu rfl hK) ?_
  first | refine V_cons (fun K hK => W_gyE rfl (by first | rfl | assumption) (W_beq rfl rfl hK)) ?_ | refine V_cons (fun K hK => W_gnE rfl (by first | rfl | assumption) hK) ?_ | refine V_cons (fun K hK => W_gu rfl hK) ?_
  refine V_cons (fun K hK => W_it (W_pickE rfl (by first | rfl | assumption) rfl hK)) ?_
  refine V_cons (fun K hK => W_it (W_mv rfl hK)) ?_
  refine V_nil ?_
  refine O_nil (hK7 _ ?_)
  clear hK7 K7
  refine codeW_ret (Fin.weak (.inr rfl) (s1 := ⟨[(6, .c (.p (.v (.bool true))))], []⟩) (Weak.ren [] rfl (by decide) trivial ⟨?_, trivial⟩) ⟨rfl, rfl⟩)
  exact congrArg (fun b => AV.c (.p (.v (.bool b)))) h41

end Go.Sim
