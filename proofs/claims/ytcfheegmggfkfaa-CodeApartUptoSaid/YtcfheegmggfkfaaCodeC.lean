import Derived.Test.YtcfheegmggfkfaaSimU
import Derived.Test.YtcfheegmggfkfaaCodeB
import Derived.Test.YtcfheegmggfkfaaChecked
import Derived.KernelRfl
namespace Go.Sim
open Go.RowKit Go.Proofs.Ytcfheegmggfkfaa.B Go.Proofs
set_option maxRecDepth 100000
set_option linter.unusedSimpArgs false
set_option linter.unusedVariables false

def ac16 : ACode := (.seq (.reg [⟨none, (some 1), (.box (some 1) (.t 0))⟩, ⟨none, (some 2), (.mv (some 2) (.k (.slice none 0 0)))⟩]) (.seq (.reg [⟨none, (some 3), (.mv (some 3) (.k (.slice none 0 0)))⟩]) (.seq (.reg [⟨none, (some 6), (.mv (some 6) (.t 3))⟩, ⟨none, (some 7), (.fad (some 7) 0 (.t 1))⟩, ⟨none, (some 8), (.load (some 8) 1 false (.t 7))⟩, ⟨none, (some 9), (.call (some 9) 35 [(.t 6), (.t 8)])⟩, ⟨none, (some 3), (.mv (some 3) (.t 9))⟩]) (.seq (.reg [⟨none, (some 10), (.mv (some 10) (.t 3))⟩, ⟨none, (some 11), (.fad (some 11) 1 (.t 1))⟩, ⟨none, (some 12), (.load (some 12) 1 false (.t 11))⟩, ⟨none, (some 13), (.call (some 13) 35 [(.t 10), (.t 12)])⟩, ⟨none, (some 3), (.mv (some 3) (.t 13))⟩]) (.seq (.reg [⟨none, (some 14), (.mv (some 14) (.t 3))⟩, ⟨none, (some 15), (.fad (some 15) 2 (.t 1))⟩, ⟨none, (some 16), (.load (some 16) 1 false (.t 15))⟩, ⟨none, (some 17), (.call (some 17) 35 [(.t 14), (.t 16)])⟩, ⟨none, (some 3), (.mv (some 3) (.t 17))⟩]) (.seq (.seq (.reg [⟨none, (some 4), (.mv (some 4) (.k (.int .i64 0)))⟩]) (.block 0 (.loop (.seq (.seq (.reg [⟨none, (some 18), (.mv (some 18) (.t 4))⟩, ⟨none, (some 19), (.bin (some 19) .lss (.t 18) (.k (.int .i64 4)))⟩]) (.cond (.t 19) .skip (.exit 0))) (.seq (.block 1 (.reg [⟨none, (some 22), (.mv (some 22) (.t 3))⟩, ⟨none, (some 23), (.mv (some 23) (.t 4))⟩, ⟨none, (some 24), (.fad (some 24) 3 (.t 1))⟩, ⟨none, (some 25), (.ixa (some 25) 4 3 (.t 24) (.t 23))⟩, ⟨none, (some 26), (.load (some 26) 3 true (.t 25))⟩, ⟨none, (some 27), (.call (some 27) 36 [(.t 22), (.t 26)])⟩, ⟨none, (some 3), (.mv (some 3) (.t 27))⟩])) (.reg [⟨none, (some 20), (.mv (some 20) (.t 4))⟩, ⟨none, (some 21), (.bin (some 21) .add (.t 20) (.k (.int .i64 1)))⟩, ⟨none, (some 4), (.mv (some 4) (.t 21))⟩])))))) (.seq (.reg [⟨none, (some 28), (.mv (some 28) (.t 3))⟩, ⟨none, (some 29), (.fad (some 29) 15 (.t 1))⟩, ⟨none, (some 30), (.fad (some 30) 0 (.t 29))⟩, ⟨none, (some 31), (.load (some 31) 1 false (.t 30))⟩, ⟨none, (some 32), (.call (some 32) 35 [(.t 28), (.t 31)])⟩, ⟨none, (some 3), (.mv (some 3) (.t 32))⟩]) (.seq (.reg [⟨none, (some 33), (.mv (some 33) (.t 3))⟩, ⟨none, (some 34), (.fad (some 34) 15 (.t 1))⟩, ⟨none, (some 35), (.fad (some 35) 1 (.t 34))⟩, ⟨none, (some 36), (.load (some 36) 1 false (.t 35))⟩, ⟨none, (some 37), (.call (some 37) 35 [(.t 33), (.t 36)])⟩, ⟨none, (some 3), (.mv (some 3) (.t 37))⟩]) (.seq (.reg [⟨none, (some 38), (.mv (some 38) (.t 3))⟩, ⟨none, (some 39), (.fad (some 39) 15 (.t 1))⟩, ⟨none, (some 40), (.fad (some 40) 2 (.t 39))⟩, ⟨none, (some 41), (.load (some 41) 1 false (.t 40))⟩, ⟨none, (some 42), (.call (some 42) 37 [(.t 38), (.t 41)])⟩, ⟨none, (some 3), (.mv (some 3) (.t 42))⟩]) (.seq (.reg [⟨none, (some 43), (.mv (some 43) (.t 3))⟩, ⟨none, (some 44), (.fad (some 44) 15 (.t 1))⟩, ⟨none, (some 45), (.fad (some 45) 3 (.t 44))⟩, ⟨none, (some 46), (.load (some 46) 1 false (.t 45))⟩, ⟨none, (some 47), (.call (some 47) 38 [(.t 43), (.t 46)])⟩, ⟨none, (some 3), (.mv (some 3) (.t 47))⟩]) (.seq (.reg [⟨none, (some 48), (.mv (some 48) (.t 3))⟩, ⟨none, (some 49), (.fad (some 49) 19 (.t 1))⟩, ⟨none, (some 50), (.load (some 50) 1 false (.t 49))⟩, ⟨none, (some 51), (.len (some 51) (.t 50))⟩, ⟨none, (some 52), (.call (some 52) 35 [(.t 48), (.t 51)])⟩, ⟨none, (some 3), (.mv (some 3) (.t 52))⟩]) (.seq (.seq (.reg [⟨none, (some 5), (.mv (some 5) (.k (.int .i64 0)))⟩]) (.block 2 (.loop (.seq (.seq (.reg [⟨none, (some 53), (.mv (some 53) (.t 5))⟩, ⟨none, (some 54), (.fad (some 54) 19 (.t 1))⟩, ⟨none, (some 55), (.load (some 55) 1 false (.t 54))⟩, ⟨none, (some 56), (.len (some 56) (.t 55))⟩, ⟨none, (some 57), (.bin (some 57) .lss (.t 53) (.t 56))⟩]) (.cond (.t 57) .skip (.exit 2))) (.seq (.block 3 (.seq (.reg [⟨none, (some 60), (.mv (some 60) (.t 3))⟩, ⟨none, (some 61), (.fad (some 61) 19 (.t 1))⟩, ⟨none, (some 62), (.load (some 62) 1 false (.t 61))⟩, ⟨none, (some 63), (.mv (some 63) (.t 5))⟩, ⟨none, (some 64), (.ixs (some 64) 3 (.t 62) (.t 63))⟩, ⟨none, (some 65), (.fad (some 65) 0 (.t 64))⟩, ⟨none, (some 66), (.load (some 66) 1 false (.t 65))⟩, ⟨none, (some 67), (.call (some 67) 35 [(.t 60), (.t 66)])⟩, ⟨none, (some 3), (.mv (some 3) (.t 67))⟩]) (.seq (.reg [⟨none, (some 68), (.mv (some 68) (.t 3))⟩, ⟨none, (some 69), (.fad (some 69) 19 (.t 1))⟩, ⟨none, (some 70), (.load (some 70) 1 false (.t 69))⟩, ⟨none, (some 71), (.mv (some 71) (.t 5))⟩, ⟨none, (some 72), (.ixs (some 72) 3 (.t 70) (.t 71))⟩, ⟨none, (some 73), (.fad (some 73) 1 (.t 72))⟩, ⟨none, (some 74), (.load (some 74) 1 false (.t 73))⟩, ⟨none, (some 75), (.call (some 75) 35 [(.t 68), (.t 74)])⟩, ⟨none, (some 3), (.mv (some 3) (.t 75))⟩]) (.reg [⟨none, (some 76), (.mv (some 76) (.t 3))⟩, ⟨none, (some 77), (.fad (some 77) 19 (.t 1))⟩, ⟨none, (some 78), (.load (some 78) 1 false (.t 77))⟩, ⟨none, (some 79), (.mv (some 79) (.t 5))⟩, ⟨none, (some 80), (.ixs (some 80) 3 (.t 78) (.t 79))⟩, ⟨none, (some 81), (.fad (some 81) 2 (.t 80))⟩, ⟨none, (some 82), (.load (some 82) 1 false (.t 81))⟩, ⟨none, (some 83), (.call (some 83) 37 [(.t 76), (.t 82)])⟩, ⟨none, (some 3), (.mv (some 3) (.t 83))⟩])))) (.reg [⟨none, (some 58), (.mv (some 58) (.t 5))⟩, ⟨none, (some 59), (.bin (some 59) .add (.t 58) (.k (.int .i64 1)))⟩, ⟨none, (some 5), (.mv (some 5) (.t 59))⟩])))))) (.seq (.reg [⟨none, (some 84), (.mv (some 84) (.t 3))⟩, ⟨none, (some 85), (.fad (some 85) 20 (.t 1))⟩, ⟨none, (some 86), (.load (some 86) 1 false (.t 85))⟩, ⟨none, (some 87), (.call (some 87) 38 [(.t 84), (.t 86)])⟩, ⟨none, (some 3), (.mv (some 3) (.t 87))⟩]) (.seq (.reg [⟨none, (some 88), (.mv (some 88) (.t 3))⟩, ⟨none, (some 89), (.fad (some 89) 21 (.t 1))⟩, ⟨none, (some 90), (.load (some 90) 1 false (.t 89))⟩, ⟨none, (some 91), (.call (some 91) 35 [(.t 88), (.t 90)])⟩, ⟨none, (some 2), (.mv (some 2) (.t 91))⟩]) .ret))))))))))))))
theorem tr16 : ((Try.f16.name == "runtime.NumGoroutine") = false ∧ Try.f16.results = ([2].map ResultVar.tmp).toArray) ∧ Try.f16.ntmps = 92 ∧ (Try.f16.body.bind (trCode Try.prog Try.f16.ntmps)) = some ac16 := ⟨⟨by kernel_rfl, by kernel_rfl⟩, by kernel_rfl, by kernel_rfl⟩


theorem word_at (th : Thr) (i : Nat) (hi : i < 4) : ∃ r, ((th.cells.drop 3).drop ((i : Int).toNat * 3)) = .v (.int .i64 ([th.r0, th.r1, th.r2, th.r3][i]'hi).1) :: .v (.int .i64 ([th.r0, th.r1, th.r2, th.r3][i]'hi).2.1) :: .v (.int .i64 ([th.r0, th.r1, th.r2, th.r3][i]'hi).2.2) :: r :=
  match i, hi with
  | 0, _ => ⟨_, rfl⟩
  | 1, _ => ⟨_, rfl⟩
  | 2, _ => ⟨_, rfl⟩
  | 3, _ => ⟨_, rfl⟩
theorem rthread_FS (th : Thr) (hb : th.bulk ≤ 900000000) :
    FS Try.prog 16 [.agg (th.cells.map .p)] [] fun res rg => res = .c (.p (.sl 1 th.octets)) ∧ rg = [] := by
  refine FS_def [2] 92 Try.func16 tr16 rfl ?_
  unfold ac16
  have hb2 : 24 * (th.seen.length + th.bag.length + th.snap.length) ≤ 900000000 := hb
  refine codeW_seq fun K1 hK1 => codeW_reg ?_
  refine O_cons (W_it (W_box rfl ?_))
  refine O_cons (W_it (W_mv rfl ?_))
  refine O_nil (hK1 _ ?_)
  clear hK1 K1
  refine codeW_seq fun K2 hK2 => codeW_reg ?_
  refine O_cons (W_it (W_mv rfl ?_))
  refine O_nil (hK2 _ ?_)
  clear hK2 K2
  refine codeW_weak (s' := ⟨[(3, .c (.p (.v (.slice none 0 0)))), (1, .c (.rp th.cells))], [.dead]⟩) (Weak.box 0 th.cells rfl ⟨.inl rfl, .inr ⟨0, rfl, Nat.zero_le _, rfl⟩, trivial⟩ ⟨t_dead (by decide), trivial⟩) ?_
  refine codeW_weak (s' := ⟨[(3, .c (.p (.sl 1 []))), (1, .c (.rp th.cells))], [.dead]⟩) (Weak.imp ⟨.inr (.inl ⟨1, by decide, rfl, rfl⟩), .inl rfl, trivial⟩ ⟨t_keep (fun _ => .inl rfl) (by decide), trivial⟩) ?_
  refine codeW_weak (s' := ⟨[(3, .c (.p (.sl 1 []))), (1, .c (.rp th.cells))], []⟩) (Weak.ren [] rfl (by decide) trivial ⟨rfl, rfl, trivial⟩) ?_
  refine codeW_seq fun K3 hK3 => codeW_reg ?_
  refine O_cons (W_it (W_mv rfl ?_))
  first | refine O_cons (W_it (W_fad_p rfl ?_)) | refine O_cons (W_it (W_fad_e rfl ?_)) | refine O_cons (W_it (W_fad_r rfl ?_))
  first | refine O_cons (W_it (W_load_p rfl rfl rfl rfl ?_)) | refine O_cons (W_it (W_load_r rfl rfl rfl ?_)) | refine O_cons (W_it (W_load_e rfl rfl rfl rfl rfl ?_))
  refine O_cons (W_it (W_callF (rsmall_FS _ _ ?_) [] rfl (by decide) trivial ?_))
  · simp only [List.length_append, List.length_take, nums8_len, words8_len, ents8_len, cells8_len, List.length_cons, List.length_nil]; omega
  rintro _ _ ⟨rfl, rfl⟩
  simp only [St.put, renAV, renAC, renReg, renAVs, setAll, upF, List.map_cons, List.map_nil, List.cons_append, List.nil_append, List.append_nil, List.set_cons_zero, List.set_cons_succ, List.length_cons, List.length_nil, Nat.reduceAdd, Nat.reduceLT, Nat.reduceSub, Nat.not_lt_zero, if_false, if_true, Nat.sub_zero, Nat.add_zero, Nat.zero_add]
  refine O_cons (W_it (W_mv rfl ?_))
  refine O_nil (hK3 _ ?_)
  clear hK3 K3
  refine codeW_seq fun K4 hK4 => codeW_reg ?_
  refine O_cons (W_it (W_mv rfl ?_))
  first | refine O_cons (W_it (W_fad_p rfl ?_)) | refine O_cons (W_it (W_fad_e rfl ?_)) | refine O_cons (W_it (W_fad_r rfl ?_))
  first | refine O_cons (W_it (W_load_p rfl rfl rfl rfl ?_)) | refine O_cons (W_it (W_load_r rfl rfl rfl ?_)) | refine O_cons (W_it (W_load_e rfl rfl rfl rfl rfl ?_))
  refine O_cons (W_it (W_callF (rsmall_FS _ _ ?_) [] rfl (by decide) trivial ?_))
  · simp only [List.length_append, List.length_take, nums8_len, words8_len, ents8_len, cells8_len, List.length_cons, List.length_nil]; omega
  rintro _ _ ⟨rfl, rfl⟩
  simp only [St.put, renAV, renAC, renReg, renAVs, setAll, upF, List.map_cons, List.map_nil, List.cons_append, List.nil_append, List.append_nil, List.set_cons_zero, List.set_cons_succ, List.length_cons, List.length_nil, Nat.reduceAdd, Nat.reduceLT, Nat.reduceSub, Nat.not_lt_zero, if_false, if_true, Nat.sub_zero, Nat.add_zero, Nat.zero_add]
  refine O_cons (W_it (W_mv rfl ?_))
  refine O_nil (hK4 _ ?_)
  clear hK4 K4
  refine codeW_seq fun K5 hK5 => codeW_reg ?_
  refine O_cons (W_it (W_mv rfl ?_))
  first | refine O_cons (W_it (W_fad_p rfl ?_)) | refine O_cons (W_it (W_fad_e rfl ?_)) | refine O_cons (W_it (W_fad_r rfl ?_))
  first | refine O_cons (W_it (W_load_p rfl rfl rfl rfl ?_)) | refine O_cons (W_it (W_load_r rfl rfl rfl ?_)) | refine O_cons (W_it (W_load_e rfl rfl rfl rfl rfl ?_))
  refine O_cons (W_it (W_callF (rsmall_FS _ _ ?_) [] rfl (by decide) trivial ?_))
  · simp only [List.length_append, List.length_take, nums8_len, words8_len, ents8_len, cells8_len, List.length_cons, List.length_nil]; omega
  rintro _ _ ⟨rfl, rfl⟩
  simp only [St.put, renAV, renAC, renReg, renAVs, setAll, upF, List.map_cons, List.map_nil, List.cons_append, List.nil_append, List.append_nil, List.set_cons_zero, List.set_cons_succ, List.length_cons, List.length_nil, Nat.reduceAdd, Nat.reduceLT, Nat.reduceSub, Nat.not_lt_zero, if_false, if_true, Nat.sub_zero, Nat.add_zero, Nat.zero_add]
  refine O_cons (W_it (W_mv rfl ?_))
  refine O_nil (hK5 _ ?_)
  clear hK5 K5
  refine codeW_seq fun K6 hK6 => ?_
  refine codeW_seq fun K7 hK7 => codeW_reg ?_
  refine O_cons (W_it (W_mv rfl ?_))
  refine O_nil (hK7 _ ?_)
  clear hK7 K7
  refine codeW_block ?_
  refine codeW_weak (s' := ⟨[(4, .c (.p (.v (.int .i64 ((0 : Nat) : Int))))), (3, .c (.p (.sl 1 (nums8 [th.pc] ++ nums8 [th.fuel] ++ nums8 [th.status] ++ words8 ([th.r0, th.r1, th.r2, th.r3].take 0))))), (1, .c (.rp th.cells))], []⟩) (Weak.ren [] rfl (by decide) trivial ⟨rfl, ?_, rfl, trivial⟩) ?_
  · simp only [words8, List.take_zero, List.flatMap_nil, List.append_nil]; rfl
  refine codeW_loop (fun k s => ∃ i : Nat, i + k = 4 ∧ s = ⟨[(4, .c (.p (.v (.int .i64 (i : Int))))), (3, .c (.p (.sl 1 (nums8 [th.pc] ++ nums8 [th.fuel] ++ nums8 [th.status] ++ words8 ([th.r0, th.r1, th.r2, th.r3].take i))))), (1, .c (.rp th.cells))], []⟩) (4) ⟨0, by omega, rfl⟩ ?_
  rintro k s ⟨i, hik, rfl⟩ K hK
  refine codeW_seq fun K8 hK8 => ?_
  refine codeW_seq fun K9 hK9 => codeW_reg ?_
  refine O_cons (W_it (W_mv rfl ?_))
  refine O_cons (W_it (W_lss rfl rfl ?_))
  refine O_nil (hK9 _ ?_)
  clear hK9 K9
  refine codeW_cond rfl (fun hc0 => ?_) (fun hc0 => ?_)
  · have hi : i < 4 := by have := of_decide_eq_true hc0; omega
    obtain ⟨r, hr⟩ := word_at th i hi
    refine codeW_skip ?_
    refine (hK8 _ ?_ : K8 _)
    try clear hK8 K8
    refine codeW_seq fun K10 hK10 => ?_
    refine codeW_block ?_
    refine codeW_reg ?_
    refine O_cons (W_it (W_mv rfl ?_))
    refine O_cons (W_it (W_mv rfl ?_))
    first | refine O_cons (W_it (W_fad_p rfl ?_)) | refine O_cons (W_it (W_fad_e rfl ?_)) | refine O_cons (W_it (W_fad_r rfl ?_))
    first | refine O_cons (W_it (W_ixa_e rfl rfl (by omega) (by omega) ?_)) | refine O_cons (W_it (W_ixa_p rfl rfl (by omega) (by omega) ?_)) | refine O_cons (W_it (W_ixa_r rfl rfl (by omega) (by omega) ?_))
    rw [hr]
    first | refine O_cons (W_it (W_load_p rfl rfl rfl rfl ?_)) | refine O_cons (W_it (W_load_r rfl rfl rfl ?_)) | refine O_cons (W_it (W_load_e rfl rfl rfl rfl rfl ?_))
    refine O_cons (W_it (W_callF (rword_FS _ ([th.r0, th.r1, th.r2, th.r3][i]'hi) ?_) [] rfl (by decide) trivial ?_))
    · simp only [List.length_append, List.length_take, nums8_len, words8_len, ents8_len, cells8_len, List.length_cons, List.length_nil]; omega
    rintro _ _ ⟨rfl, rfl⟩
    simp only [St.put, renAV, renAC, renReg, renAVs, setAll, upF, List.map_cons, List.map_nil, List.cons_append, List.nil_append, List.append_nil, List.set_cons_zero, List.set_cons_succ, List.length_cons, List.length_nil, Nat.reduceAdd, Nat.reduceLT, Nat.reduceSub, Nat.not_lt_zero, if_false, if_true, Nat.sub_zero, Nat.add_zero, Nat.zero_add]
    refine O_cons (W_it (W_mv rfl ?_))
    refine O_nil ?_
    refine (hK10 _ ?_ : K10 _)
    try clear hK10 K10
    refine codeW_reg ?_
    refine O_cons (W_it (W_mv rfl ?_))
    refine O_cons (W_it (W_add rfl rfl ?_))
    refine O_cons (W_it (W_mv rfl ?_))
    refine O_nil ?_
    refine hK _ ⟨k - 1, _, by omega, ?_, i + 1, by omega, rfl⟩
    refine Weak.ren [] rfl (by decide) trivial ⟨?_, ?_, rfl, trivial⟩
    · show AV.c (.p (.v (.int .i64 (IntKind.i64.wrap ((i : Int) + 1))))) = AV.c (.p (.v (.int .i64 ((i + 1 : Nat) : Int))))
      rw [wrap64_id (by omega) (by omega)]
      rfl
    · rw [List.take_succ_eq_append_getElem (l := [th.r0, th.r1, th.r2, th.r3]) hi, words8_append, ← List.append_assoc]
      rfl
  · have hi : i = 4 := by have := of_decide_eq_false hc0; omega
    subst hi
    refine codeW_exit ?_
    refine (hK6 _ ?_ : K6 _)
    try clear hK6 K6
    refine codeW_seq fun K11 hK11 => codeW_reg ?_
    refine O_cons (W_it (W_mv rfl ?_))
    first | refine O_cons (W_it (W_fad_p rfl ?_)) | refine O_cons (W_it (W_fad_e rfl ?_)) | refine O_cons (W_it (W_fad_r rfl ?_))
    first | refine O_cons (W_it (W_fad_p rfl ?_)) | refine O_cons (W_it (W_fad_e rfl ?_)) | refine O_cons (W_it (W_fad_r rfl ?_))
    first | refine O_cons (W_it (W_load_p rfl rfl rfl rfl ?_)) | refine O_cons (W_it (W_load_r rfl rfl rfl ?_)) | refine O_cons (W_it (W_load_e rfl rfl rfl rfl rfl ?_))
    refine O_cons (W_it (W_callF (rsmall_FS _ _ ?_) [] rfl (by decide) trivial ?_))
    · simp only [List.length_append, List.length_take, nums8_len, words8_len, ents8_len, cells8_len, List.length_cons, List.length_nil]; omega
    rintro _ _ ⟨rfl, rfl⟩
    simp only [St.put, renAV, renAC, renReg, renAVs, setAll, upF, List.map_cons, List.map_nil, List.cons_append, List.nil_append, List.append_nil, List.set_cons_zero, List.set_cons_succ, List.length_cons, List.length_nil, Nat.reduceAdd, Nat.reduceLT, Nat.reduceSub, Nat.not_lt_zero, if_false, if_true, Nat.sub_zero, Nat.add_zero, Nat.zero_add]
    refine O_cons (W_it (W_mv rfl ?_))
    refine O_nil (hK11 _ ?_)
    clear hK11 K11
    refine codeW_seq fun K12 hK12 => codeW_reg ?_
    refine O_cons (W_it (W_mv rfl ?_))
    first | refine O_cons (W_it (W_fad_p rfl ?_)) | refine O_cons (W_it (W_fad_e rfl ?_)) | refine O_cons (W_it (W_fad_r rfl ?_))
    first | refine O_cons (W_it (W_fad_p rfl ?_)) | refine O_cons (W_it (W_fad_e rfl ?_)) | refine O_cons (W_it (W_fad_r rfl ?_))
    first | refine O_cons (W_it (W_load_p rfl rfl rfl rfl ?_)) | refine O_cons (W_it (W_load_r rfl rfl rfl ?_)) | refine O_cons (W_it (W_load_e rfl rfl rfl rfl rfl ?_))
    refine O_cons (W_it (W_callF (rsmall_FS _ _ ?_) [] rfl (by decide) trivial ?_))
    · simp only [List.length_append, List.length_take, nums8_len, words8_len, ents8_len, cells8_len, List.length_cons, List.length_nil]; omega
    rintro _ _ ⟨rfl, rfl⟩
    simp only [St.put, renAV, renAC, renReg, renAVs, setAll, upF, List.map_cons, List.map_nil, List.cons_append, List.nil_append, List.append_nil, List.set_cons_zero, List.set_cons_succ, List.length_cons, List.length_nil, Nat.reduceAdd, Nat.reduceLT, Nat.reduceSub, Nat.not_lt_zero, if_false, if_true, Nat.sub_zero, Nat.add_zero, Nat.zero_add]
    refine O_cons (W_it (W_mv rfl ?_))
    refine O_nil (hK12 _ ?_)
    clear hK12 K12
    refine codeW_seq fun K13 hK13 => codeW_reg ?_
    refine O_cons (W_it (W_mv rfl ?_))
    first | refine O_cons (W_it (W_fad_p rfl ?_)) | refine O_cons (W_it (W_fad_e rfl ?_)) | refine O_cons (W_it (W_fad_r rfl ?_))
    first | refine O_cons (W_it (W_fad_p rfl ?_)) | refine O_cons (W_it (W_fad_e rfl ?_)) | refine O_cons (W_it (W_fad_r rfl ?_))
    first | refine O_cons (W_it (W_load_p rfl rfl rfl rfl ?_)) | refine O_cons (W_it (W_load_r rfl rfl rfl ?_)) | refine O_cons (W_it (W_load_e rfl rfl rfl rfl rfl ?_))
    refine O_cons (W_it (W_callF (rnum_FS _ _ ?_) [] rfl (by decide) trivial ?_))
    · simp only [List.length_append, List.length_take, nums8_len, words8_len, ents8_len, cells8_len, List.length_cons, List.length_nil]; omega
    rintro _ _ ⟨rfl, rfl⟩
    simp only [St.put, renAV, renAC, renReg, renAVs, setAll, upF, List.map_cons, List.map_nil, List.cons_append, List.nil_append, List.append_nil, List.set_cons_zero, List.set_cons_succ, List.length_cons, List.length_nil, Nat.reduceAdd, Nat.reduceLT, Nat.reduceSub, Nat.not_lt_zero, if_false, if_true, Nat.sub_zero, Nat.add_zero, Nat.zero_add]
    refine O_cons (W_it (W_mv rfl ?_))
    refine O_nil (hK13 _ ?_)
    clear hK13 K13
    refine codeW_seq fun K14 hK14 => codeW_reg ?_
    refine O_cons (W_it (W_mv rfl ?_))
    first | refine O_cons (W_it (W_fad_p rfl ?_)) | refine O_cons (W_it (W_fad_e rfl ?_)) | refine O_cons (W_it (W_fad_r rfl ?_))
    first | refine O_cons (W_it (W_fad_p rfl ?_)) | refine O_cons (W_it (W_fad_e rfl ?_)) | refine O_cons (W_it (W_fad_r rfl ?_))
    first | refine O_cons (W_it (W_load_p rfl rfl rfl rfl ?_)) | refine O_cons (W_it (W_load_r rfl rfl rfl ?_)) | refine O_cons (W_it (W_load_e rfl rfl rfl rfl rfl ?_))
    refine O_cons (W_it (W_callF (rnums_FS _ _ ?_) [] rfl (by decide) trivial ?_))
    · simp only [List.length_append, List.length_take, nums8_len, words8_len, ents8_len, cells8_len, List.length_cons, List.length_nil]; omega
    rintro _ _ ⟨rfl, rfl⟩
    simp only [St.put, renAV, renAC, renReg, renAVs, setAll, upF, List.map_cons, List.map_nil, List.cons_append, List.nil_append, List.append_nil, List.set_cons_zero, List.set_cons_succ, List.length_cons, List.length_nil, Nat.reduceAdd, Nat.reduceLT, Nat.reduceSub, Nat.not_lt_zero, if_false, if_true, Nat.sub_zero, Nat.add_zero, Nat.zero_add]
    refine O_cons (W_it (W_mv rfl ?_))
    refine O_nil (hK14 _ ?_)
    clear hK14 K14
    refine codeW_seq fun K15 hK15 => codeW_reg ?_
    refine O_cons (W_it (W_mv rfl ?_))
    first | refine O_cons (W_it (W_fad_p rfl ?_)) | refine O_cons (W_it (W_fad_e rfl ?_)) | refine O_cons (W_it (W_fad_r rfl ?_))
    first | refine O_cons (W_it (W_load_p rfl rfl rfl rfl ?_)) | refine O_cons (W_it (W_load_r rfl rfl rfl ?_)) | refine O_cons (W_it (W_load_e rfl rfl rfl rfl rfl ?_))
    refine O_cons (W_it (W_len rfl ?_))
    rw [words_len]
    refine O_cons (W_it (W_callF (rsmall_FS _ _ ?_) [] rfl (by decide) trivial ?_))
    · simp only [List.length_append, List.length_take, nums8_len, words8_len, ents8_len, cells8_len, List.length_cons, List.length_nil]; omega
    rintro _ _ ⟨rfl, rfl⟩
    simp only [St.put, renAV, renAC, renReg, renAVs, setAll, upF, List.map_cons, List.map_nil, List.cons_append, List.nil_append, List.append_nil, List.set_cons_zero, List.set_cons_succ, List.length_cons, List.length_nil, Nat.reduceAdd, Nat.reduceLT, Nat.reduceSub, Nat.not_lt_zero, if_false, if_true, Nat.sub_zero, Nat.add_zero, Nat.zero_add]
    refine O_cons (W_it (W_mv rfl ?_))
    refine O_nil (hK15 _ ?_)
    clear hK15 K15
    refine codeW_seq fun K16 hK16 => ?_
    refine codeW_seq fun K17 hK17 => codeW_reg ?_
    refine O_cons (W_it (W_mv rfl ?_))
    refine O_nil (hK17 _ ?_)
    clear hK17 K17
    refine codeW_block ?_
    refine codeW_weak (s' := ⟨[(5, .c (.p (.v (.int .i64 ((0 : Nat) : Int))))), (3, .c (.p (.sl 1 (nums8 [th.pc] ++ nums8 [th.fuel] ++ nums8 [th.status] ++ words8 [th.r0, th.r1, th.r2, th.r3] ++ nums8 [th.kind] ++ nums8 [th.i] ++ nums8 [th.n] ++ nums8 [(th.seen.length : Int)] ++ nums8 th.seen ++ nums8 [(th.bag.length : Int)] ++ words8 (th.bag.take 0))))), (1, .c (.rp th.cells))], []⟩) (Weak.ren [] rfl (by decide) trivial ⟨rfl, ?_, rfl, trivial⟩) ?_
    · simp only [words8, List.take_zero, List.flatMap_nil, List.append_nil]; rfl
    refine codeW_loop (fun k s => ∃ i : Nat, i + k = th.bag.length ∧ s = ⟨[(5, .c (.p (.v (.int .i64 (i : Int))))), (3, .c (.p (.sl 1 (nums8 [th.pc] ++ nums8 [th.fuel] ++ nums8 [th.status] ++ words8 [th.r0, th.r1, th.r2, th.r3] ++ nums8 [th.kind] ++ nums8 [th.i] ++ nums8 [th.n] ++ nums8 [(th.seen.length : Int)] ++ nums8 th.seen ++ nums8 [(th.bag.length : Int)] ++ words8 (th.bag.take i))))), (1, .c (.rp th.cells))], []⟩) (th.bag.length) ⟨0, by omega, rfl⟩ ?_
    rintro k s ⟨i, hik, rfl⟩ K hK
    refine codeW_seq fun K18 hK18 => ?_
    refine codeW_seq fun K19 hK19 => codeW_reg ?_
    refine O_cons (W_it (W_mv rfl ?_))
    first | refine O_cons (W_it (W_fad_p rfl ?_)) | refine O_cons (W_it (W_fad_e rfl ?_)) | refine O_cons (W_it (W_fad_r rfl ?_))
    first | refine O_cons (W_it (W_load_p rfl rfl rfl rfl ?_)) | refine O_cons (W_it (W_load_r rfl rfl rfl ?_)) | refine O_cons (W_it (W_load_e rfl rfl rfl rfl rfl ?_))
    refine O_cons (W_it (W_len rfl ?_))
    rw [words_len]
    refine O_cons (W_it (W_lss rfl rfl ?_))
    refine O_nil (hK19 _ ?_)
    clear hK19 K19
    refine codeW_cond rfl (fun hc1 => ?_) (fun hc1 => ?_)
    · have hi : i < th.bag.length := by have := of_decide_eq_true hc1; omega
      refine codeW_skip ?_
      refine (hK18 _ ?_ : K18 _)
      try clear hK18 K18
      refine codeW_seq fun K20 hK20 => ?_
      refine codeW_block ?_
      refine codeW_seq fun K21 hK21 => codeW_reg ?_
      refine O_cons (W_it (W_mv rfl ?_))
      first | refine O_cons (W_it (W_fad_p rfl ?_)) | refine O_cons (W_it (W_fad_e rfl ?_)) | refine O_cons (W_it (W_fad_r rfl ?_))
      first | refine O_cons (W_it (W_load_p rfl rfl rfl rfl ?_)) | refine O_cons (W_it (W_load_r rfl rfl rfl ?_)) | refine O_cons (W_it (W_load_e rfl rfl rfl rfl rfl ?_))
      refine O_cons (W_it (W_mv rfl ?_))
      first | refine O_cons (W_it (W_ixs_s rfl rfl (by omega) (words_geti (i := i) hi) ?_)) | refine O_cons (W_it (W_ixs_o rfl rfl (by omega) (by omega) ?_))
      first | refine O_cons (W_it (W_fad_p rfl ?_)) | refine O_cons (W_it (W_fad_e rfl ?_)) | refine O_cons (W_it (W_fad_r rfl ?_))
      first | refine O_cons (W_it (W_load_p rfl rfl rfl rfl ?_)) | refine O_cons (W_it (W_load_r rfl rfl rfl ?_)) | refine O_cons (W_it (W_load_e rfl rfl rfl rfl rfl ?_))
      refine O_cons (W_it (W_callF (rsmall_FS _ _ ?_) [] rfl (by decide) trivial ?_))
      · simp only [List.length_append, List.length_take, nums8_len, words8_len, ents8_len, cells8_len, List.length_cons, List.length_nil]; omega
      rintro _ _ ⟨rfl, rfl⟩
      simp only [St.put, renAV, renAC, renReg, renAVs, setAll, upF, List.map_cons, List.map_nil, List.cons_append, List.nil_append, List.append_nil, List.set_cons_zero, List.set_cons_succ, List.length_cons, List.length_nil, Nat.reduceAdd, Nat.reduceLT, Nat.reduceSub, Nat.not_lt_zero, if_false, if_true, Nat.sub_zero, Nat.add_zero, Nat.zero_add]
      refine O_cons (W_it (W_mv rfl ?_))
      refine O_nil (hK21 _ ?_)
      clear hK21 K21
      refine codeW_seq fun K22 hK22 => codeW_reg ?_
      refine O_cons (W_it (W_mv rfl ?_))
      first | refine O_cons (W_it (W_fad_p rfl ?_)) | refine O_cons (W_it (W_fad_e rfl ?_)) | refine O_cons (W_it (W_fad_r rfl ?_))
      first | refine O_cons (W_it (W_load_p rfl rfl rfl rfl ?_)) | refine O_cons (W_it (W_load_r rfl rfl rfl ?_)) | refine O_cons (W_it (W_load_e rfl rfl rfl rfl rfl ?_))
      refine O_cons (W_it (W_mv rfl ?_))
      first | refine O_cons (W_it (W_ixs_s rfl rfl (by omega) (words_geti (i := i) hi) ?_)) | refine O_cons (W_it (W_ixs_o rfl rfl (by omega) (by omega) ?_))
      first | refine O_cons (W_it (W_fad_p rfl ?_)) | refine O_cons (W_it (W_fad_e rfl ?_)) | refine O_cons (W_it (W_fad_r rfl ?_))
      first | refine O_cons (W_it (W_load_p rfl rfl rfl rfl ?_)) | refine O_cons (W_it (W_load_r rfl rfl rfl ?_)) | refine O_cons (W_it (W_load_e rfl rfl rfl rfl rfl ?_))
      refine O_cons (W_it (W_callF (rsmall_FS _ _ ?_) [] rfl (by decide) trivial ?_))
      · simp only [List.length_append, List.length_take, nums8_len, words8_len, ents8_len, cells8_len, List.length_cons, List.length_nil]; omega
      rintro _ _ ⟨rfl, rfl⟩
      simp only [St.put, renAV, renAC, renReg, renAVs, setAll, upF, List.map_cons, List.map_nil, List.cons_append, List.nil_append, List.append_nil, List.set_cons_zero, List.set_cons_succ, List.length_cons, List.length_nil, Nat.reduceAdd, Nat.reduceLT, Nat.reduceSub, Nat.not_lt_zero, if_false, if_true, Nat.sub_zero, Nat.add_zero, Nat.zero_add]
      refine O_cons (W_it (W_mv rfl ?_))
      refine O_nil (hK22 _ ?_)
      clear hK22 K22
      refine codeW_reg ?_
      refine O_cons (W_it (W_mv rfl ?_))
      first | refine O_cons (W_it (W_fad_p rfl ?_)) | refine O_cons (W_it (W_fad_e rfl ?_)) | refine O_cons (W_it (W_fad_r rfl ?_))
      first | refine O_cons (W_it (W_load_p rfl rfl rfl rfl ?_)) | refine O_cons (W_it (W_load_r rfl rfl rfl ?_)) | refine O_cons (W_it (W_load_e rfl rfl rfl rfl rfl ?_))
      refine O_cons (W_it (W_mv rfl ?_))
      first | refine O_cons (W_it (W_ixs_s rfl rfl (by omega) (words_geti (i := i) hi) ?_)) | refine O_cons (W_it (W_ixs_o rfl rfl (by omega) (by omega) ?_))
      first | refine O_cons (W_it (W_fad_p rfl ?_)) | refine O_cons (W_it (W_fad_e rfl ?_)) | refine O_cons (W_it (W_fad_r rfl ?_))
      first | refine O_cons (W_it (W_load_p rfl rfl rfl rfl ?_)) | refine O_cons (W_it (W_load_r rfl rfl rfl ?_)) | refine O_cons (W_it (W_load_e rfl rfl rfl rfl rfl ?_))
      refine O_cons (W_it (W_callF (rnum_FS _ _ ?_) [] rfl (by decide) trivial ?_))
      · simp only [List.length_append, List.length_take, nums8_len, words8_len, ents8_len, cells8_len, List.length_cons, List.length_nil]; omega
      rintro _ _ ⟨rfl, rfl⟩
      simp only [St.put, renAV, renAC, renReg, renAVs, setAll, upF, List.map_cons, List.map_nil, List.cons_append, List.nil_append, List.append_nil, List.set_cons_zero, List.set_cons_succ, List.length_cons, List.length_nil, Nat.reduceAdd, Nat.reduceLT, Nat.reduceSub, Nat.not_lt_zero, if_false, if_true, Nat.sub_zero, Nat.add_zero, Nat.zero_add]
      refine O_cons (W_it (W_mv rfl ?_))
      refine O_nil ?_
      refine (hK20 _ ?_ : K20 _)
      try clear hK20 K20
      refine codeW_reg ?_
      refine O_cons (W_it (W_mv rfl ?_))
      refine O_cons (W_it (W_add rfl rfl ?_))
      refine O_cons (W_it (W_mv rfl ?_))
      refine O_nil ?_
      refine hK _ ⟨k - 1, _, by omega, ?_, i + 1, by omega, rfl⟩
      refine Weak.ren [] rfl (by decide) trivial ⟨?_, ?_, rfl, trivial⟩
      · show AV.c (.p (.v (.int .i64 (IntKind.i64.wrap ((i : Int) + 1))))) = AV.c (.p (.v (.int .i64 ((i + 1 : Nat) : Int))))
        rw [wrap64_id (by omega) (by omega)]
        rfl
      · rw [List.take_succ_eq_append_getElem hi, words8_append, words8_one, show nums8 [(th.bag[i]'hi).2.1, (th.bag[i]'hi).2.2] = nums8 [(th.bag[i]'hi).2.1] ++ nums8 [(th.bag[i]'hi).2.2] from nums8_append [_] [_], ← List.append_assoc, ← List.append_assoc, ← List.append_assoc]
        rfl
    · have hi : i = th.bag.length := by have := of_decide_eq_false hc1; omega
      subst hi
      rw [List.take_length]
      refine codeW_exit ?_
      refine (hK16 _ ?_ : K16 _)
      try clear hK16 K16
      refine codeW_seq fun K23 hK23 => codeW_reg ?_
      refine O_cons (W_it (W_mv rfl ?_))
      first | refine O_cons (W_it (W_fad_p rfl ?_)) | refine O_cons (W_it (W_fad_e rfl ?_)) | refine O_cons (W_it (W_fad_r rfl ?_))
      first | refine O_cons (W_it (W_load_p rfl rfl rfl rfl ?_)) | refine O_cons (W_it (W_load_r rfl rfl rfl ?_)) | refine O_cons (W_it (W_load_e rfl rfl rfl rfl rfl ?_))
      refine O_cons (W_it (W_callF (rnums_FS _ _ ?_) [] rfl (by decide) trivial ?_))
      · simp only [List.length_append, List.length_take, nums8_len, words8_len, ents8_len, cells8_len, List.length_cons, List.length_nil]; omega
      rintro _ _ ⟨rfl, rfl⟩
      simp only [St.put, renAV, renAC, renReg, renAVs, setAll, upF, List.map_cons, List.map_nil, List.cons_append, List.nil_append, List.append_nil, List.set_cons_zero, List.set_cons_succ, List.length_cons, List.length_nil, Nat.reduceAdd, Nat.reduceLT, Nat.reduceSub, Nat.not_lt_zero, if_false, if_true, Nat.sub_zero, Nat.add_zero, Nat.zero_add]
      refine O_cons (W_it (W_mv rfl ?_))
      refine O_nil (hK23 _ ?_)
      clear hK23 K23
      refine codeW_seq fun K24 hK24 => codeW_reg ?_
      refine O_cons (W_it (W_mv rfl ?_))
      first | refine O_cons (W_it (W_fad_p rfl ?_)) | refine O_cons (W_it (W_fad_e rfl ?_)) | refine O_cons (W_it (W_fad_r rfl ?_))
      first | refine O_cons (W_it (W_load_p rfl rfl rfl rfl ?_)) | refine O_cons (W_it (W_load_r rfl rfl rfl ?_)) | refine O_cons (W_it (W_load_e rfl rfl rfl rfl rfl ?_))
      refine O_cons (W_it (W_callF (rsmall_FS _ _ ?_) [] rfl (by decide) trivial ?_))
      · simp only [List.length_append, List.length_take, nums8_len, words8_len, ents8_len, cells8_len, List.length_cons, List.length_nil]; omega
      rintro _ _ ⟨rfl, rfl⟩
      simp only [St.put, renAV, renAC, renReg, renAVs, setAll, upF, List.map_cons, List.map_nil, List.cons_append, List.nil_append, List.append_nil, List.set_cons_zero, List.set_cons_succ, List.length_cons, List.length_nil, Nat.reduceAdd, Nat.reduceLT, Nat.reduceSub, Nat.not_lt_zero, if_false, if_true, Nat.sub_zero, Nat.add_zero, Nat.zero_add]
      refine O_cons (W_it (W_mv rfl ?_))
      refine O_nil (hK24 _ ?_)
      clear hK24 K24
      refine codeW_ret (Fin.weak (.inr rfl) (s1 := ⟨[(2, .c (.p (.sl 1 th.octets)))], []⟩) (Weak.ren [] rfl (by decide) trivial ⟨?_, trivial⟩) ⟨rfl, rfl⟩)
      rw [Thr.octets]
      simp only [nums8, words8, List.flatMap_cons, List.flatMap_nil, List.append_assoc, List.append_nil, List.nil_append]
      rfl

def ac18 : ACode := (.seq (.reg [⟨none, (some 2), (.mv (some 2) (.k (.slice none 0 0)))⟩]) (.seq (.reg [⟨none, (some 3), (.mv (some 3) (.k (.slice none 0 0)))⟩]) (.seq (.reg [⟨none, (some 5), (.mv (some 5) (.t 3))⟩, ⟨none, (some 6), (.mv (some 6) (.t 0))⟩, ⟨none, (some 7), (.len (some 7) (.t 6))⟩, ⟨none, (some 8), (.call (some 8) 35 [(.t 5), (.t 7)])⟩, ⟨none, (some 3), (.mv (some 3) (.t 8))⟩]) (.seq (.seq (.reg [⟨none, (some 4), (.mv (some 4) (.k (.int .i64 0)))⟩]) (.block 0 (.loop (.seq (.seq (.reg [⟨none, (some 9), (.mv (some 9) (.t 4))⟩, ⟨none, (some 10), (.mv (some 10) (.t 0))⟩, ⟨none, (some 11), (.len (some 11) (.t 10))⟩, ⟨none, (some 12), (.bin (some 12) .lss (.t 9) (.t 11))⟩]) (.cond (.t 12) .skip (.exit 0))) (.seq (.block 1 (.seq (.reg [⟨none, (some 15), (.mv (some 15) (.t 3))⟩, ⟨none, (some 16), (.mv (some 16) (.t 0))⟩, ⟨none, (some 17), (.mv (some 17) (.t 4))⟩, ⟨none, (some 18), (.ixs (some 18) 8 (.t 16) (.t 17))⟩, ⟨none, (some 19), (.fad (some 19) 0 (.t 18))⟩, ⟨none, (some 20), (.fad (some 20) 0 (.t 19))⟩, ⟨none, (some 21), (.load (some 21) 1 false (.t 20))⟩, ⟨none, (some 22), (.call (some 22) 35 [(.t 15), (.t 21)])⟩, ⟨none, (some 3), (.mv (some 3) (.t 22))⟩]) (.seq (.reg [⟨none, (some 23), (.mv (some 23) (.t 3))⟩, ⟨none, (some 24), (.mv (some 24) (.t 0))⟩, ⟨none, (some 25), (.mv (some 25) (.t 4))⟩, ⟨none, (some 26), (.ixs (some 26) 8 (.t 24) (.t 25))⟩, ⟨none, (some 27), (.fad (some 27) 0 (.t 26))⟩, ⟨none, (some 28), (.fad (some 28) 1 (.t 27))⟩, ⟨none, (some 29), (.load (some 29) 1 false (.t 28))⟩, ⟨none, (some 30), (.call (some 30) 35 [(.t 23), (.t 29)])⟩, ⟨none, (some 3), (.mv (some 3) (.t 30))⟩]) (.seq (.reg [⟨none, (some 31), (.mv (some 31) (.t 3))⟩, ⟨none, (some 32), (.mv (some 32) (.t 0))⟩, ⟨none, (some 33), (.mv (some 33) (.t 4))⟩, ⟨none, (some 34), (.ixs (some 34) 8 (.t 32) (.t 33))⟩, ⟨none, (some 35), (.fad (some 35) 0 (.t 34))⟩, ⟨none, (some 36), (.fad (some 36) 2 (.t 35))⟩, ⟨none, (some 37), (.load (some 37) 1 false (.t 36))⟩, ⟨none, (some 38), (.call (some 38) 35 [(.t 31), (.t 37)])⟩, ⟨none, (some 3), (.mv (some 3) (.t 38))⟩]) (.seq (.reg [⟨none, (some 39), (.mv (some 39) (.t 3))⟩, ⟨none, (some 40), (.mv (some 40) (.t 0))⟩, ⟨none, (some 41), (.mv (some 41) (.t 4))⟩, ⟨none, (some 42), (.ixs (some 42) 8 (.t 40) (.t 41))⟩, ⟨none, (some 43), (.fad (some 43) 3 (.t 42))⟩, ⟨none, (some 44), (.load (some 44) 3 true (.t 43))⟩, ⟨none, (some 45), (.call (some 45) 36 [(.t 39), (.t 44)])⟩, ⟨none, (some 3), (.mv (some 3) (.t 45))⟩]) (.seq (.reg [⟨none, (some 46), (.mv (some 46) (.t 3))⟩, ⟨none, (some 47), (.mv (some 47) (.t 0))⟩, ⟨none, (some 48), (.mv (some 48) (.t 4))⟩, ⟨none, (some 49), (.ixs (some 49) 8 (.t 47) (.t 48))⟩, ⟨none, (some 50), (.fad (some 50) 6 (.t 49))⟩, ⟨none, (some 51), (.load (some 51) 1 false (.t 50))⟩, ⟨none, (some 52), (.call (some 52) 35 [(.t 46), (.t 51)])⟩, ⟨none, (some 3), (.mv (some 3) (.t 52))⟩]) (.reg [⟨none, (some 53), (.mv (some 53) (.t 3))⟩, ⟨none, (some 54), (.mv (some 54) (.t 0))⟩, ⟨none, (some 55), (.mv (some 55) (.t 4))⟩, ⟨none, (some 56), (.ixs (some 56) 8 (.t 54) (.t 55))⟩, ⟨none, (some 57), (.fad (some 57) 7 (.t 56))⟩, ⟨none, (some 58), (.load (some 58) 1 false (.t 57))⟩, ⟨none, (some 59), (.call (some 59) 35 [(.t 53), (.t 58)])⟩, ⟨none, (some 3), (.mv (some 3) (.t 59))⟩]))))))) (.reg [⟨none, (some 13), (.mv (some 13) (.t 4))⟩, ⟨none, (some 14), (.bin (some 14) .add (.t 13) (.k (.int .i64 1)))⟩, ⟨none, (some 4), (.mv (some 4) (.t 14))⟩])))))) (.seq (.reg [⟨none, (some 60), (.mv (some 60) (.t 3))⟩, ⟨none, (some 2), (.mv (some 2) (.t 60))⟩]) .ret)))))
theorem tr18 : ((Try.f18.name == "runtime.NumGoroutine") = false ∧ Try.f18.results = ([2].map ResultVar.tmp).toArray) ∧ Try.f18.ntmps = 61 ∧ (Try.f18.body.bind (trCode Try.prog Try.f18.ntmps)) = some ac18 := ⟨⟨by kernel_rfl, by kernel_rfl⟩, by kernel_rfl, by kernel_rfl⟩


theorem rbuffer_FS (ws : List Ent) (hb : 64 * ws.length + 8 ≤ 1000000000) :
    FS Try.prog 18 [.c (.p (.sl 8 (ents ws)))] [] fun res rg => res = .c (.p (.sl 1 (bufOctets ws))) ∧ rg = [] := by
  refine FS_def [2] 61 Try.func18 tr18 rfl ?_
  unfold ac18
  refine codeW_seq fun K1 hK1 => codeW_reg ?_
  refine O_cons (W_it (W_mv rfl ?_))
  refine O_nil (hK1 _ ?_)
  clear hK1 K1
  refine codeW_seq fun K2 hK2 => codeW_reg ?_
  refine O_cons (W_it (W_mv rfl ?_))
  refine O_nil (hK2 _ ?_)
  clear hK2 K2
  refine codeW_weak (s' := ⟨[(3, .c (.p (.sl 1 []))), (0, .c (.p (.sl 8 (ents ws))))], []⟩) (Weak.imp ⟨.inr (.inl ⟨1, by decide, rfl, rfl⟩), .inl rfl, trivial⟩ trivial) ?_
  refine codeW_seq fun K3 hK3 => codeW_reg ?_
  refine O_cons (W_it (W_mv rfl ?_))
  refine O_cons (W_it (W_mv rfl ?_))
  refine O_cons (W_it (W_len rfl ?_))
  rw [ents_len]
  refine O_cons (W_it (W_callF (rsmall_FS _ _ ?_) [] rfl (by decide) trivial ?_))
  · simp only [List.length_append, List.length_take, nums8_len, words8_len, ents8_len, cells8_len, List.length_cons, List.length_nil]; omega
  rintro _ _ ⟨rfl, rfl⟩
  simp only [St.put, renAV, renAC, renReg, renAVs, setAll, upF, List.map_cons, List.map_nil, List.cons_append, List.nil_append, List.append_nil, List.set_cons_zero, List.set_cons_succ, List.length_cons, List.length_nil, Nat.reduceAdd, Nat.reduceLT, Nat.reduceSub, Nat.not_lt_zero, if_false, if_true, Nat.sub_zero, Nat.add_zero, Nat.zero_add]
  refine O_cons (W_it (W_mv rfl ?_))
  refine O_nil (hK3 _ ?_)
  clear hK3 K3
  refine codeW_seq fun K4 hK4 => ?_
  refine codeW_seq fun K5 hK5 => codeW_reg ?_
  refine O_cons (W_it (W_mv rfl ?_))
  refine O_nil (hK5 _ ?_)
  clear hK5 K5
  refine codeW_block ?_
  refine codeW_weak (s' := ⟨[(4, .c (.p (.v (.int .i64 ((0 : Nat) : Int))))), (3, .c (.p (.sl 1 (nums8 [(ws.length : Int)] ++ ents8 (ws.take 0))))), (0, .c (.p (.sl 8 (ents ws))))], []⟩) (Weak.ren [] rfl (by decide) trivial ⟨rfl, ?_, rfl, trivial⟩) ?_
  · simp only [ents8, List.take_zero, List.flatMap_nil, List.append_nil]; rfl
  refine codeW_loop (fun k s => ∃ i : Nat, i + k = ws.length ∧ s = ⟨[(4, .c (.p (.v (.int .i64 (i : Int))))), (3, .c (.p (.sl 1 (nums8 [(ws.length : Int)] ++ ents8 (ws.take i))))), (0, .c (.p (.sl 8 (ents ws))))], []⟩) (ws.length) ⟨0, by omega, rfl⟩ ?_
  rintro k s ⟨i, hik, rfl⟩ K hK
  refine codeW_seq fun K6 hK6 => ?_
  refine codeW_seq fun K7 hK7 => codeW_reg ?_
  refine O_cons (W_it (W_mv rfl ?_))
  refine O_cons (W_it (W_mv rfl ?_))
  refine O_cons (W_it (W_len rfl ?_))
  rw [ents_len]
  refine O_cons (W_it (W_lss rfl rfl ?_))
  refine O_nil (hK7 _ ?_)
  clear hK7 K7
  refine codeW_cond rfl (fun hc0 => ?_) (fun hc0 => ?_)
  · have hi : i < ws.length := by have := of_decide_eq_true hc0; omega
    refine codeW_skip ?_
    refine (hK6 _ ?_ : K6 _)
    try clear hK6 K6
    refine codeW_seq fun K8 hK8 => ?_
    refine codeW_block ?_
    refine codeW_seq fun K9 hK9 => codeW_reg ?_
    refine O_cons (W_it (W_mv rfl ?_))
    refine O_cons (W_it (W_mv rfl ?_))
    refine O_cons (W_it (W_mv rfl ?_))
    first | refine O_cons (W_it (W_ixs_s rfl rfl (by omega) (ents_geti (i := i) hi) ?_)) | refine O_cons (W_it (W_ixs_o rfl rfl (by omega) (by omega) ?_))
    first | refine O_cons (W_it (W_fad_p rfl ?_)) | refine O_cons (W_it (W_fad_e rfl ?_)) | refine O_cons (W_it (W_fad_r rfl ?_))
    first | refine O_cons (W_it (W_fad_p rfl ?_)) | refine O_cons (W_it (W_fad_e rfl ?_)) | refine O_cons (W_it (W_fad_r rfl ?_))
    first | refine O_cons (W_it (W_load_p rfl rfl rfl rfl ?_)) | refine O_cons (W_it (W_load_r rfl rfl rfl ?_)) | refine O_cons (W_it (W_load_e rfl rfl rfl rfl rfl ?_))
    refine O_cons (W_it (W_callF (rsmall_FS _ _ ?_) [] rfl (by decide) trivial ?_))
    · simp only [List.length_append, List.length_take, nums8_len, words8_len, ents8_len, cells8_len, List.length_cons, List.length_nil]; omega
    rintro _ _ ⟨rfl, rfl⟩
    simp only [St.put, renAV, renAC, renReg, renAVs, setAll, upF, List.map_cons, List.map_nil, List.cons_append, List.nil_append, List.append_nil, List.set_cons_zero, List.set_cons_succ, List.length_cons, List.length_nil, Nat.reduceAdd, Nat.reduceLT, Nat.reduceSub, Nat.not_lt_zero, if_false, if_true, Nat.sub_zero, Nat.add_zero, Nat.zero_add]
    refine O_cons (W_it (W_mv rfl ?_))
    refine O_nil (hK9 _ ?_)
    clear hK9 K9
    refine codeW_seq fun K10 hK10 => codeW_reg ?_
    refine O_cons (W_it (W_mv rfl ?_))
    refine O_cons (W_it (W_mv rfl ?_))
    refine O_cons (W_it (W_mv rfl ?_))
    first | refine O_cons (W_it (W_ixs_s rfl rfl (by omega) (ents_geti (i := i) hi) ?_)) | refine O_cons (W_it (W_ixs_o rfl rfl (by omega) (by omega) ?_))
    first | refine O_cons (W_it (W_fad_p rfl ?_)) | refine O_cons (W_it (W_fad_e rfl ?_)) | refine O_cons (W_it (W_fad_r rfl ?_))
    first | refine O_cons (W_it (W_fad_p rfl ?_)) | refine O_cons (W_it (W_fad_e rfl ?_)) | refine O_cons (W_it (W_fad_r rfl ?_))
    first | refine O_cons (W_it (W_load_p rfl rfl rfl rfl ?_)) | refine O_cons (W_it (W_load_r rfl rfl rfl ?_)) | refine O_cons (W_it (W_load_e rfl rfl rfl rfl rfl ?_))
    refine O_cons (W_it (W_callF (rsmall_FS _ _ ?_) [] rfl (by decide) trivial ?_))
    · simp only [List.length_append, List.length_take, nums8_len, words8_len, ents8_len, cells8_len, List.length_cons, List.length_nil]; omega
    rintro _ _ ⟨rfl, rfl⟩
    simp only [St.put, renAV, renAC, renReg, renAVs, setAll, upF, List.map_cons, List.map_nil, List.cons_append, List.nil_append, List.append_nil, List.set_cons_zero, List.set_cons_succ, List.length_cons, List.length_nil, Nat.reduceAdd, Nat.reduceLT, Nat.reduceSub, Nat.not_lt_zero, if_false, if_true, Nat.sub_zero, Nat.add_zero, Nat.zero_add]
    refine O_cons (W_it (W_mv rfl ?_))
    refine O_nil (hK10 _ ?_)
    clear hK10 K10
    refine codeW_seq fun K11 hK11 => codeW_reg ?_
    refine O_cons (W_it (W_mv rfl ?_))
    refine O_cons (W_it (W_mv rfl ?_))
    refine O_cons (W_it (W_mv rfl ?_))
    first | refine O_cons (W_it (W_ixs_s rfl rfl (by omega) (ents_geti (i := i) hi) ?_)) | refine O_cons (W_it (W_ixs_o rfl rfl (by omega) (by omega) ?_))
    first | refine O_cons (W_it (W_fad_p rfl ?_)) | refine O_cons (W_it (W_fad_e rfl ?_)) | refine O_cons (W_it (W_fad_r rfl ?_))
    first | refine O_cons (W_it (W_fad_p rfl ?_)) | refine O_cons (W_it (W_fad_e rfl ?_)) | refine O_cons (W_it (W_fad_r rfl ?_))
    first | refine O_cons (W_it (W_load_p rfl rfl rfl rfl ?_)) | refine O_cons (W_it (W_load_r rfl rfl rfl ?_)) | refine O_cons (W_it (W_load_e rfl rfl rfl rfl rfl ?_))
    refine O_cons (W_it (W_callF (rsmall_FS _ _ ?_) [] rfl (by decide) trivial ?_))
    · simp only [List.length_append, List.length_take, nums8_len, words8_len, ents8_len, cells8_len, List.length_cons, List.length_nil]; omega
    rintro _ _ ⟨rfl, rfl⟩
    simp only [St.put, renAV, renAC, renReg, renAVs, setAll, upF, List.map_cons, List.map_nil, List.cons_append, List.nil_append, List.append_nil, List.set_cons_zero, List.set_cons_succ, List.length_cons, List.length_nil, Nat.reduceAdd, Nat.reduceLT, Nat.reduceSub, Nat.not_lt_zero, if_false, if_true, Nat.sub_zero, Nat.add_zero, Nat.zero_add]
    refine O_cons (W_it (W_mv rfl ?_))
    refine O_nil (hK11 _ ?_)
    clear hK11 K11
    refine codeW_seq fun K12 hK12 => codeW_reg ?_
    refine O_cons (W_it (W_mv rfl ?_))
    refine O_cons (W_it (W_mv rfl ?_))
    refine O_cons (W_it (W_mv rfl ?_))
    first | refine O_cons (W_it (W_ixs_s rfl rfl (by omega) (ents_geti (i := i) hi) ?_)) | refine O_cons (W_it (W_ixs_o rfl rfl (by omega) (by omega) ?_))
    first | refine O_cons (W_it (W_fad_p rfl ?_)) | refine O_cons (W_it (W_fad_e rfl ?_)) | refine O_cons (W_it (W_fad_r rfl ?_))
    first | refine O_cons (W_it (W_load_p rfl rfl rfl rfl ?_)) | refine O_cons (W_it (W_load_r rfl rfl rfl ?_)) | refine O_cons (W_it (W_load_e rfl rfl rfl rfl rfl ?_))
    refine O_cons (W_it (W_callF (rword_FS _ (ws[i]'hi).2.1 ?_) [] rfl (by decide) trivial ?_))
    · simp only [List.length_append, List.length_take, nums8_len, words8_len, ents8_len, cells8_len, List.length_cons, List.length_nil]; omega
    rintro _ _ ⟨rfl, rfl⟩
    simp only [St.put, renAV, renAC, renReg, renAVs, setAll, upF, List.map_cons, List.map_nil, List.cons_append, List.nil_append, List.append_nil, List.set_cons_zero, List.set_cons_succ, List.length_cons, List.length_nil, Nat.reduceAdd, Nat.reduceLT, Nat.reduceSub, Nat.not_lt_zero, if_false, if_true, Nat.sub_zero, Nat.add_zero, Nat.zero_add]
    refine O_cons (W_it (W_mv rfl ?_))
    refine O_nil (hK12 _ ?_)
    clear hK12 K12
    refine codeW_seq fun K13 hK13 => codeW_reg ?_
    refine O_cons (W_it (W_mv rfl ?_))
    refine O_cons (W_it (W_mv rfl ?_))
    refine O_cons (W_it (W_mv rfl ?_))
    first | refine O_cons (W_it (W_ixs_s rfl rfl (by omega) (ents_geti (i := i) hi) ?_)) | refine O_cons (W_it (W_ixs_o rfl rfl (by omega) (by omega) ?_))
    first | refine O_cons (W_it (W_fad_p rfl ?_)) | refine O_cons (W_it (W_fad_e rfl ?_)) | refine O_cons (W_it (W_fad_r rfl ?_))
    first | refine O_cons (W_it (W_load_p rfl rfl rfl rfl ?_)) | refine O_cons (W_it (W_load_r rfl rfl rfl ?_)) | refine O_cons (W_it (W_load_e rfl rfl rfl rfl rfl ?_))
    refine O_cons (W_it (W_callF (rsmall_FS _ _ ?_) [] rfl (by decide) trivial ?_))
    · simp only [List.length_append, List.length_take, nums8_len, words8_len, ents8_len, cells8_len, List.length_cons, List.length_nil]; omega
    rintro _ _ ⟨rfl, rfl⟩
    simp only [St.put, renAV, renAC, renReg, renAVs, setAll, upF, List.map_cons, List.map_nil, List.cons_append, List.nil_append, List.append_nil, List.set_cons_zero, List.set_cons_succ, List.length_cons, List.length_nil, Nat.reduceAdd, Nat.reduceLT, Nat.reduceSub, Nat.not_lt_zero, if_false, if_true, Nat.sub_zero, Nat.add_zero, Nat.zero_add]
    refine O_cons (W_it (W_mv rfl ?_))
    refine O_nil (hK13 _ ?_)
    clear hK13 K13
    refine codeW_reg ?_
    refine O_cons (W_it (W_mv rfl ?_))
    refine O_cons (W_it (W_mv rfl ?_))
    refine O_cons (W_it (W_mv rfl ?_))
    first | refine O_cons (W_it (W_ixs_s rfl rfl (by omega) (ents_geti (i := i) hi) ?_)) | refine O_cons (W_it (W_ixs_o rfl rfl (by omega) (by omega) ?_))
    first | refine O_cons (W_it (W_fad_p rfl ?_)) | refine O_cons (W_it (W_fad_e rfl ?_)) | refine O_cons (W_it (W_fad_r rfl ?_))
    first | refine O_cons (W_it (W_load_p rfl rfl rfl rfl ?_)) | refine O_cons (W_it (W_load_r rfl rfl rfl ?_)) | refine O_cons (W_it (W_load_e rfl rfl rfl rfl rfl ?_))
    refine O_cons (W_it (W_callF (rsmall_FS _ _ ?_) [] rfl (by decide) trivial ?_))
    · simp only [List.length_append, List.length_take, nums8_len, words8_len, ents8_len, cells8_len, List.length_cons, List.length_nil]; omega
    rintro _ _ ⟨rfl, rfl⟩
    simp only [St.put, renAV, renAC, renReg, renAVs, setAll, upF, List.map_cons, List.map_nil, List.cons_append, List.nil_append, List.append_nil, List.set_cons_zero, List.set_cons_succ, List.length_cons, List.length_nil, Nat.reduceAdd, Nat.reduceLT, Nat.reduceSub, Nat.not_lt_zero, if_false, if_true, Nat.sub_zero, Nat.add_zero, Nat.zero_add]
    refine O_cons (W_it (W_mv rfl ?_))
    refine O_nil ?_
    refine (hK8 _ ?_ : K8 _)
    try clear hK8 K8
    refine codeW_reg ?_
    refine O_cons (W_it (W_mv rfl ?_))
    refine O_cons (W_it (W_add rfl rfl ?_))
    refine O_cons (W_it (W_mv rfl ?_))
    refine O_nil ?_
    refine hK _ ⟨k - 1, _, by omega, ?_, i + 1, by omega, rfl⟩
    refine Weak.ren [] rfl (by decide) trivial ⟨?_, ?_, rfl, trivial⟩
    · show AV.c (.p (.v (.int .i64 (IntKind.i64.wrap ((i : Int) + 1))))) = AV.c (.p (.v (.int .i64 ((i + 1 : Nat) : Int))))
      rw [wrap64_id (by omega) (by omega)]
      rfl
    · rw [List.take_succ_eq_append_getElem hi, ents8_append]
      simp only [ents8, nums8, words8, List.flatMap_cons, List.flatMap_nil, List.append_assoc, List.append_nil, List.nil_append]
      rfl
  · have hi : i = ws.length := by have := of_decide_eq_false hc0; omega
    subst hi
    rw [List.take_length]
    refine codeW_exit ?_
    refine (hK4 _ ?_ : K4 _)
    try clear hK4 K4
    refine codeW_seq fun K14 hK14 => codeW_reg ?_
    refine O_cons (W_it (W_mv rfl ?_))
    refine O_cons (W_it (W_mv rfl ?_))
    refine O_nil (hK14 _ ?_)
    clear hK14 K14
    exact codeW_ret (Fin.here (.inr rfl) ⟨rfl, rfl⟩)

def ac20 : ACode := (.seq (.reg [⟨none, (some 1), (.box (some 1) (.t 0))⟩, ⟨none, (some 2), (.mv (some 2) (.k (.slice none 0 0)))⟩]) (.seq (.reg [⟨none, (some 3), (.mv (some 3) (.k (.slice none 0 0)))⟩]) (.seq (.reg [⟨none, (some 7), (.mv (some 7) (.t 3))⟩, ⟨none, (some 8), (.fad (some 8) 2 (.t 1))⟩, ⟨none, (some 9), (.load (some 9) 1 false (.t 8))⟩, ⟨none, (some 10), (.call (some 10) 45 [(.t 7), (.t 9)])⟩, ⟨none, (some 3), (.mv (some 3) (.t 10))⟩]) (.seq (.reg [⟨none, (some 11), (.mv (some 11) (.t 3))⟩, ⟨none, (some 12), (.fad (some 12) 3 (.t 1))⟩, ⟨none, (some 13), (.load (some 13) 1 false (.t 12))⟩, ⟨none, (some 14), (.call (some 14) 45 [(.t 11), (.t 13)])⟩, ⟨none, (some 3), (.mv (some 3) (.t 14))⟩]) (.seq (.reg [⟨none, (some 15), (.mv (some 15) (.t 3))⟩, ⟨none, (some 16), (.fad (some 16) 4 (.t 1))⟩, ⟨none, (some 17), (.load (some 17) 1 false (.t 16))⟩, ⟨none, (some 18), (.len (some 18) (.t 17))⟩, ⟨none, (some 19), (.call (some 19) 35 [(.t 15), (.t 18)])⟩, ⟨none, (some 3), (.mv (some 3) (.t 19))⟩]) (.seq (.seq (.reg [⟨none, (some 4), (.mv (some 4) (.k (.int .i64 0)))⟩]) (.block 0 (.loop (.seq (.seq (.reg [⟨none, (some 20), (.mv (some 20) (.t 4))⟩, ⟨none, (some 21), (.fad (some 21) 4 (.t 1))⟩, ⟨none, (some 22), (.load (some 22) 1 false (.t 21))⟩, ⟨none, (some 23), (.len (some 23) (.t 22))⟩, ⟨none, (some 24), (.bin (some 24) .lss (.t 20) (.t 23))⟩]) (.cond (.t 24) .skip (.exit 0))) (.seq (.block 1 (.seq (.reg [⟨none, (some 27), (.fad (some 27) 4 (.t 1))⟩, ⟨none, (some 28), (.load (some 28) 1 false (.t 27))⟩, ⟨none, (some 29), (.mv (some 29) (.t 4))⟩, ⟨none, (some 30), (.ixs (some 30) 10 (.t 28) (.t 29))⟩, ⟨none, (some 31), (.load (some 31) 10 true (.t 30))⟩, ⟨none, (some 5), (.alloc (some 5) [(.int .i64 0), (.int .i64 0), (.int .i64 0), (.int .i64 0), (.int .i64 0), (.int .i64 0), (.int .i64 0), (.int .i64 0), (.int .i64 0), (.int .i64 0)])⟩, ⟨none, none, (.store 10 (.t 5) (.t 31))⟩]) (.seq (.reg [⟨none, (some 32), (.mv (some 32) (.t 3))⟩, ⟨none, (some 33), (.fad (some 33) 0 (.t 5))⟩, ⟨none, (some 34), (.load (some 34) 1 false (.t 33))⟩, ⟨none, (some 35), (.call (some 35) 35 [(.t 32), (.t 34)])⟩, ⟨none, (some 3), (.mv (some 3) (.t 35))⟩]) (.seq (.reg [⟨none, (some 36), (.mv (some 36) (.t 3))⟩, ⟨none, (some 37), (.fad (some 37) 1 (.t 5))⟩, ⟨none, (some 38), (.load (some 38) 1 false (.t 37))⟩, ⟨none, (some 39), (.call (some 39) 35 [(.t 36), (.t 38)])⟩, ⟨none, (some 3), (.mv (some 3) (.t 39))⟩]) (.seq (.reg [⟨none, (some 40), (.mv (some 40) (.t 3))⟩, ⟨none, (some 41), (.fad (some 41) 2 (.t 5))⟩, ⟨none, (some 42), (.load (some 42) 1 false (.t 41))⟩, ⟨none, (some 43), (.call (some 43) 35 [(.t 40), (.t 42)])⟩, ⟨none, (some 3), (.mv (some 3) (.t 43))⟩]) (.seq (.reg [⟨none, (some 44), (.mv (some 44) (.t 3))⟩, ⟨none, (some 45), (.fad (some 45) 3 (.t 5))⟩, ⟨none, (some 46), (.load (some 46) 1 false (.t 45))⟩, ⟨none, (some 47), (.call (some 47) 35 [(.t 44), (.t 46)])⟩, ⟨none, (some 3), (.mv (some 3) (.t 47))⟩]) (.seq (.reg [⟨none, (some 48), (.mv (some 48) (.t 3))⟩, ⟨none, (some 49), (.fad (some 49) 4 (.t 5))⟩, ⟨none, (some 50), (.ixa (some 50) 2 3 (.t 49) (.k (.int .i64 0)))⟩, ⟨none, (some 51), (.load (some 51) 3 true (.t 50))⟩, ⟨none, (some 52), (.call (some 52) 36 [(.t 48), (.t 51)])⟩, ⟨none, (some 3), (.mv (some 3) (.t 52))⟩]) (.reg [⟨none, (some 53), (.mv (some 53) (.t 3))⟩, ⟨none, (some 54), (.fad (some 54) 4 (.t 5))⟩, ⟨none, (some 55), (.ixa (some 55) 2 3 (.t 54) (.k (.int .i64 1)))⟩, ⟨none, (some 56), (.load (some 56) 3 true (.t 55))⟩, ⟨none, (some 57), (.call (some 57) 36 [(.t 53), (.t 56)])⟩, ⟨none, (some 3), (.mv (some 3) (.t 57))⟩])))))))) (.reg [⟨none, (some 25), (.mv (some 25) (.t 4))⟩, ⟨none, (some 26), (.bin (some 26) .add (.t 25) (.k (.int .i64 1)))⟩, ⟨none, (some 4), (.mv (some 4) (.t 26))⟩])))))) (.seq (.reg [⟨none, (some 58), (.mv (some 58) (.t 3))⟩, ⟨none, (some 59), (.fad (some 59) 5 (.t 1))⟩, ⟨none, (some 60), (.load (some 60) 1 false (.t 59))⟩, ⟨none, (some 61), (.len (some 61) (.t 60))⟩, ⟨none, (some 62), (.call (some 62) 35 [(.t 58), (.t 61)])⟩, ⟨none, (some 3), (.mv (some 3) (.t 62))⟩]) (.seq (.seq (.reg [⟨none, (some 6), (.mv (some 6) (.k (.int .i64 0)))⟩]) (.block 2 (.loop (.seq (.seq (.reg [⟨none, (some 63), (.mv (some 63) (.t 6))⟩, ⟨none, (some 64), (.fad (some 64) 5 (.t 1))⟩, ⟨none, (some 65), (.load (some 65) 1 false (.t 64))⟩, ⟨none, (some 66), (.len (some 66) (.t 65))⟩, ⟨none, (some 67), (.bin (some 67) .lss (.t 63) (.t 66))⟩]) (.cond (.t 67) .skip (.exit 2))) (.seq (.block 3 (.reg [⟨none, (some 70), (.mv (some 70) (.t 3))⟩, ⟨none, (some 71), (.fad (some 71) 5 (.t 1))⟩, ⟨none, (some 72), (.load (some 72) 1 false (.t 71))⟩, ⟨none, (some 73), (.mv (some 73) (.t 6))⟩, ⟨none, (some 74), (.ixs (some 74) 1 (.t 72) (.t 73))⟩, ⟨none, (some 75), (.load (some 75) 1 false (.t 74))⟩, ⟨none, (some 76), (.call (some 76) 35 [(.t 70), (.t 75)])⟩, ⟨none, (some 3), (.mv (some 3) (.t 76))⟩])) (.reg [⟨none, (some 68), (.mv (some 68) (.t 6))⟩, ⟨none, (some 69), (.bin (some 69) .add (.t 68) (.k (.int .i64 1)))⟩, ⟨none, (some 6), (.mv (some 6) (.t 69))⟩])))))) (.seq (.reg [⟨none, (some 77), (.mv (some 77) (.t 3))⟩, ⟨none, (some 78), (.fad (some 78) 6 (.t 1))⟩, ⟨none, (some 79), (.load (some 79) 1 false (.t 78))⟩, ⟨none, (some 80), (.call (some 80) 37 [(.t 77), (.t 79)])⟩, ⟨none, (some 3), (.mv (some 3) (.t 80))⟩]) (.seq (.reg [⟨none, (some 81), (.mv (some 81) (.t 3))⟩, ⟨none, (some 82), (.fad (some 82) 7 (.t 1))⟩, ⟨none, (some 83), (.load (some 83) 1 false (.t 82))⟩, ⟨none, (some 84), (.call (some 84) 38 [(.t 81), (.t 83)])⟩, ⟨none, (some 3), (.mv (some 3) (.t 84))⟩]) (.seq (.reg [⟨none, (some 85), (.mv (some 85) (.t 3))⟩, ⟨none, (some 86), (.fad (some 86) 8 (.t 1))⟩, ⟨none, (some 87), (.load (some 87) 1 false (.t 86))⟩, ⟨none, (some 88), (.call (some 88) 38 [(.t 85), (.t 87)])⟩, ⟨none, (some 2), (.mv (some 2) (.t 88))⟩]) .ret)))))))))))
theorem tr20 : ((Try.f20.name == "runtime.NumGoroutine") = false ∧ Try.f20.results = ([2].map ResultVar.tmp).toArray) ∧ Try.f20.ntmps = 89 ∧ (Try.f20.body.bind (trCode Try.prog Try.f20.ntmps)) = some ac20 := ⟨⟨by kernel_rfl, by kernel_rfl⟩, by kernel_rfl, by kernel_rfl⟩


theorem rshared_FS (st : Sta) (hb : st.bulk ≤ 900000000) :
    FS Try.prog 20 [.agg (st.row.map .p)] [] fun res rg => res = .c (.p (.sl 1 st.sharedOctets)) ∧ rg = [] := by
  refine FS_def [2] 89 Try.func20 tr20 rfl ?_
  unfold ac20
  have hb2 : 80 * (st.roots.length + st.slots.length + st.cells.length + st.free.length + st.marks.length + st.counts.length) ≤ 900000000 := hb
  refine codeW_seq fun K1 hK1 => codeW_reg ?_
  refine O_cons (W_it (W_box rfl ?_))
  refine O_cons (W_it (W_mv rfl ?_))
  refine O_nil (hK1 _ ?_)
  clear hK1 K1
  refine codeW_seq fun K2 hK2 => codeW_reg ?_
  refine O_cons (W_it (W_mv rfl ?_))
  refine O_nil (hK2 _ ?_)
  clear hK2 K2
  refine codeW_weak (s' := ⟨[(3, .c (.p (.v (.slice none 0 0)))), (1, .c (.rp st.row))], [.dead]⟩) (Weak.box 0 st.row rfl ⟨.inl rfl, .inr ⟨0, rfl, Nat.zero_le _, rfl⟩, trivial⟩ ⟨t_dead (by decide), trivial⟩) ?_
  refine codeW_weak (s' := ⟨[(3, .c (.p (.sl 1 []))), (1, .c (.rp st.row))], [.dead]⟩) (Weak.imp ⟨.inr (.inl ⟨1, by decide, rfl, rfl⟩), .inl rfl, trivial⟩ ⟨t_keep (fun _ => .inl rfl) (by decide), trivial⟩) ?_
  refine codeW_weak (s' := ⟨[(3, .c (.p (.sl 1 []))), (1, .c (.rp st.row))], []⟩) (Weak.ren [] rfl (by decide) trivial ⟨rfl, rfl, trivial⟩) ?_
  refine codeW_seq fun K3 hK3 => codeW_reg ?_
  refine O_cons (W_it (W_mv rfl ?_))
  first | refine O_cons (W_it (W_fad_p rfl ?_)) | refine O_cons (W_it (W_fad_e rfl ?_)) | refine O_cons (W_it (W_fad_r rfl ?_))
  first | refine O_cons (W_it (W_load_p rfl rfl rfl rfl ?_)) | refine O_cons (W_it (W_load_r rfl rfl rfl ?_)) | refine O_cons (W_it (W_load_e rfl rfl rfl rfl rfl ?_))
  refine O_cons (W_it (W_callF (rwords_FS _ _ ?_) [] rfl (by decide) trivial ?_))
  · simp only [List.length_append, List.length_take, nums8_len, words8_len, ents8_len, cells8_len, List.length_cons, List.length_nil]; omega
  rintro _ _ ⟨rfl, rfl⟩
  simp only [St.put, renAV, renAC, renReg, renAVs, setAll, upF, List.map_cons, List.map_nil, List.cons_append, List.nil_append, List.append_nil, List.set_cons_zero, List.set_cons_succ, List.length_cons, List.length_nil, Nat.reduceAdd, Nat.reduceLT, Nat.reduceSub, Nat.not_lt_zero, if_false, if_true, Nat.sub_zero, Nat.add_zero, Nat.zero_add]
  refine O_cons (W_it (W_mv rfl ?_))
  refine O_nil (hK3 _ ?_)
  clear hK3 K3
  refine codeW_seq fun K4 hK4 => codeW_reg ?_
  refine O_cons (W_it (W_mv rfl ?_))
  first | refine O_cons (W_it (W_fad_p rfl ?_)) | refine O_cons (W_it (W_fad_e rfl ?_)) | refine O_cons (W_it (W_fad_r rfl ?_))
  first | refine O_cons (W_it (W_load_p rfl rfl rfl rfl ?_)) | refine O_cons (W_it (W_load_r rfl rfl rfl ?_)) | refine O_cons (W_it (W_load_e rfl rfl rfl rfl rfl ?_))
  refine O_cons (W_it (W_callF (rwords_FS _ _ ?_) [] rfl (by decide) trivial ?_))
  · simp only [List.length_append, List.length_take, nums8_len, words8_len, ents8_len, cells8_len, List.length_cons, List.length_nil]; omega
  rintro _ _ ⟨rfl, rfl⟩
  simp only [St.put, renAV, renAC, renReg, renAVs, setAll, upF, List.map_cons, List.map_nil, List.cons_append, List.nil_append, List.append_nil, List.set_cons_zero, List.set_cons_succ, List.length_cons, List.length_nil, Nat.reduceAdd, Nat.reduceLT, Nat.reduceSub, Nat.not_lt_zero, if_false, if_true, Nat.sub_zero, Nat.add_zero, Nat.zero_add]
  refine O_cons (W_it (W_mv rfl ?_))
  refine O_nil (hK4 _ ?_)
  clear hK4 K4
  refine codeW_seq fun K5 hK5 => codeW_reg ?_
  refine O_cons (W_it (W_mv rfl ?_))
  first | refine O_cons (W_it (W_fad_p rfl ?_)) | refine O_cons (W_it (W_fad_e rfl ?_)) | refine O_cons (W_it (W_fad_r rfl ?_))
  first | refine O_cons (W_it (W_load_p rfl rfl rfl rfl ?_)) | refine O_cons (W_it (W_load_r rfl rfl rfl ?_)) | refine O_cons (W_it (W_load_e rfl rfl rfl rfl rfl ?_))
  refine O_cons (W_it (W_len rfl ?_))
  rw [cels_len]
  refine O_cons (W_it (W_callF (rsmall_FS _ _ ?_) [] rfl (by decide) trivial ?_))
  · simp only [List.length_append, List.length_take, nums8_len, words8_len, ents8_len, cells8_len, List.length_cons, List.length_nil]; omega
  rintro _ _ ⟨rfl, rfl⟩
  simp only [St.put, renAV, renAC, renReg, renAVs, setAll, upF, List.map_cons, List.map_nil, List.cons_append, List.nil_append, List.append_nil, List.set_cons_zero, List.set_cons_succ, List.length_cons, List.length_nil, Nat.reduceAdd, Nat.reduceLT, Nat.reduceSub, Nat.not_lt_zero, if_false, if_true, Nat.sub_zero, Nat.add_zero, Nat.zero_add]
  refine O_cons (W_it (W_mv rfl ?_))
  refine O_nil (hK5 _ ?_)
  clear hK5 K5
  refine codeW_seq fun K6 hK6 => ?_
  refine codeW_seq fun K7 hK7 => codeW_reg ?_
  refine O_cons (W_it (W_mv rfl ?_))
  refine O_nil (hK7 _ ?_)
  clear hK7 K7
  refine codeW_block ?_
  refine codeW_weak (s' := ⟨[(4, .c (.p (.v (.int .i64 ((0 : Nat) : Int))))), (3, .c (.p (.sl 1 (nums8 [(st.roots.length : Int)] ++ words8 st.roots ++ nums8 [(st.slots.length : Int)] ++ words8 st.slots ++ nums8 [(st.cells.length : Int)] ++ cells8 (st.cells.take 0))))), (1, .c (.rp st.row))], []⟩) (Weak.ren [] rfl (by decide) trivial ⟨rfl, ?_, rfl, trivial⟩) ?_
  · simp only [cells8, nums8, List.take_zero, List.flatMap_nil, List.append_nil]; rfl
  refine codeW_loop (fun k s => ∃ i : Nat, i + k = st.cells.length ∧ s = ⟨[(4, .c (.p (.v (.int .i64 (i : Int))))), (3, .c (.p (.sl 1 (nums8 [(st.roots.length : Int)] ++ words8 st.roots ++ nums8 [(st.slots.length : Int)] ++ words8 st.slots ++ nums8 [(st.cells.length : Int)] ++ cells8 (st.cells.take i))))), (1, .c (.rp st.row))], []⟩) (st.cells.length) ⟨0, by omega, rfl⟩ ?_
  rintro k s ⟨i, hik, rfl⟩ K hK
  refine codeW_seq fun K8 hK8 => ?_
  refine codeW_seq fun K9 hK9 => codeW_reg ?_
  refine O_cons (W_it (W_mv rfl ?_))
  first | refine O_cons (W_it (W_fad_p rfl ?_)) | refine O_cons (W_it (W_fad_e rfl ?_)) | refine O_cons (W_it (W_fad_r rfl ?_))
  first | refine O_cons (W_it (W_load_p rfl rfl rfl rfl ?_)) | refine O_cons (W_it (W_load_r rfl rfl rfl ?_)) | refine O_cons (W_it (W_load_e rfl rfl rfl rfl rfl ?_))
  refine O_cons (W_it (W_len rfl ?_))
  rw [cels_len]
  refine O_cons (W_it (W_lss rfl rfl ?_))
  refine O_nil (hK9 _ ?_)
  clear hK9 K9
  refine codeW_cond rfl (fun hc0 => ?_) (fun hc0 => ?_)
  · have hi : i < st.cells.length := by have := of_decide_eq_true hc0; omega
    refine codeW_skip ?_
    refine (hK8 _ ?_ : K8 _)
    try clear hK8 K8
    refine codeW_seq fun K10 hK10 => ?_
    refine codeW_block ?_
    refine codeW_seq fun K11 hK11 => codeW_reg ?_
    first | refine O_cons (W_it (W_fad_p rfl ?_)) | refine O_cons (W_it (W_fad_e rfl ?_)) | refine O_cons (W_it (W_fad_r rfl ?_))
    first | refine O_cons (W_it (W_load_p rfl rfl rfl rfl ?_)) | refine O_cons (W_it (W_load_r rfl rfl rfl ?_)) | refine O_cons (W_it (W_load_e rfl rfl rfl rfl rfl ?_))
    refine O_cons (W_it (W_mv rfl ?_))
    first | refine O_cons (W_it (W_ixs_s rfl rfl (by omega) (cels_geti (i := i) hi) ?_)) | refine O_cons (W_it (W_ixs_o rfl rfl (by omega) (by omega) ?_))
    first | refine O_cons (W_it (W_load_p rfl rfl rfl rfl ?_)) | refine O_cons (W_it (W_load_r rfl rfl rfl ?_)) | refine O_cons (W_it (W_load_e rfl rfl rfl rfl rfl ?_))
    refine O_cons (W_it (W_alloc ?_))
    first | refine O_cons (W_it (W_store_p rfl rfl rfl rfl rfl rfl ?_)) | refine O_cons (W_it (W_store_e rfl rfl rfl rfl rfl rfl rfl ?_))
    refine O_nil (hK11 _ ?_)
    clear hK11 K11
    refine codeW_seq fun K12 hK12 => codeW_reg ?_
    refine O_cons (W_it (W_mv rfl ?_))
    first | refine O_cons (W_it (W_fad_p rfl ?_)) | refine O_cons (W_it (W_fad_e rfl ?_)) | refine O_cons (W_it (W_fad_r rfl ?_))
    first | refine O_cons (W_it (W_load_p rfl rfl rfl rfl ?_)) | refine O_cons (W_it (W_load_r rfl rfl rfl ?_)) | refine O_cons (W_it (W_load_e rfl rfl rfl rfl rfl ?_))
    refine O_cons (W_it (W_callF (rsmall_FS _ _ ?_) [] rfl (by decide) trivial ?_))
    · simp only [List.length_append, List.length_take, nums8_len, words8_len, ents8_len, cells8_len, List.length_cons, List.length_nil]; omega
    rintro _ _ ⟨rfl, rfl⟩
    simp only [St.put, renAV, renAC, renReg, renAVs, setAll, upF, List.map_cons, List.map_nil, List.cons_append, List.nil_append, List.append_nil, List.set_cons_zero, List.set_cons_succ, List.length_cons, List.length_nil, Nat.reduceAdd, Nat.reduceLT, Nat.reduceSub, Nat.not_lt_zero, if_false, if_true, Nat.sub_zero, Nat.add_zero, Nat.zero_add]
    refine O_cons (W_it (W_mv rfl ?_))
    refine O_nil (hK12 _ ?_)
    clear hK12 K12
    refine codeW_seq fun K13 hK13 => codeW_reg ?_
    refine O_cons (W_it (W_mv rfl ?_))
    first | refine O_cons (W_it (W_fad_p rfl ?_)) | refine O_cons (W_it (W_fad_e rfl ?_)) | refine O_cons (W_it (W_fad_r rfl ?_))
    first | refine O_cons (W_it (W_load_p rfl rfl rfl rfl ?_)) | refine O_cons (W_it (W_load_r rfl rfl rfl ?_)) | refine O_cons (W_it (W_load_e rfl rfl rfl rfl rfl ?_))
    refine O_cons (W_it (W_callF (rsmall_FS _ _ ?_) [] rfl (by decide) trivial ?_))
    · simp only [List.length_append, List.length_take, nums8_len, words8_len, ents8_len, cells8_len, List.length_cons, List.length_nil]; omega
    rintro _ _ ⟨rfl, rfl⟩
    simp only [St.put, renAV, renAC, renReg, renAVs, setAll, upF, List.map_cons, List.map_nil, List.cons_append, List.nil_append, List.append_nil, List.set_cons_zero, List.set_cons_succ, List.length_cons, List.length_nil, Nat.reduceAdd, Nat.reduceLT, Nat.reduceSub, Nat.not_lt_zero, if_false, if_true, Nat.sub_zero, Nat.add_zero, Nat.zero_add]
    refine O_cons (W_it (W_mv rfl ?_))
    refine O_nil (hK13 _ ?_)
    clear hK13 K13
    refine codeW_seq fun K14 hK14 => codeW_reg ?_
    refine O_cons (W_it (W_mv rfl ?_))
    first | refine O_cons (W_it (W_fad_p rfl ?_)) | refine O_cons (W_it (W_fad_e rfl ?_)) | refine O_cons (W_it (W_fad_r rfl ?_))
    first | refine O_cons (W_it (W_load_p rfl rfl rfl rfl ?_)) | refine O_cons (W_it (W_load_r rfl rfl rfl ?_)) | refine O_cons (W_it (W_load_e rfl rfl rfl rfl rfl ?_))
    refine O_cons (W_it (W_callF (rsmall_FS _ _ ?_) [] rfl (by decide) trivial ?_))
    · simp only [List.length_append, List.length_take, nums8_len, words8_len, ents8_len, cells8_len, List.length_cons, List.length_nil]; omega
    rintro _ _ ⟨rfl, rfl⟩
    simp only [St.put, renAV, renAC, renReg, renAVs, setAll, upF, List.map_cons, List.map_nil, List.cons_append, List.nil_append, List.append_nil, List.set_cons_zero, List.set_cons_succ, List.length_cons, List.length_nil, Nat.reduceAdd, Nat.reduceLT, Nat.reduceSub, Nat.not_lt_zero, if_false, if_true, Nat.sub_zero, Nat.add_zero, Nat.zero_add]
    refine O_cons (W_it (W_mv rfl ?_))
    refine O_nil (hK14 _ ?_)
    clear hK14 K14
    refine codeW_seq fun K15 hK15 => codeW_reg ?_
    refine O_cons (W_it (W_mv rfl ?_))
    first | refine O_cons (W_it (W_fad_p rfl ?_)) | refine O_cons (W_it (W_fad_e rfl ?_)) | refine O_cons (W_it (W_fad_r rfl ?_))
    first | refine O_cons (W_it (W_load_p rfl rfl rfl rfl ?_)) | refine O_cons (W_it (W_load_r rfl rfl rfl ?_)) | refine O_cons (W_it (W_load_e rfl rfl rfl rfl rfl ?_))
    refine O_cons (W_it (W_callF (rsmall_FS _ _ ?_) [] rfl (by decide) trivial ?_))
    · simp only [List.length_append, List.length_take, nums8_len, words8_len, ents8_len, cells8_len, List.length_cons, List.length_nil]; omega
    rintro _ _ ⟨rfl, rfl⟩
    simp only [St.put, renAV, renAC, renReg, renAVs, setAll, upF, List.map_cons, List.map_nil, List.cons_append, List.nil_append, List.append_nil, List.set_cons_zero, List.set_cons_succ, List.length_cons, List.length_nil, Nat.reduceAdd, Nat.reduceLT, Nat.reduceSub, Nat.not_lt_zero, if_false, if_true, Nat.sub_zero, Nat.add_zero, Nat.zero_add]
    refine O_cons (W_it (W_mv rfl ?_))
    refine O_nil (hK15 _ ?_)
    clear hK15 K15
    refine codeW_seq fun K16 hK16 => codeW_reg ?_
    refine O_cons (W_it (W_mv rfl ?_))
    first | refine O_cons (W_it (W_fad_p rfl ?_)) | refine O_cons (W_it (W_fad_e rfl ?_)) | refine O_cons (W_it (W_fad_r rfl ?_))
    first | refine O_cons (W_it (W_ixa_e rfl rfl (by omega) (by omega) ?_)) | refine O_cons (W_it (W_ixa_p rfl rfl (by omega) (by omega) ?_)) | refine O_cons (W_it (W_ixa_r rfl rfl (by omega) (by omega) ?_))
    first | refine O_cons (W_it (W_load_p rfl rfl rfl rfl ?_)) | refine O_cons (W_it (W_load_r rfl rfl rfl ?_)) | refine O_cons (W_it (W_load_e rfl rfl rfl rfl rfl ?_))
    refine O_cons (W_it (W_callF (rword_FS _ (st.cells[i]'hi).2.1 ?_) [] rfl (by decide) trivial ?_))
    · simp only [List.length_append, List.length_take, nums8_len, words8_len, ents8_len, cells8_len, List.length_cons, List.length_nil]; omega
    rintro _ _ ⟨rfl, rfl⟩
    simp only [St.put, renAV, renAC, renReg, renAVs, setAll, upF, List.map_cons, List.map_nil, List.cons_append, List.nil_append, List.append_nil, List.set_cons_zero, List.set_cons_succ, List.length_cons, List.length_nil, Nat.reduceAdd, Nat.reduceLT, Nat.reduceSub, Nat.not_lt_zero, if_false, if_true, Nat.sub_zero, Nat.add_zero, Nat.zero_add]
    refine O_cons (W_it (W_mv rfl ?_))
    refine O_nil (hK16 _ ?_)
    clear hK16 K16
    refine codeW_reg ?_
    refine O_cons (W_it (W_mv rfl ?_))
    first | refine O_cons (W_it (W_fad_p rfl ?_)) | refine O_cons (W_it (W_fad_e rfl ?_)) | refine O_cons (W_it (W_fad_r rfl ?_))
    first | refine O_cons (W_it (W_ixa_e rfl rfl (by omega) (by omega) ?_)) | refine O_cons (W_it (W_ixa_p rfl rfl (by omega) (by omega) ?_)) | refine O_cons (W_it (W_ixa_r rfl rfl (by omega) (by omega) ?_))
    first | refine O_cons (W_it (W_load_p rfl rfl rfl rfl ?_)) | refine O_cons (W_it (W_load_r rfl rfl rfl ?_)) | refine O_cons (W_it (W_load_e rfl rfl rfl rfl rfl ?_))
    refine O_cons (W_it (W_callF (rword_FS _ (st.cells[i]'hi).2.2 ?_) [] rfl (by decide) trivial ?_))
    · simp only [List.length_append, List.length_take, nums8_len, words8_len, ents8_len, cells8_len, List.length_cons, List.length_nil]; omega
    rintro _ _ ⟨rfl, rfl⟩
    simp only [St.put, renAV, renAC, renReg, renAVs, setAll, upF, List.map_cons, List.map_nil, List.cons_append, List.nil_append, List.append_nil, List.set_cons_zero, List.set_cons_succ, List.length_cons, List.length_nil, Nat.reduceAdd, Nat.reduceLT, Nat.reduceSub, Nat.not_lt_zero, if_false, if_true, Nat.sub_zero, Nat.add_zero, Nat.zero_add]
    refine O_cons (W_it (W_mv rfl ?_))
    refine O_nil ?_
    refine (hK10 _ ?_ : K10 _)
    try clear hK10 K10
    refine codeW_reg ?_
    refine O_cons (W_it (W_mv rfl ?_))
    refine O_cons (W_it (W_add rfl rfl ?_))
    refine O_cons (W_it (W_mv rfl ?_))
    refine O_nil ?_
    refine hK _ ⟨k - 1, _, by omega, ?_, i + 1, by omega, rfl⟩
    refine Weak.ren [] rfl (by decide) trivial ⟨?_, ?_, rfl, trivial⟩
    · show AV.c (.p (.v (.int .i64 (IntKind.i64.wrap ((i : Int) + 1))))) = AV.c (.p (.v (.int .i64 ((i + 1 : Nat) : Int))))
      rw [wrap64_id (by omega) (by omega)]
      rfl
    · rw [List.take_succ_eq_append_getElem hi, cells8_append]
      simp only [cells8, nums8, words8, List.flatMap_cons, List.flatMap_nil, List.append_assoc, List.append_nil, List.nil_append]
      rfl
  · have hi : i = st.cells.length := by have := of_decide_eq_false hc0; omega
    subst hi
    rw [List.take_length]
    refine codeW_exit ?_
    refine (hK6 _ ?_ : K6 _)
    try clear hK6 K6
    refine codeW_seq fun K17 hK17 => codeW_reg ?_
    refine O_cons (W_it (W_mv rfl ?_))
    first | refine O_cons (W_it (W_fad_p rfl ?_)) | refine O_cons (W_it (W_fad_e rfl ?_)) | refine O_cons (W_it (W_fad_r rfl ?_))
    first | refine O_cons (W_it (W_load_p rfl rfl rfl rfl ?_)) | refine O_cons (W_it (W_load_r rfl rfl rfl ?_)) | refine O_cons (W_it (W_load_e rfl rfl rfl rfl rfl ?_))
    refine O_cons (W_it (W_len rfl ?_))
    rw [ints_len]
    refine O_cons (W_it (W_callF (rsmall_FS _ _ ?_) [] rfl (by decide) trivial ?_))
    · simp only [List.length_append, List.length_take, nums8_len, words8_len, ents8_len, cells8_len, List.length_cons, List.length_nil]; omega
    rintro _ _ ⟨rfl, rfl⟩
    simp only [St.put, renAV, renAC, renReg, renAVs, setAll, upF, List.map_cons, List.map_nil, List.cons_append, List.nil_append, List.append_nil, List.set_cons_zero, List.set_cons_succ, List.length_cons, List.length_nil, Nat.reduceAdd, Nat.reduceLT, Nat.reduceSub, Nat.not_lt_zero, if_false, if_true, Nat.sub_zero, Nat.add_zero, Nat.zero_add]
    refine O_cons (W_it (W_mv rfl ?_))
    refine O_nil (hK17 _ ?_)
    clear hK17 K17
    refine codeW_seq fun K18 hK18 => ?_
    refine codeW_seq fun K19 hK19 => codeW_reg ?_
    refine O_cons (W_it (W_mv rfl ?_))
    refine O_nil (hK19 _ ?_)
    clear hK19 K19
    refine codeW_block ?_
    refine codeW_weak (s' := ⟨[(6, .c (.p (.v (.int .i64 ((0 : Nat) : Int))))), (3, .c (.p (.sl 1 (nums8 [(st.roots.length : Int)] ++ words8 st.roots ++ nums8 [(st.slots.length : Int)] ++ words8 st.slots ++ nums8 [(st.cells.length : Int)] ++ cells8 st.cells ++ nums8 [(st.free.length : Int)] ++ nums8 (st.free.take 0))))), (1, .c (.rp st.row))], []⟩) (Weak.ren [] rfl (by decide) trivial ⟨rfl, ?_, rfl, trivial⟩) ?_
    · simp only [cells8, nums8, List.take_zero, List.flatMap_nil, List.append_nil]; rfl
    refine codeW_loop (fun k s => ∃ i : Nat, i + k = st.free.length ∧ s = ⟨[(6, .c (.p (.v (.int .i64 (i : Int))))), (3, .c (.p (.sl 1 (nums8 [(st.roots.length : Int)] ++ words8 st.roots ++ nums8 [(st.slots.length : Int)] ++ words8 st.slots ++ nums8 [(st.cells.length : Int)] ++ cells8 st.cells ++ nums8 [(st.free.length : Int)] ++ nums8 (st.free.take i))))), (1, .c (.rp st.row))], []⟩) (st.free.length) ⟨0, by omega, rfl⟩ ?_
    rintro k s ⟨i, hik, rfl⟩ K hK
    refine codeW_seq fun K20 hK20 => ?_
    refine codeW_seq fun K21 hK21 => codeW_reg ?_
    refine O_cons (W_it (W_mv rfl ?_))
    first | refine O_cons (W_it (W_fad_p rfl ?_)) | refine O_cons (W_it (W_fad_e rfl ?_)) | refine O_cons (W_it (W_fad_r rfl ?_))
    first | refine O_cons (W_it (W_load_p rfl rfl rfl rfl ?_)) | refine O_cons (W_it (W_load_r rfl rfl rfl ?_)) | refine O_cons (W_it (W_load_e rfl rfl rfl rfl rfl ?_))
    refine O_cons (W_it (W_len rfl ?_))
    rw [ints_len]
    refine O_cons (W_it (W_lss rfl rfl ?_))
    refine O_nil (hK21 _ ?_)
    clear hK21 K21
    refine codeW_cond rfl (fun hc1 => ?_) (fun hc1 => ?_)
    · have hi : i < st.free.length := by have := of_decide_eq_true hc1; omega
      refine codeW_skip ?_
      refine (hK20 _ ?_ : K20 _)
      try clear hK20 K20
      refine codeW_seq fun K22 hK22 => ?_
      refine codeW_block ?_
      refine codeW_reg ?_
      refine O_cons (W_it (W_mv rfl ?_))
      first | refine O_cons (W_it (W_fad_p rfl ?_)) | refine O_cons (W_it (W_fad_e rfl ?_)) | refine O_cons (W_it (W_fad_r rfl ?_))
      first | refine O_cons (W_it (W_load_p rfl rfl rfl rfl ?_)) | refine O_cons (W_it (W_load_r rfl rfl rfl ?_)) | refine O_cons (W_it (W_load_e rfl rfl rfl rfl rfl ?_))
      refine O_cons (W_it (W_mv rfl ?_))
      first | refine O_cons (W_it (W_ixs_s rfl rfl (by omega) (ints_geti (i := i) hi) ?_)) | refine O_cons (W_it (W_ixs_o rfl rfl (by omega) (by omega) ?_))
      first | refine O_cons (W_it (W_load_p rfl rfl rfl rfl ?_)) | refine O_cons (W_it (W_load_r rfl rfl rfl ?_)) | refine O_cons (W_it (W_load_e rfl rfl rfl rfl rfl ?_))
      refine O_cons (W_it (W_callF (rsmall_FS _ _ ?_) [] rfl (by decide) trivial ?_))
      · simp only [List.length_append, List.length_take, nums8_len, words8_len, ents8_len, cells8_len, List.length_cons, List.length_nil]; omega
      rintro _ _ ⟨rfl, rfl⟩
      simp only [St.put, renAV, renAC, renReg, renAVs, setAll, upF, List.map_cons, List.map_nil, List.cons_append, List.nil_append, List.append_nil, List.set_cons_zero, List.set_cons_succ, List.length_cons, List.length_nil, Nat.reduceAdd, Nat.reduceLT, Nat.reduceSub, Nat.not_lt_zero, if_false, if_true, Nat.sub_zero, Nat.add_zero, Nat.zero_add]
      refine O_cons (W_it (W_mv rfl ?_))
      refine O_nil ?_
      refine (hK22 _ ?_ : K22 _)
      try clear hK22 K22
      refine codeW_reg ?_
      refine O_cons (W_it (W_mv rfl ?_))
      refine O_cons (W_it (W_add rfl rfl ?_))
      refine O_cons (W_it (W_mv rfl ?_))
      refine O_nil ?_
      refine hK _ ⟨k - 1, _, by omega, ?_, i + 1, by omega, rfl⟩
      refine Weak.ren [] rfl (by decide) trivial ⟨?_, ?_, rfl, trivial⟩
      · show AV.c (.p (.v (.int .i64 (IntKind.i64.wrap ((i : Int) + 1))))) = AV.c (.p (.v (.int .i64 ((i + 1 : Nat) : Int))))
        rw [wrap64_id (by omega) (by omega)]
        rfl
      · rw [List.take_succ_eq_append_getElem hi, nums8_append, ← List.append_assoc]
        rfl
    · have hi : i = st.free.length := by have := of_decide_eq_false hc1; omega
      subst hi
      rw [List.take_length]
      refine codeW_exit ?_
      refine (hK18 _ ?_ : K18 _)
      try clear hK18 K18
      refine codeW_seq fun K23 hK23 => codeW_reg ?_
      refine O_cons (W_it (W_mv rfl ?_))
      first | refine O_cons (W_it (W_fad_p rfl ?_)) | refine O_cons (W_it (W_fad_e rfl ?_)) | refine O_cons (W_it (W_fad_r rfl ?_))
      first | refine O_cons (W_it (W_load_p rfl rfl rfl rfl ?_)) | refine O_cons (W_it (W_load_r rfl rfl rfl ?_)) | refine O_cons (W_it (W_load_e rfl rfl rfl rfl rfl ?_))
      refine O_cons (W_it (W_callF (rnum_FS _ _ ?_) [] rfl (by decide) trivial ?_))
      · simp only [List.length_append, List.length_take, nums8_len, words8_len, ents8_len, cells8_len, List.length_cons, List.length_nil]; omega
      rintro _ _ ⟨rfl, rfl⟩
      simp only [St.put, renAV, renAC, renReg, renAVs, setAll, upF, List.map_cons, List.map_nil, List.cons_append, List.nil_append, List.append_nil, List.set_cons_zero, List.set_cons_succ, List.length_cons, List.length_nil, Nat.reduceAdd, Nat.reduceLT, Nat.reduceSub, Nat.not_lt_zero, if_false, if_true, Nat.sub_zero, Nat.add_zero, Nat.zero_add]
      refine O_cons (W_it (W_mv rfl ?_))
      refine O_nil (hK23 _ ?_)
      clear hK23 K23
      refine codeW_seq fun K24 hK24 => codeW_reg ?_
      refine O_cons (W_it (W_mv rfl ?_))
      first | refine O_cons (W_it (W_fad_p rfl ?_)) | refine O_cons (W_it (W_fad_e rfl ?_)) | refine O_cons (W_it (W_fad_r rfl ?_))
      first | refine O_cons (W_it (W_load_p rfl rfl rfl rfl ?_)) | refine O_cons (W_it (W_load_r rfl rfl rfl ?_)) | refine O_cons (W_it (W_load_e rfl rfl rfl rfl rfl ?_))
      refine O_cons (W_it (W_callF (rnums_FS _ _ ?_) [] rfl (by decide) trivial ?_))
      · simp only [List.length_append, List.length_take, nums8_len, words8_len, ents8_len, cells8_len, List.length_cons, List.length_nil]; omega
      rintro _ _ ⟨rfl, rfl⟩
      simp only [St.put, renAV, renAC, renReg, renAVs, setAll, upF, List.map_cons, List.map_nil, List.cons_append, List.nil_append, List.append_nil, List.set_cons_zero, List.set_cons_succ, List.length_cons, List.length_nil, Nat.reduceAdd, Nat.reduceLT, Nat.reduceSub, Nat.not_lt_zero, if_false, if_true, Nat.sub_zero, Nat.add_zero, Nat.zero_add]
      refine O_cons (W_it (W_mv rfl ?_))
      refine O_nil (hK24 _ ?_)
      clear hK24 K24
      refine codeW_seq fun K25 hK25 => codeW_reg ?_
      refine O_cons (W_it (W_mv rfl ?_))
      first | refine O_cons (W_it (W_fad_p rfl ?_)) | refine O_cons (W_it (W_fad_e rfl ?_)) | refine O_cons (W_it (W_fad_r rfl ?_))
      first | refine O_cons (W_it (W_load_p rfl rfl rfl rfl ?_)) | refine O_cons (W_it (W_load_r rfl rfl rfl ?_)) | refine O_cons (W_it (W_load_e rfl rfl rfl rfl rfl ?_))
      refine O_cons (W_it (W_callF (rnums_FS _ _ ?_) [] rfl (by decide) trivial ?_))
      · simp only [List.length_append, List.length_take, nums8_len, words8_len, ents8_len, cells8_len, List.length_cons, List.length_nil]; omega
      rintro _ _ ⟨rfl, rfl⟩
      simp only [St.put, renAV, renAC, renReg, renAVs, setAll, upF, List.map_cons, List.map_nil, List.cons_append, List.nil_append, List.append_nil, List.set_cons_zero, List.set_cons_succ, List.length_cons, List.length_nil, Nat.reduceAdd, Nat.reduceLT, Nat.reduceSub, Nat.not_lt_zero, if_false, if_true, Nat.sub_zero, Nat.add_zero, Nat.zero_add]
      refine O_cons (W_it (W_mv rfl ?_))
      refine O_nil (hK25 _ ?_)
      clear hK25 K25
      refine codeW_ret (Fin.weak (.inr rfl) (s1 := ⟨[(2, .c (.p (.sl 1 st.sharedOctets)))], []⟩) (Weak.ren [] rfl (by decide) trivial ⟨?_, trivial⟩) ⟨rfl, rfl⟩)
      rw [Sta.sharedOctets]
      simp only [List.append_assoc, List.nil_append]
      rfl


theorem rput_own_FS (bs : List (List PV)) (x : Int) (m : Nat) (h1 : 1 ≤ m) (h8 : m ≤ 8) (hb : bs.length ≤ 1000000000) :
    FS Try.prog 54 [.c (.p (.sl 1 bs)), .c (.p (.v (.int .i64 x))), .c (.p (.v (.int .i64 (m : Int))))] [] fun res rg => res = .c (.own 0 0 1 (bs.length + m) .free) ∧ rg = [.pc 1 (bs ++ digs x m m)] := by
  refine FS_def [6] 32 Try.func54 tr54 rfl ?_
  unfold ac54
  have e1 : decide ((m : Int) < 1) = false := decide_eq_false (by omega)
  have e2 : decide (8 < (m : Int)) = false := decide_eq_false (by omega)
  refine codeW_seq fun K1 hK1 => codeW_reg ?_
  refine O_cons (W_it (W_mv rfl ?_))
  refine O_nil (hK1 _ ?_)
  clear hK1 K1
  refine codeW_seq fun K2 hK2 => codeW_reg ?_
  refine O_cons (W_it (W_mv rfl ?_))
  refine O_nil (hK2 _ ?_)
  clear hK2 K2
  refine codeW_seq fun K3 hK3 => codeW_reg ?_
  refine O_cons (W_it (W_mv rfl ?_))
  refine O_cons (W_it (W_mv rfl ?_))
  refine O_cons (W_it (W_app_n rfl rfl rfl (.inr rfl) rfl (by omega) (by omega) ?_))
  refine O_cons (W_it (W_mv rfl ?_))
  refine O_nil (hK3 _ ?_)
  clear hK3 K3
  refine codeW_seq fun K4 hK4 => ?_
  refine codeW_seq fun K5 hK5 => codeW_reg ?_
  refine O_cons (W_it (W_mv rfl ?_))
  refine O_cons (W_it (W_lss rfl rfl ?_))
  refine O_cons (W_it (W_mv rfl ?_))
  first | refine O_cons (W_gyE rfl (by first | rfl | assumption) (W_mv rfl ?_)) | refine O_cons (W_gnE rfl (by first | rfl | assumption) ?_) | refine O_cons (W_gu rfl ?_)
  first | refine O_cons (W_gyE rfl (by first | rfl | assumption) (W_gtr rfl rfl ?_)) | refine O_cons (W_gnE rfl (by first | rfl | assumption) ?_) | refine O_cons (W_gu rfl ?_)
  first | refine O_cons (W_it (W_pickE rfl (by first | rfl | assumption) rfl ?_)) | refine O_cons (W_it (W_pickF rfl (by first | rfl | assumption) rfl ?_))
  refine O_nil (hK5 _ ?_)
  clear hK5 K5
  refine codeW_condF rfl (by first | rfl | assumption) ?_
  refine codeW_skip ?_
  refine (hK4 _ ?_ : K4 _)
  try clear hK4 K4
  refine codeW_seq fun K6 hK6 => ?_
  refine codeW_seq fun K7 hK7 => codeW_reg ?_
  refine O_cons (W_it (W_mv rfl ?_))
  refine O_cons (W_it (W_sub rfl rfl ?_))
  refine O_cons (W_it (W_mv rfl ?_))
  refine O_nil (hK7 _ ?_)
  clear hK7 K7
  refine codeW_block ?_
  refine codeW_weak (s' := ⟨[(8, .c (.p (.v (.int .i64 ((m : Int) - 1 - ((0 : Nat) : Int)))))), (7, .c (.own 0 0 1 (bs ++ digs x m 0).length .free)), (1, .c (.p (.v (.int .i64 x))))], [.pc 1 (bs ++ digs x m 0)]⟩) (Weak.ren [0] rfl (by decide) ⟨.inr ?_, trivial⟩ ⟨?_, ?_, rfl, trivial⟩) ?_
  · simp [digs]; rfl
  · show AV.c (.p (.v (.int .i64 (IntKind.i64.wrap ((m : Int) - 1))))) = AV.c (.p (.v (.int .i64 ((m : Int) - 1 - ((0 : Nat) : Int)))))
    rw [wrap64_id (by omega) (by omega)]
    simp
  · simp [digs]; rfl
  refine codeW_loop (fun k s => ∃ j : Nat, j + k = m ∧ s = ⟨[(8, .c (.p (.v (.int .i64 ((m : Int) - 1 - (j : Int)))))), (7, .c (.own 0 0 1 (bs ++ digs x m j).length .free)), (1, .c (.p (.v (.int .i64 x))))], [.pc 1 (bs ++ digs x m j)]⟩) m ⟨0, by omega, rfl⟩ ?_
  rintro k s ⟨j, hjk, rfl⟩ K hK
  refine codeW_seq fun K8 hK8 => ?_
  refine codeW_seq fun K9 hK9 => codeW_reg ?_
  refine O_cons (W_it (W_mv rfl ?_))
  refine O_cons (W_it (W_geq rfl rfl ?_))
  refine O_nil (hK9 _ ?_)
  clear hK9 K9
  refine codeW_cond rfl (fun hc1 => ?_) (fun hc1 => ?_)
  · have hj : j < m := by have := of_decide_eq_true hc1; omega
    refine codeW_skip ?_
    refine (hK8 _ ?_ : K8 _)
    try clear hK8 K8
    refine codeW_seq fun K10 hK10 => ?_
    refine codeW_block ?_
    refine codeW_reg ?_
    refine O_cons (W_it (W_mv rfl ?_))
    refine O_cons (W_it (W_mv rfl ?_))
    refine O_cons (W_it (W_mv rfl ?_))
    have e3 : (m : Int) - 1 - (j : Int) = ((m - 1 - j : Nat) : Int) := by omega
    rw [e3]
    refine O_cons (W_it (W_callF (digit_FS x (m - 1 - j) (by omega)) [] rfl (by decide) trivial ?_))
    rintro _ _ ⟨rfl, rfl⟩
    simp only [St.put, renAV, renAC, renReg, renAVs, setAll, upF, List.map_cons, List.map_nil, List.cons_append, List.nil_append, List.append_nil, List.set_cons_zero, List.set_cons_succ, List.length_cons, List.length_nil, Nat.reduceAdd, Nat.reduceLT, Nat.reduceSub, Nat.not_lt_zero, if_false, if_true, Nat.sub_zero, Nat.add_zero, Nat.zero_add]
    refine O_cons (W_it (W_bsl rfl ?_))
    refine O_cons (W_it (W_app_o rfl rfl rfl rfl (.inr rfl) rfl rfl ?_ ?_ ?_))
    · rw [List.length_append, digs_len]; omega
    · rw [List.length_append, digs_len]; omega
    refine O_cons (W_it (W_mv rfl ?_))
    refine O_nil ?_
    refine (hK10 _ ?_ : K10 _)
    try clear hK10 K10
    refine codeW_reg ?_
    refine O_cons (W_it (W_mv rfl ?_))
    refine O_cons (W_it (W_sub rfl rfl ?_))
    refine O_cons (W_it (W_mv rfl ?_))
    refine O_nil ?_
    refine hK _ ⟨k - 1, _, by omega, ?_, j + 1, by omega, rfl⟩
    refine Weak.ren [2] rfl (by decide) ⟨.inr ?_, trivial⟩ ⟨?_, ?_, rfl, trivial⟩
    · rw [digs_succ, ← List.append_assoc]
      rfl
    · show AV.c (.p (.v (.int .i64 (IntKind.i64.wrap (((m - 1 - j : Nat) : Int) - 1))))) = AV.c (.p (.v (.int .i64 ((m : Int) - 1 - ((j + 1 : Nat) : Int)))))
      rw [wrap64_id (by omega) (by omega), show ((m - 1 - j : Nat) : Int) - 1 = (m : Int) - 1 - ((j + 1 : Nat) : Int) by omega]
    · show AV.c (.own 2 0 1 ((bs ++ digs x m j).length + 1) .free) = AV.c (.own 2 0 1 (bs ++ digs x m (j + 1)).length .free)
      rw [show (bs ++ digs x m (j + 1)).length = (bs ++ digs x m j).length + 1 by simp [digs_len]; omega]
  · have hj : j = m := by have := of_decide_eq_false hc1; omega
    subst hj
    refine codeW_exit ?_
    refine (hK6 _ ?_ : K6 _)
    try clear hK6 K6
    refine codeW_seq fun K11 hK11 => codeW_reg ?_
    refine O_cons (W_it (W_mv rfl ?_))
    refine O_cons (W_it (W_mv rfl ?_))
    refine O_nil (hK11 _ ?_)
    clear hK11 K11
    refine codeW_ret (Fin.weak (.inr rfl) (s1 := ⟨[(6, .c (.own 0 0 1 (bs.length + j) .free))], [.pc 1 (bs ++ digs x j j)]⟩) (Weak.ren [0] rfl (by decide) ⟨.inr rfl, trivial⟩ ⟨?_, trivial⟩) ⟨rfl, rfl⟩)
    exact congrArg (fun n => AV.c (.own 0 0 1 n .free)) (by rw [List.length_append, digs_len])


theorem rnum_own_FS (bs : List (List PV)) (x : Int) (hb : bs.length ≤ 1000000000) :
    FS Try.prog 37 [.c (.p (.sl 1 bs)), .c (.p (.v (.int .i64 x)))] [] fun res rg => res = .c (.own 0 0 1 (bs.length + 8) .free) ∧ rg = [.pc 1 (bs ++ nums8 [x])] := by
  refine FS_def [4] 8 Try.func37 tr37 rfl ?_
  unfold ac37
  refine codeW_seq fun K1 hK1 => codeW_reg ?_
  refine O_cons (W_it (W_mv rfl ?_))
  refine O_nil (hK1 _ ?_)
  clear hK1 K1
  refine codeW_seq fun K2 hK2 => codeW_reg ?_
  refine O_cons (W_it (W_mv rfl ?_))
  refine O_cons (W_it (W_mv rfl ?_))
  refine O_cons (W_it (W_callF (rput_own_FS bs x 8 (by decide) (by decide) hb) [] rfl (by decide) trivial ?_))
  rintro _ _ ⟨rfl, rfl⟩
  simp only [St.put, renAV, renAC, renReg, renAVs, setAll, upF, List.map_cons, List.map_nil, List.cons_append, List.nil_append, List.append_nil, List.set_cons_zero, List.set_cons_succ, List.length_cons, List.length_nil, Nat.reduceAdd, Nat.reduceLT, Nat.reduceSub, Nat.not_lt_zero, if_false, if_true, Nat.sub_zero, Nat.add_zero, Nat.zero_add]
  refine O_cons (W_it (W_mv rfl ?_))
  refine O_nil (hK2 _ ?_)
  clear hK2 K2
  refine codeW_ret (Fin.here (.inr rfl) ⟨rfl, ?_⟩)
  rw [← digs8]


theorem rsmall_own_FS (bs : List (List PV)) (x : Int) (hb : bs.length ≤ 1000000000) :
    FS Try.prog 35 [.c (.p (.sl 1 bs)), .c (.p (.v (.int .i64 x)))] [] fun res rg => res = .c (.own 0 0 1 (bs.length + 8) .free) ∧ rg = [.pc 1 (bs ++ nums8 [x])] := by
  refine FS_def [4] 8 Try.func35 tr35 rfl ?_
  unfold ac35
  refine codeW_seq fun K1 hK1 => codeW_reg ?_
  refine O_cons (W_it (W_mv rfl ?_))
  refine O_nil (hK1 _ ?_)
  clear hK1 K1
  refine codeW_seq fun K2 hK2 => codeW_reg ?_
  refine O_cons (W_it (W_mv rfl ?_))
  refine O_cons (W_it (W_mv rfl ?_))
  refine O_cons (W_it (W_callF (rnum_own_FS bs x hb) [] rfl (by decide) trivial ?_))
  rintro _ _ ⟨rfl, rfl⟩
  simp only [St.put, renAV, renAC, renReg, renAVs, setAll, upF, List.map_cons, List.map_nil, List.cons_append, List.nil_append, List.append_nil, List.set_cons_zero, List.set_cons_succ, List.length_cons, List.length_nil, Nat.reduceAdd, Nat.reduceLT, Nat.reduceSub, Nat.not_lt_zero, if_false, if_true, Nat.sub_zero, Nat.add_zero, Nat.zero_add]
  refine O_cons (W_it (W_mv rfl ?_))
  refine O_nil (hK2 _ ?_)
  clear hK2 K2
  exact codeW_ret (Fin.here (.inr rfl) ⟨rfl, rfl⟩)

def ac22 : ACode := (.seq (.reg [⟨none, (some 1), (.box (some 1) (.t 0))⟩, ⟨none, (some 2), (.mv (some 2) (.k (.slice none 0 0)))⟩]) (.seq (.reg [⟨none, (some 3), (.mv (some 3) (.k (.slice none 0 0)))⟩]) (.seq (.reg [⟨none, (some 6), (.mv (some 6) (.t 3))⟩, ⟨none, (some 7), (.fad (some 7) 0 (.t 1))⟩, ⟨none, (some 8), (.load (some 8) 1 false (.t 7))⟩, ⟨none, (some 9), (.len (some 9) (.t 8))⟩, ⟨none, (some 10), (.call (some 10) 35 [(.t 6), (.t 9)])⟩, ⟨none, (some 3), (.mv (some 3) (.t 10))⟩]) (.seq (.seq (.reg [⟨none, (some 4), (.mv (some 4) (.k (.int .i64 0)))⟩]) (.block 0 (.loop (.seq (.seq (.reg [⟨none, (some 11), (.mv (some 11) (.t 4))⟩, ⟨none, (some 12), (.fad (some 12) 0 (.t 1))⟩, ⟨none, (some 13), (.load (some 13) 1 false (.t 12))⟩, ⟨none, (some 14), (.len (some 14) (.t 13))⟩, ⟨none, (some 15), (.bin (some 15) .lss (.t 11) (.t 14))⟩]) (.cond (.t 15) .skip (.exit 0))) (.seq (.block 1 (.reg [⟨none, (some 18), (.mv (some 18) (.t 3))⟩, ⟨none, (some 19), (.fad (some 19) 0 (.t 1))⟩, ⟨none, (some 20), (.load (some 20) 1 false (.t 19))⟩, ⟨none, (some 21), (.mv (some 21) (.t 4))⟩, ⟨none, (some 22), (.ixs (some 22) 22 (.t 20) (.t 21))⟩, ⟨none, (some 23), (.load (some 23) 22 true (.t 22))⟩, ⟨none, (some 24), (.call (some 24) 16 [(.t 23)])⟩, ⟨none, (some 25), (.app (some 25) 1 1 (.t 18) (.t 24))⟩, ⟨none, (some 3), (.mv (some 3) (.t 25))⟩])) (.reg [⟨none, (some 16), (.mv (some 16) (.t 4))⟩, ⟨none, (some 17), (.bin (some 17) .add (.t 16) (.k (.int .i64 1)))⟩, ⟨none, (some 4), (.mv (some 4) (.t 17))⟩])))))) (.seq (.reg [⟨none, (some 26), (.mv (some 26) (.t 3))⟩, ⟨none, (some 27), (.fad (some 27) 1 (.t 1))⟩, ⟨none, (some 28), (.load (some 28) 1 false (.t 27))⟩, ⟨none, (some 29), (.len (some 29) (.t 28))⟩, ⟨none, (some 30), (.call (some 30) 35 [(.t 26), (.t 29)])⟩, ⟨none, (some 3), (.mv (some 3) (.t 30))⟩]) (.seq (.seq (.reg [⟨none, (some 5), (.mv (some 5) (.k (.int .i64 0)))⟩]) (.block 2 (.loop (.seq (.seq (.reg [⟨none, (some 31), (.mv (some 31) (.t 5))⟩, ⟨none, (some 32), (.fad (some 32) 1 (.t 1))⟩, ⟨none, (some 33), (.load (some 33) 1 false (.t 32))⟩, ⟨none, (some 34), (.len (some 34) (.t 33))⟩, ⟨none, (some 35), (.bin (some 35) .lss (.t 31) (.t 34))⟩]) (.cond (.t 35) .skip (.exit 2))) (.seq (.block 3 (.reg [⟨none, (some 38), (.mv (some 38) (.t 3))⟩, ⟨none, (some 39), (.fad (some 39) 1 (.t 1))⟩, ⟨none, (some 40), (.load (some 40) 1 false (.t 39))⟩, ⟨none, (some 41), (.mv (some 41) (.t 5))⟩, ⟨none, (some 42), (.ixs (some 42) 1 (.t 40) (.t 41))⟩, ⟨none, (some 43), (.load (some 43) 1 false (.t 42))⟩, ⟨none, (some 44), (.call (some 44) 18 [(.t 43)])⟩, ⟨none, (some 45), (.app (some 45) 1 1 (.t 38) (.t 44))⟩, ⟨none, (some 3), (.mv (some 3) (.t 45))⟩])) (.reg [⟨none, (some 36), (.mv (some 36) (.t 5))⟩, ⟨none, (some 37), (.bin (some 37) .add (.t 36) (.k (.int .i64 1)))⟩, ⟨none, (some 5), (.mv (some 5) (.t 37))⟩])))))) (.seq (.reg [⟨none, (some 46), (.mv (some 46) (.t 3))⟩, ⟨none, (some 47), (.load (some 47) 9 true (.t 1))⟩, ⟨none, (some 48), (.call (some 48) 20 [(.t 47)])⟩, ⟨none, (some 49), (.app (some 49) 1 1 (.t 46) (.t 48))⟩, ⟨none, (some 2), (.mv (some 2) (.t 49))⟩]) .ret)))))))
theorem tr22 : ((Try.f22.name == "runtime.NumGoroutine") = false ∧ Try.f22.results = ([2].map ResultVar.tmp).toArray) ∧ Try.f22.ntmps = 50 ∧ (Try.f22.body.bind (trCode Try.prog Try.f22.ntmps)) = some ac22 := ⟨⟨by kernel_rfl, by kernel_rfl⟩, by kernel_rfl, by kernel_rfl⟩


theorem rput22_FS (st : Sta) (hb : st.weight ≤ 900000000) :
    FS Try.prog 22 [.agg (st.row.map .p)] [] fun res rg => res = .c (.p (.sl 1 st.octets)) ∧ rg = [] := by
  refine FS_def [2] 50 Try.func22 tr22 rfl ?_
  unfold ac22
  have hb2 : thrW st.threads + bufW st.buffers + st.bulk + 2000 ≤ 900000000 := hb
  refine codeW_seq fun K1 hK1 => codeW_reg ?_
  refine O_cons (W_it (W_box rfl ?_))
  refine O_cons (W_it (W_mv rfl ?_))
  refine O_nil (hK1 _ ?_)
  clear hK1 K1
  refine codeW_seq fun K2 hK2 => codeW_reg ?_
  refine O_cons (W_it (W_mv rfl ?_))
  refine O_nil (hK2 _ ?_)
  clear hK2 K2
  refine codeW_weak (s' := ⟨[(3, .c (.p (.v (.slice none 0 0)))), (1, .c (.rp st.row))], [.dead]⟩) (Weak.box 0 st.row rfl ⟨.inl rfl, .inr ⟨0, rfl, Nat.zero_le _, rfl⟩, trivial⟩ ⟨t_dead (by decide), trivial⟩) ?_
  refine codeW_weak (s' := ⟨[(3, .c (.p (.sl 1 []))), (1, .c (.rp st.row))], [.dead]⟩) (Weak.imp ⟨.inr (.inl ⟨1, by decide, rfl, rfl⟩), .inl rfl, trivial⟩ ⟨t_keep (fun _ => .inl rfl) (by decide), trivial⟩) ?_
  refine codeW_weak (s' := ⟨[(3, .c (.p (.sl 1 []))), (1, .c (.rp st.row))], []⟩) (Weak.ren [] rfl (by decide) trivial ⟨rfl, rfl, trivial⟩) ?_
  refine codeW_seq fun K3 hK3 => codeW_reg ?_
  refine O_cons (W_it (W_mv rfl ?_))
  first | refine O_cons (W_it (W_fad_p rfl ?_)) | refine O_cons (W_it (W_fad_e rfl ?_)) | refine O_cons (W_it (W_fad_r rfl ?_))
  first | refine O_cons (W_it (W_load_p rfl rfl rfl rfl ?_)) | refine O_cons (W_it (W_load_r rfl rfl rfl ?_)) | refine O_cons (W_it (W_load_e rfl rfl rfl rfl rfl ?_))
  refine O_cons (W_it (W_len rfl ?_))
  rw [List.length_map]
  refine O_cons (W_it (W_callF (rsmall_own_FS _ _ ?_) [] rfl (by decide) trivial ?_))
  · exact Nat.zero_le _
  rintro _ _ ⟨rfl, rfl⟩
  simp only [St.put, renAV, renAC, renReg, renAVs, setAll, upF, List.map_cons, List.map_nil, List.cons_append, List.nil_append, List.append_nil, List.set_cons_zero, List.set_cons_succ, List.length_cons, List.length_nil, Nat.reduceAdd, Nat.reduceLT, Nat.reduceSub, Nat.not_lt_zero, if_false, if_true, Nat.sub_zero, Nat.add_zero, Nat.zero_add]
  refine O_cons (W_it (W_mv rfl ?_))
  refine O_nil (hK3 _ ?_)
  clear hK3 K3
  refine codeW_seq fun K4 hK4 => ?_
  refine codeW_seq fun K5 hK5 => codeW_reg ?_
  refine O_cons (W_it (W_mv rfl ?_))
  refine O_nil (hK5 _ ?_)
  clear hK5 K5
  refine codeW_block ?_
  refine codeW_weak (s' := ⟨[(4, .c (.p (.v (.int .i64 ((0 : Nat) : Int))))), (3, .c (.own 0 0 1 ((st.tp 0).length) .free)), (1, .c (.rp st.row))], [.pc 1 (st.tp 0)]⟩) (Weak.ren [0] rfl (by decide) ⟨.inr ?_, trivial⟩ ⟨rfl, ?_, rfl, trivial⟩) ?_
  · rw [st.tp_zero]; rfl
  · exact congrArg (fun n => AV.c (.own 0 0 1 n .free)) (by rw [st.tp_zero, nums8_len]; rfl)
  refine codeW_loop (fun k s => ∃ i : Nat, i + k = st.threads.length ∧ s = ⟨[(4, .c (.p (.v (.int .i64 (i : Int))))), (3, .c (.own 0 0 1 ((st.tp i).length) .free)), (1, .c (.rp st.row))], [.pc 1 (st.tp i)]⟩) (st.threads.length) ⟨0, by omega, rfl⟩ ?_
  rintro k s ⟨i, hik, rfl⟩ K hK
  refine codeW_seq fun K6 hK6 => ?_
  refine codeW_seq fun K7 hK7 => codeW_reg ?_
  refine O_cons (W_it (W_mv rfl ?_))
  first | refine O_cons (W_it (W_fad_p rfl ?_)) | refine O_cons (W_it (W_fad_e rfl ?_)) | refine O_cons (W_it (W_fad_r rfl ?_))
  first | refine O_cons (W_it (W_load_p rfl rfl rfl rfl ?_)) | refine O_cons (W_it (W_load_r rfl rfl rfl ?_)) | refine O_cons (W_it (W_load_e rfl rfl rfl rfl rfl ?_))
  refine O_cons (W_it (W_len rfl ?_))
  rw [List.length_map]
  refine O_cons (W_it (W_lss rfl rfl ?_))
  refine O_nil (hK7 _ ?_)
  clear hK7 K7
  refine codeW_cond rfl (fun hc0 => ?_) (fun hc0 => ?_)
  · have hi : i < st.threads.length := by have := of_decide_eq_true hc0; omega
    have q1 := st.tp_len i
    have q2 := thrW_get _ _ hi
    have q4 := thrW_len st.threads
    have q3 := (st.threads[i]'hi).octets_len
    refine codeW_skip ?_
    refine (hK6 _ ?_ : K6 _)
    try clear hK6 K6
    refine codeW_seq fun K8 hK8 => ?_
    refine codeW_block ?_
    refine codeW_reg ?_
    refine O_cons (W_it (W_mv rfl ?_))
    first | refine O_cons (W_it (W_fad_p rfl ?_)) | refine O_cons (W_it (W_fad_e rfl ?_)) | refine O_cons (W_it (W_fad_r rfl ?_))
    first | refine O_cons (W_it (W_load_p rfl rfl rfl rfl ?_)) | refine O_cons (W_it (W_load_r rfl rfl rfl ?_)) | refine O_cons (W_it (W_load_e rfl rfl rfl rfl rfl ?_))
    refine O_cons (W_it (W_mv rfl ?_))
    first | refine O_cons (W_it (W_ixs_s rfl rfl (by omega) (thr_geti (i := i) hi) ?_)) | refine O_cons (W_it (W_ixs_o rfl rfl (by omega) (by omega) ?_))
    first | refine O_cons (W_it (W_load_p rfl rfl rfl rfl ?_)) | refine O_cons (W_it (W_load_r rfl rfl rfl ?_)) | refine O_cons (W_it (W_load_e rfl rfl rfl rfl rfl ?_))
    refine O_cons (W_it (W_callF (rthread_FS (st.threads[i]'hi) ?_) [] rfl (by decide) trivial ?_))
    · omega
    rintro _ _ ⟨rfl, rfl⟩
    simp only [St.put, renAV, renAC, renReg, renAVs, setAll, upF, List.map_cons, List.map_nil, List.cons_append, List.nil_append, List.append_nil, List.set_cons_zero, List.set_cons_succ, List.length_cons, List.length_nil, Nat.reduceAdd, Nat.reduceLT, Nat.reduceSub, Nat.not_lt_zero, if_false, if_true, Nat.sub_zero, Nat.add_zero, Nat.zero_add]
    refine O_cons (W_it (W_app_o rfl rfl rfl rfl (.inr rfl) rfl rfl (by omega) (by omega) ?_))
    refine O_cons (W_it (W_mv rfl ?_))
    refine O_nil ?_
    refine (hK8 _ ?_ : K8 _)
    try clear hK8 K8
    refine codeW_reg ?_
    refine O_cons (W_it (W_mv rfl ?_))
    refine O_cons (W_it (W_add rfl rfl ?_))
    refine O_cons (W_it (W_mv rfl ?_))
    refine O_nil ?_
    refine hK _ ⟨k - 1, _, by omega, ?_, i + 1, by omega, rfl⟩
    refine Weak.ren [1] rfl (by decide) ⟨.inr ?_, trivial⟩ ⟨?_, ?_, rfl, trivial⟩
    · rw [st.tp_succ i hi]
      rfl
    · show AV.c (.p (.v (.int .i64 (IntKind.i64.wrap ((i : Int) + 1))))) = AV.c (.p (.v (.int .i64 ((i + 1 : Nat) : Int))))
      rw [wrap64_id (by omega) (by omega)]
      rfl
    · exact congrArg (fun n => AV.c (.own 1 0 1 n .free)) (by rw [st.tp_succ i hi, List.length_append])
  · have hi : i = st.threads.length := by have := of_decide_eq_false hc0; omega
    subst hi
    refine codeW_exit ?_
    refine (hK4 _ ?_ : K4 _)
    try clear hK4 K4
    refine codeW_weak (s' := ⟨[(3, .c (.p (.sl 1 (st.tp st.threads.length)))), (1, .c (.rp st.row))], [.dead]⟩) (Weak.freeze 0 1 (st.tp st.threads.length) rfl (by have := st.tp_len st.threads.length; omega) ⟨frz_full rfl, .inl rfl, trivial⟩ ⟨frz_dead, trivial⟩) ?_
    refine codeW_weak (s' := ⟨[(3, .c (.p (.sl 1 (st.tp st.threads.length)))), (1, .c (.rp st.row))], []⟩) (Weak.ren [] rfl (by decide) trivial ⟨rfl, rfl, trivial⟩) ?_
    refine codeW_seq fun K9 hK9 => codeW_reg ?_
    refine O_cons (W_it (W_mv rfl ?_))
    first | refine O_cons (W_it (W_fad_p rfl ?_)) | refine O_cons (W_it (W_fad_e rfl ?_)) | refine O_cons (W_it (W_fad_r rfl ?_))
    first | refine O_cons (W_it (W_load_p rfl rfl rfl rfl ?_)) | refine O_cons (W_it (W_load_r rfl rfl rfl ?_)) | refine O_cons (W_it (W_load_e rfl rfl rfl rfl rfl ?_))
    refine O_cons (W_it (W_len rfl ?_))
    rw [List.length_map]
    refine O_cons (W_it (W_callF (rsmall_own_FS _ _ ?_) [] rfl (by decide) trivial ?_))
    · have := st.tp_len st.threads.length; omega
    rintro _ _ ⟨rfl, rfl⟩
    simp only [St.put, renAV, renAC, renReg, renAVs, setAll, upF, List.map_cons, List.map_nil, List.cons_append, List.nil_append, List.append_nil, List.set_cons_zero, List.set_cons_succ, List.length_cons, List.length_nil, Nat.reduceAdd, Nat.reduceLT, Nat.reduceSub, Nat.not_lt_zero, if_false, if_true, Nat.sub_zero, Nat.add_zero, Nat.zero_add]
    refine O_cons (W_it (W_mv rfl ?_))
    refine O_nil (hK9 _ ?_)
    clear hK9 K9
    refine codeW_seq fun K10 hK10 => ?_
    refine codeW_seq fun K11 hK11 => codeW_reg ?_
    refine O_cons (W_it (W_mv rfl ?_))
    refine O_nil (hK11 _ ?_)
    clear hK11 K11
    refine codeW_block ?_
    refine codeW_weak (s' := ⟨[(5, .c (.p (.v (.int .i64 ((0 : Nat) : Int))))), (3, .c (.own 0 0 1 ((st.bp 0).length) .free)), (1, .c (.rp st.row))], [.pc 1 (st.bp 0)]⟩) (Weak.ren [0] rfl (by decide) ⟨.inr ?_, trivial⟩ ⟨rfl, ?_, rfl, trivial⟩) ?_
    · rw [st.bp_zero]; rfl
    · exact congrArg (fun n => AV.c (.own 0 0 1 n .free)) (by rw [st.bp_zero, List.length_append, nums8_len]; rfl)
    refine codeW_loop (fun k s => ∃ i : Nat, i + k = st.buffers.length ∧ s = ⟨[(5, .c (.p (.v (.int .i64 (i : Int))))), (3, .c (.own 0 0 1 ((st.bp i).length) .free)), (1, .c (.rp st.row))], [.pc 1 (st.bp i)]⟩) (st.buffers.length) ⟨0, by omega, rfl⟩ ?_
    rintro k s ⟨i, hik, rfl⟩ K hK
    refine codeW_seq fun K12 hK12 => ?_
    refine codeW_seq fun K13 hK13 => codeW_reg ?_
    refine O_cons (W_it (W_mv rfl ?_))
    first | refine O_cons (W_it (W_fad_p rfl ?_)) | refine O_cons (W_it (W_fad_e rfl ?_)) | refine O_cons (W_it (W_fad_r rfl ?_))
    first | refine O_cons (W_it (W_load_p rfl rfl rfl rfl ?_)) | refine O_cons (W_it (W_load_r rfl rfl rfl ?_)) | refine O_cons (W_it (W_load_e rfl rfl rfl rfl rfl ?_))
    refine O_cons (W_it (W_len rfl ?_))
    rw [List.length_map]
    refine O_cons (W_it (W_lss rfl rfl ?_))
    refine O_nil (hK13 _ ?_)
    clear hK13 K13
    refine codeW_cond rfl (fun hc1 => ?_) (fun hc1 => ?_)
    · have hi : i < st.buffers.length := by have := of_decide_eq_true hc1; omega
      have q1 := st.bp_len i
      have q2 := bufW_get _ _ hi
      have q4 := bufW_len st.buffers
      have q3 := bufOctets_len (st.buffers[i]'hi)
      refine codeW_skip ?_
      refine (hK12 _ ?_ : K12 _)
      try clear hK12 K12
      refine codeW_seq fun K14 hK14 => ?_
      refine codeW_block ?_
      refine codeW_reg ?_
      refine O_cons (W_it (W_mv rfl ?_))
      first | refine O_cons (W_it (W_fad_p rfl ?_)) | refine O_cons (W_it (W_fad_e rfl ?_)) | refine O_cons (W_it (W_fad_r rfl ?_))
      first | refine O_cons (W_it (W_load_p rfl rfl rfl rfl ?_)) | refine O_cons (W_it (W_load_r rfl rfl rfl ?_)) | refine O_cons (W_it (W_load_e rfl rfl rfl rfl rfl ?_))
      refine O_cons (W_it (W_mv rfl ?_))
      first | refine O_cons (W_it (W_ixs_s rfl rfl (by omega) (buf_geti (i := i) hi) ?_)) | refine O_cons (W_it (W_ixs_o rfl rfl (by omega) (by omega) ?_))
      first | refine O_cons (W_it (W_load_p rfl rfl rfl rfl ?_)) | refine O_cons (W_it (W_load_r rfl rfl rfl ?_)) | refine O_cons (W_it (W_load_e rfl rfl rfl rfl rfl ?_))
      refine O_cons (W_it (W_callF (rbuffer_FS (st.buffers[i]'hi) ?_) [] rfl (by decide) trivial ?_))
      · omega
      rintro _ _ ⟨rfl, rfl⟩
      simp only [St.put, renAV, renAC, renReg, renAVs, setAll, upF, List.map_cons, List.map_nil, List.cons_append, List.nil_append, List.append_nil, List.set_cons_zero, List.set_cons_succ, List.length_cons, List.length_nil, Nat.reduceAdd, Nat.reduceLT, Nat.reduceSub, Nat.not_lt_zero, if_false, if_true, Nat.sub_zero, Nat.add_zero, Nat.zero_add]
      refine O_cons (W_it (W_app_o rfl rfl rfl rfl (.inr rfl) rfl rfl (by omega) (by omega) ?_))
      refine O_cons (W_it (W_mv rfl ?_))
      refine O_nil ?_
      refine (hK14 _ ?_ : K14 _)
      try clear hK14 K14
      refine codeW_reg ?_
      refine O_cons (W_it (W_mv rfl ?_))
      refine O_cons (W_it (W_add rfl rfl ?_))
      refine O_cons (W_it (W_mv rfl ?_))
      refine O_nil ?_
      refine hK _ ⟨k - 1, _, by omega, ?_, i + 1, by omega, rfl⟩
      refine Weak.ren [1] rfl (by decide) ⟨.inr ?_, trivial⟩ ⟨?_, ?_, rfl, trivial⟩
      · rw [st.bp_succ i hi]
        rfl
      · show AV.c (.p (.v (.int .i64 (IntKind.i64.wrap ((i : Int) + 1))))) = AV.c (.p (.v (.int .i64 ((i + 1 : Nat) : Int))))
        rw [wrap64_id (by omega) (by omega)]
        rfl
      · exact congrArg (fun n => AV.c (.own 1 0 1 n .free)) (by rw [st.bp_succ i hi, List.length_append])
    · have hi : i = st.buffers.length := by have := of_decide_eq_false hc1; omega
      subst hi
      refine codeW_exit ?_
      refine (hK10 _ ?_ : K10 _)
      try clear hK10 K10
      refine codeW_seq fun K15 hK15 => codeW_reg ?_
      refine O_cons (W_it (W_mv rfl ?_))
      first | refine O_cons (W_it (W_load_p rfl rfl rfl rfl ?_)) | refine O_cons (W_it (W_load_r rfl rfl rfl ?_)) | refine O_cons (W_it (W_load_e rfl rfl rfl rfl rfl ?_))
      refine O_cons (W_it (W_callF (rshared_FS st ?_) [] rfl (by decide) trivial ?_))
      · omega
      rintro _ _ ⟨rfl, rfl⟩
      simp only [St.put, renAV, renAC, renReg, renAVs, setAll, upF, List.map_cons, List.map_nil, List.cons_append, List.nil_append, List.append_nil, List.set_cons_zero, List.set_cons_succ, List.length_cons, List.length_nil, Nat.reduceAdd, Nat.reduceLT, Nat.reduceSub, Nat.not_lt_zero, if_false, if_true, Nat.sub_zero, Nat.add_zero, Nat.zero_add]
      refine O_cons (W_it (W_app_o rfl rfl rfl rfl (.inr rfl) rfl rfl (by have := st.bp_len st.buffers.length; have := st.shared_len; omega) (by have := st.bp_len st.buffers.length; have := st.shared_len; omega) ?_))
      refine O_cons (W_it (W_mv rfl ?_))
      refine O_nil (hK15 _ ?_)
      clear hK15 K15
      refine codeW_ret (Fin.weak (.inr rfl) (s1 := ⟨[(2, .c (.p (.sl 1 st.octets)))], []⟩) ?_ ⟨rfl, rfl⟩)
      refine Weak.trans (s' := ⟨[(2, .c (.own 0 0 1 ((st.bp st.buffers.length).length + st.sharedOctets.length) .free))], [.pc 1 st.octets]⟩) (Weak.ren [1] rfl (by decide) ⟨.inr rfl, trivial⟩ ⟨rfl, trivial⟩) ?_
      refine Weak.trans (s' := ⟨[(2, .c (.p (.sl 1 st.octets)))], [.dead]⟩) (Weak.freeze 0 1 st.octets rfl ?_ ⟨frz_full ?_, trivial⟩ ⟨frz_dead, trivial⟩) (Weak.ren [] rfl (by decide) trivial ⟨rfl, trivial⟩)
      · rw [Sta.octets, List.length_append]; have := st.bp_len st.buffers.length; have := st.shared_len; omega
      · rw [Sta.octets, List.length_append]

end Go.Sim
