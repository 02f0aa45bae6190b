import Derived.Test.YtcfheegmggfkfaaSimU
import Derived.Test.YtcfheegmggfkfaaCodeA
import Derived.Test.YtcfheegmggfkfaaChecked
import Derived.KernelRfl
namespace Go.Sim
open Go.RowKit Go.Proofs.Ytcfheegmggfkfaa.B Go.Proofs
set_option maxRecDepth 100000
set_option linter.unusedSimpArgs false
set_option linter.unusedVariables false


theorem nums8_one (n : Int) : nums8 [n] = (be8 8 (IntKind.u64.wrap n) 8).take 8 := by simp [nums8]
theorem num1_own_FS (bs : List (List PV)) (n : Int) (hb : bs.length ≤ 1000000000) :
    FS Try.prog 31 [.c (.ptr 0 0), .c (.p (.sl 1 (ints .i64 [n])))] [.ac [.p (.sl 1 bs)]] fun res rg => res = .tup [] ∧ rg = [.ac [.own 1 0 1 (bs.length + 8) .free], .pc 1 (bs ++ nums8 [n])] := by
  refine FS_def [] 22 Try.func31 tr31 rfl ?_
  unfold ac31
  refine codeW_seq fun K1 hK1 => codeW_reg ?_
  refine O_cons (W_it (W_mv rfl ?_))
  refine O_cons (W_it (W_len rfl ?_))
  refine O_cons (W_it (W_mv rfl ?_))
  refine O_nil (hK1 _ ?_)
  clear hK1 K1
  refine codeW_block ?_
  refine codeW_weak (s' := ⟨[(8, .c (.p (.v (.int .i64 ((0 : Nat) : Int))))), (7, .c (.p (.v (.int .i64 ((1 : Nat) : Int))))), (6, .c (.p (.sl 1 (ints .i64 [n])))), (0, .c (.ptr 0 0))], [.ac [.p (.sl 1 bs)]]⟩) (Weak.ren [0] rfl (by decide) ⟨.inr rfl, trivial⟩ ⟨rfl, rfl, rfl, rfl, trivial⟩) ?_
  refine codeW_loop (fun k s => (k = 1 ∧ s = ⟨[(8, .c (.p (.v (.int .i64 ((0 : Nat) : Int))))), (7, .c (.p (.v (.int .i64 ((1 : Nat) : Int))))), (6, .c (.p (.sl 1 (ints .i64 [n])))), (0, .c (.ptr 0 0))], [.ac [.p (.sl 1 bs)]]⟩) ∨ (k = 0 ∧ s = ⟨[(8, .c (.p (.v (.int .i64 ((1 : Nat) : Int))))), (7, .c (.p (.v (.int .i64 ((1 : Nat) : Int))))), (6, .c (.p (.sl 1 (ints .i64 [n])))), (0, .c (.ptr 0 0))], [.ac [.own 1 0 1 (bs.length + 8) .free], .pc 1 (bs ++ nums8 [n])]⟩)) 1 (.inl ⟨rfl, rfl⟩) ?_
  rintro k s (⟨rfl, rfl⟩ | ⟨rfl, rfl⟩) K hK
  · refine codeW_seq fun K2 hK2 => codeW_reg ?_
    refine O_cons (W_it (W_lss rfl rfl ?_))
    refine O_nil (hK2 _ ?_)
    clear hK2 K2
    refine codeW_seq fun K3 hK3 => ?_
    refine codeW_condT rfl (by first | rfl | assumption) ?_
    refine codeW_skip ?_
    refine (hK3 _ ?_ : K3 _)
    try clear hK3 K3
    refine codeW_seq fun K4 hK4 => ?_
    refine codeW_block ?_
    refine codeW_seq fun K5 hK5 => codeW_reg ?_
    first | refine O_cons (W_it (W_ixs_s rfl rfl (by omega) rfl ?_)) | refine O_cons (W_it (W_ixs_o rfl rfl (by omega) (by omega) ?_))
    first | refine O_cons (W_it (W_load_p rfl rfl rfl rfl ?_)) | refine O_cons (W_it (W_load_r rfl rfl rfl ?_)) | refine O_cons (W_it (W_load_e rfl rfl rfl rfl rfl ?_))
    refine O_cons (W_it (W_mv rfl ?_))
    refine O_nil (hK5 _ ?_)
    clear hK5 K5
    refine codeW_reg ?_
    refine O_cons (W_it (W_mv rfl ?_))
    refine O_cons (W_it (W_mv rfl ?_))
    refine O_cons (W_it (W_nilc rfl rfl ?_))
    first | refine O_cons (W_it (W_fad_p rfl ?_)) | refine O_cons (W_it (W_fad_e rfl ?_)) | refine O_cons (W_it (W_fad_r rfl ?_))
    first | refine O_cons (W_it (W_load_p rfl rfl rfl rfl ?_)) | refine O_cons (W_it (W_load_r rfl rfl rfl ?_)) | refine O_cons (W_it (W_load_e rfl rfl rfl rfl rfl ?_))
    refine O_cons (W_it (W_mv rfl ?_))
    refine O_cons (W_it (W_callF (put_own_FS bs n 8 (by decide) (by decide) hb) [] rfl (by decide) trivial ?_))
    rintro _ _ ⟨rfl, rfl⟩
    simp only [St.put, renAV, renAC, renReg, renAVs, setAll, upF, List.map_cons, List.map_nil, List.cons_append, List.nil_append, List.append_nil, List.set_cons_zero, List.set_cons_succ, List.length_cons, List.length_nil, Nat.reduceAdd, Nat.reduceLT, Nat.reduceSub, Nat.not_lt_zero, if_false, if_true, Nat.sub_zero, Nat.add_zero, Nat.zero_add]
    refine O_cons (W_it (W_nilc rfl rfl ?_))
    first | refine O_cons (W_it (W_fad_p rfl ?_)) | refine O_cons (W_it (W_fad_e rfl ?_)) | refine O_cons (W_it (W_fad_r rfl ?_))
    first | refine O_cons (W_it (W_store_p rfl rfl rfl rfl rfl rfl ?_)) | refine O_cons (W_it (W_store_e rfl rfl rfl rfl rfl rfl rfl ?_))
    refine O_nil ?_
    refine (hK4 _ ?_ : K4 _)
    try clear hK4 K4
    refine codeW_reg ?_
    refine O_cons (W_it (W_add rfl rfl ?_))
    refine O_cons (W_it (W_mv rfl ?_))
    refine O_nil ?_
    refine hK _ ⟨0, _, by omega, ?_, .inr ⟨rfl, rfl⟩⟩
    refine Weak.ren [0, 1] rfl (by decide) ⟨.inr rfl, .inr ?_, trivial⟩ ⟨rfl, rfl, rfl, rfl, trivial⟩
    rw [nums8_one]
    rfl
  · refine codeW_seq fun K6 hK6 => codeW_reg ?_
    refine O_cons (W_it (W_lss rfl rfl ?_))
    refine O_nil (hK6 _ ?_)
    clear hK6 K6
    refine codeW_seq fun K7 hK7 => ?_
    refine codeW_condF rfl (by first | rfl | assumption) ?_
    refine codeW_exit ?_
    exact Fin.here (.inl rfl) ⟨rfl, rfl⟩


theorem small1_own_FS (bs : List (List PV)) (n : Int) (hb : bs.length ≤ 1000000000) :
    FS Try.prog 29 [.c (.ptr 0 0), .c (.p (.sl 1 (ints .i64 [n])))] [.ac [.p (.sl 1 bs)]] fun res rg => res = .tup [] ∧ rg = [.ac [.own 1 0 1 (bs.length + 8) .free], .pc 1 (bs ++ nums8 [n])] := by
  refine FS_def [] 17 Try.func29 tr29 rfl ?_
  unfold ac29
  refine codeW_seq fun K1 hK1 => codeW_reg ?_
  refine O_cons (W_it (W_mv rfl ?_))
  refine O_cons (W_it (W_len rfl ?_))
  refine O_cons (W_it (W_mv rfl ?_))
  refine O_nil (hK1 _ ?_)
  clear hK1 K1
  refine codeW_block ?_
  refine codeW_weak (s' := ⟨[(8, .c (.p (.v (.int .i64 ((0 : Nat) : Int))))), (7, .c (.p (.v (.int .i64 ((1 : Nat) : Int))))), (6, .c (.p (.sl 1 (ints .i64 [n])))), (0, .c (.ptr 0 0))], [.ac [.p (.sl 1 bs)]]⟩) (Weak.ren [0] rfl (by decide) ⟨.inr rfl, trivial⟩ ⟨rfl, rfl, rfl, rfl, trivial⟩) ?_
  refine codeW_loop (fun k s => (k = 1 ∧ s = ⟨[(8, .c (.p (.v (.int .i64 ((0 : Nat) : Int))))), (7, .c (.p (.v (.int .i64 ((1 : Nat) : Int))))), (6, .c (.p (.sl 1 (ints .i64 [n])))), (0, .c (.ptr 0 0))], [.ac [.p (.sl 1 bs)]]⟩) ∨ (k = 0 ∧ s = ⟨[(8, .c (.p (.v (.int .i64 ((1 : Nat) : Int))))), (7, .c (.p (.v (.int .i64 ((1 : Nat) : Int))))), (6, .c (.p (.sl 1 (ints .i64 [n])))), (0, .c (.ptr 0 0))], [.ac [.own 1 0 1 (bs.length + 8) .free], .pc 1 (bs ++ nums8 [n])]⟩)) 1 (.inl ⟨rfl, rfl⟩) ?_
  rintro k s (⟨rfl, rfl⟩ | ⟨rfl, rfl⟩) K hK
  · refine codeW_seq fun K2 hK2 => codeW_reg ?_
    refine O_cons (W_it (W_lss rfl rfl ?_))
    refine O_nil (hK2 _ ?_)
    clear hK2 K2
    refine codeW_seq fun K3 hK3 => ?_
    refine codeW_condT rfl (by first | rfl | assumption) ?_
    refine codeW_skip ?_
    refine (hK3 _ ?_ : K3 _)
    try clear hK3 K3
    refine codeW_seq fun K4 hK4 => ?_
    refine codeW_block ?_
    refine codeW_seq fun K5 hK5 => codeW_reg ?_
    first | refine O_cons (W_it (W_ixs_s rfl rfl (by omega) rfl ?_)) | refine O_cons (W_it (W_ixs_o rfl rfl (by omega) (by omega) ?_))
    first | refine O_cons (W_it (W_load_p rfl rfl rfl rfl ?_)) | refine O_cons (W_it (W_load_r rfl rfl rfl ?_)) | refine O_cons (W_it (W_load_e rfl rfl rfl rfl rfl ?_))
    refine O_cons (W_it (W_mv rfl ?_))
    refine O_nil (hK5 _ ?_)
    clear hK5 K5
    refine codeW_reg ?_
    refine O_cons (W_it (W_mv rfl ?_))
    refine O_cons (W_it (W_mv rfl ?_))
    refine O_cons (W_it (W_bsl rfl ?_))
    refine O_cons (W_it (W_callW (num1_own_FS bs n hb) [0] _ [.c (.ptr 0 0), .c (.p (.sl 1 (ints .i64 [n])))] [.ac [.p (.sl 1 bs)], .dead] rfl
      (Weak.freeze 1 1 [[.v (.int .i64 n)]] rfl (by simp) ⟨.inl rfl, .inr ⟨0, 1, _, rfl, by simp, rfl⟩, trivial⟩ ⟨frz_keep rfl, frz_dead, trivial⟩) rfl rfl (by decide) ⟨rfl, trivial⟩ ?_))
    rintro _ _ ⟨rfl, rfl⟩
    simp only [St.put, renAV, renAC, renReg, renAVs, setAll, upF, List.map_cons, List.map_nil, List.cons_append, List.nil_append, List.append_nil, List.set_cons_zero, List.set_cons_succ, List.length_cons, List.length_nil, Nat.reduceAdd, Nat.reduceLT, Nat.reduceSub, Nat.not_lt_zero, if_false, if_true, Nat.sub_zero, Nat.add_zero, Nat.zero_add]
    refine O_nil ?_
    refine (hK4 _ ?_ : K4 _)
    try clear hK4 K4
    refine codeW_reg ?_
    refine O_cons (W_it (W_add rfl rfl ?_))
    refine O_cons (W_it (W_mv rfl ?_))
    refine O_nil ?_
    refine hK _ ⟨0, _, by omega, ?_, .inr ⟨rfl, rfl⟩⟩
    refine Weak.ren [0, 2] rfl (by decide) ⟨.inr rfl, .inr rfl, trivial⟩ ⟨rfl, rfl, rfl, rfl, trivial⟩
  · refine codeW_seq fun K6 hK6 => codeW_reg ?_
    refine O_cons (W_it (W_lss rfl rfl ?_))
    refine O_nil (hK6 _ ?_)
    clear hK6 K6
    refine codeW_seq fun K7 hK7 => ?_
    refine codeW_condF rfl (by first | rfl | assumption) ?_
    refine codeW_exit ?_
    exact Fin.here (.inl rfl) ⟨rfl, rfl⟩

def ac21 : ACode := (.seq (.reg [⟨none, (some 1), (.box (some 1) (.t 0))⟩, ⟨none, (some 2), (.mv (some 2) (.k (.slice none 0 0)))⟩]) (.seq (.reg [⟨none, (some 8), (.build (some 8) [(.slice none 0 0)] [])⟩, ⟨none, (some 9), (.box (some 9) (.t 8))⟩, ⟨none, (some 3), (.mv (some 3) (.t 9))⟩]) (.seq (.reg [⟨none, (some 10), (.mv (some 10) (.t 3))⟩, ⟨none, (some 11), (.fad (some 11) 0 (.t 1))⟩, ⟨none, (some 12), (.load (some 12) 1 false (.t 11))⟩, ⟨none, (some 13), (.len (some 13) (.t 12))⟩, ⟨none, (some 14), (.bsl (some 14) 1 1 [(.int .i64 0)] [(0, (.t 13))])⟩, ⟨none, (some 15), (.call (some 15) 29 [(.t 10), (.t 14)])⟩]) (.seq (.seq (.reg [⟨none, (some 16), (.fad (some 16) 0 (.t 1))⟩, ⟨none, (some 17), (.load (some 17) 1 false (.t 16))⟩, ⟨none, (some 18), (.len (some 18) (.t 17))⟩, ⟨none, (some 19), (.mv (some 19) (.k (.int .i64 0)))⟩]) (.block 0 (.loop (.seq (.reg [⟨none, (some 20), (.bin (some 20) .lss (.t 19) (.t 18))⟩]) (.seq (.cond (.t 20) .skip (.exit 0)) (.seq (.block 1 (.seq (.reg [⟨none, (some 21), (.ixs (some 21) 22 (.t 17) (.t 19))⟩, ⟨none, (some 22), (.load (some 22) 22 true (.t 21))⟩, ⟨none, (some 5), (.alloc (some 5) [(.int .i64 0), (.int .i64 0), (.int .i64 0), (.int .i64 0), (.int .i64 0), (.int .i64 0), (.int .i64 0), (.int .i64 0), (.int .i64 0), (.int .i64 0), (.int .i64 0), (.int .i64 0), (.int .i64 0), (.int .i64 0), (.int .i64 0), (.int .i64 0), (.int .i64 0), (.int .i64 0), (.slice none 0 0), (.slice none 0 0), (.slice none 0 0), (.int .i64 0)])⟩, ⟨none, none, (.store 22 (.t 5) (.t 22))⟩]) (.any (.step ⟨none, (some 23), (.mv (some 23) (.t 3))⟩ (.step ⟨none, (some 24), (.mv (some 24) (.t 3))⟩ (.step ⟨none, (some 25), (.nilc (some 25) (.t 24))⟩ (.step ⟨none, (some 26), (.fad (some 26) 0 (.t 25))⟩ (.both (.step ⟨none, (some 27), (.load (some 27) 1 false (.t 26))⟩ (.step ⟨none, (some 28), (.load (some 28) 22 true (.t 5))⟩ (.step ⟨none, (some 29), (.call (some 29) 15 [(.t 28)])⟩ (.step ⟨none, (some 30), (.app (some 30) 1 1 (.t 27) (.t 29))⟩ (.step ⟨none, (some 31), (.nilc (some 31) (.t 23))⟩ (.step ⟨none, (some 32), (.fad (some 32) 0 (.t 31))⟩ (.step ⟨none, none, (.store 1 (.t 32) (.t 30))⟩ .done))))))) (.step ⟨none, (some 28), (.load (some 28) 22 true (.t 5))⟩ (.both (.step ⟨none, (some 27), (.load (some 27) 1 false (.t 26))⟩ (.step ⟨none, (some 29), (.call (some 29) 15 [(.t 28)])⟩ (.step ⟨none, (some 30), (.app (some 30) 1 1 (.t 27) (.t 29))⟩ (.step ⟨none, (some 31), (.nilc (some 31) (.t 23))⟩ (.step ⟨none, (some 32), (.fad (some 32) 0 (.t 31))⟩ (.step ⟨none, none, (.store 1 (.t 32) (.t 30))⟩ .done)))))) (.step ⟨none, (some 29), (.call (some 29) 15 [(.t 28)])⟩ (.step ⟨none, (some 27), (.load (some 27) 1 false (.t 26))⟩ (.step ⟨none, (some 30), (.app (some 30) 1 1 (.t 27) (.t 29))⟩ (.step ⟨none, (some 31), (.nilc (some 31) (.t 23))⟩ (.step ⟨none, (some 32), (.fad (some 32) 0 (.t 31))⟩ (.step ⟨none, none, (.store 1 (.t 32) (.t 30))⟩ .done)))))))))))))))) (.reg [⟨none, (some 33), (.bin (some 33) .add (.t 19) (.k (.int .i64 1)))⟩, ⟨none, (some 19), (.mv (some 19) (.t 33))⟩]))))))) (.seq (.reg [⟨none, (some 34), (.mv (some 34) (.t 3))⟩, ⟨none, (some 35), (.fad (some 35) 1 (.t 1))⟩, ⟨none, (some 36), (.load (some 36) 1 false (.t 35))⟩, ⟨none, (some 37), (.len (some 37) (.t 36))⟩, ⟨none, (some 38), (.bsl (some 38) 1 1 [(.int .i64 0)] [(0, (.t 37))])⟩, ⟨none, (some 39), (.call (some 39) 29 [(.t 34), (.t 38)])⟩]) (.seq (.seq (.reg [⟨none, (some 40), (.fad (some 40) 1 (.t 1))⟩, ⟨none, (some 41), (.load (some 41) 1 false (.t 40))⟩, ⟨none, (some 42), (.len (some 42) (.t 41))⟩, ⟨none, (some 43), (.mv (some 43) (.k (.int .i64 0)))⟩]) (.block 2 (.loop (.seq (.reg [⟨none, (some 44), (.bin (some 44) .lss (.t 43) (.t 42))⟩]) (.seq (.cond (.t 44) .skip (.exit 2)) (.seq (.block 3 (.seq (.reg [⟨none, (some 45), (.ixs (some 45) 1 (.t 41) (.t 43))⟩, ⟨none, (some 46), (.load (some 46) 1 false (.t 45))⟩, ⟨none, (some 7), (.mv (some 7) (.t 46))⟩]) (.any (.step ⟨none, (some 47), (.mv (some 47) (.t 3))⟩ (.step ⟨none, (some 48), (.mv (some 48) (.t 3))⟩ (.step ⟨none, (some 49), (.nilc (some 49) (.t 48))⟩ (.step ⟨none, (some 50), (.fad (some 50) 0 (.t 49))⟩ (.step ⟨none, (some 52), (.mv (some 52) (.t 7))⟩ (.both (.step ⟨none, (some 51), (.load (some 51) 1 false (.t 50))⟩ (.step ⟨none, (some 53), (.call (some 53) 17 [(.t 52)])⟩ (.step ⟨none, (some 54), (.app (some 54) 1 1 (.t 51) (.t 53))⟩ (.step ⟨none, (some 55), (.nilc (some 55) (.t 47))⟩ (.step ⟨none, (some 56), (.fad (some 56) 0 (.t 55))⟩ (.step ⟨none, none, (.store 1 (.t 56) (.t 54))⟩ .done)))))) (.step ⟨none, (some 53), (.call (some 53) 17 [(.t 52)])⟩ (.step ⟨none, (some 51), (.load (some 51) 1 false (.t 50))⟩ (.step ⟨none, (some 54), (.app (some 54) 1 1 (.t 51) (.t 53))⟩ (.step ⟨none, (some 55), (.nilc (some 55) (.t 47))⟩ (.step ⟨none, (some 56), (.fad (some 56) 0 (.t 55))⟩ (.step ⟨none, none, (.store 1 (.t 56) (.t 54))⟩ .done))))))))))))))) (.reg [⟨none, (some 57), (.bin (some 57) .add (.t 43) (.k (.int .i64 1)))⟩, ⟨none, (some 43), (.mv (some 43) (.t 57))⟩]))))))) (.seq (.par [⟨none, (some 58), (.mv (some 58) (.t 3))⟩, ⟨none, (some 59), (.nilc (some 59) (.t 58))⟩, ⟨none, (some 60), (.fad (some 60) 0 (.t 59))⟩, ⟨none, (some 61), (.load (some 61) 1 false (.t 60))⟩, ⟨none, (some 62), (.load (some 62) 9 true (.t 1))⟩, ⟨none, (some 63), (.call (some 63) 19 [(.t 62)])⟩] [⟨none, (some 64), (.app (some 64) 1 1 (.t 61) (.t 63))⟩, ⟨none, (some 2), (.mv (some 2) (.t 64))⟩]) .ret)))))))
theorem tr21 : ((Try.f21.name == "runtime.NumGoroutine") = false ∧ Try.f21.results = ([2].map ResultVar.tmp).toArray) ∧ Try.f21.ntmps = 65 ∧ (Try.f21.body.bind (trCode Try.prog Try.f21.ntmps)) = some ac21 := ⟨⟨by kernel_rfl, by kernel_rfl⟩, by kernel_rfl, by kernel_rfl⟩


theorem Thr.octets_len (th : Thr) : th.octets.length ≤ 1000 + th.bulk := by
  simp only [Thr.octets, Thr.bulk, List.length_append, nums8_len, words8_len, List.length_cons, List.length_nil]; omega
def thr8 (l : List Thr) : List (List PV) := l.flatMap Thr.octets
def bufOctets (b : List Ent) : List (List PV) := nums8 [(b.length : Int)] ++ ents8 b
def buf8 (l : List (List Ent)) : List (List PV) := l.flatMap bufOctets
def thrW : List Thr → Nat
  | [] => 0
  | th :: l => 1000 + th.bulk + thrW l
def bufW : List (List Ent) → Nat
  | [] => 0
  | b :: l => 16 + 64 * b.length + bufW l
theorem thr8_len : ∀ l : List Thr, (thr8 l).length ≤ thrW l
  | [] => Nat.le_refl _
  | th :: l => by
    have h := thr8_len l
    have h2 := th.octets_len
    simp only [thr8, thrW, List.flatMap_cons, List.length_append] at *; omega
theorem thrW_take : ∀ (l : List Thr) (i : Nat), thrW (l.take i) ≤ thrW l
  | [], i => by simp
  | th :: l, 0 => by simp [thrW]
  | th :: l, i + 1 => by have := thrW_take l i; simp only [List.take_succ_cons, thrW]; omega
theorem thrW_get : ∀ (l : List Thr) (i : Nat) (h : i < l.length), (l[i]).bulk ≤ thrW l
  | th :: l, 0, _ => by simp only [List.getElem_cons_zero, thrW]; omega
  | th :: l, i + 1, h => by have := thrW_get l i (by simpa using h); simp only [List.getElem_cons_succ, thrW]; omega
theorem bufOctets_len (b : List Ent) : (bufOctets b).length = 8 + 64 * b.length := by simp [bufOctets, nums8_len, ents8_len]
theorem buf8_len : ∀ l : List (List Ent), (buf8 l).length ≤ bufW l
  | [] => Nat.le_refl _
  | b :: l => by
    have h := buf8_len l
    have h2 := bufOctets_len b
    simp only [buf8, bufW, List.flatMap_cons, List.length_append] at *; omega
theorem bufW_take : ∀ (l : List (List Ent)) (i : Nat), bufW (l.take i) ≤ bufW l
  | [], i => by simp
  | th :: l, 0 => by simp [bufW]
  | th :: l, i + 1 => by have := bufW_take l i; simp only [List.take_succ_cons, bufW]; omega
theorem bufW_get : ∀ (l : List (List Ent)) (i : Nat) (h : i < l.length), 64 * (l[i]).length ≤ bufW l
  | th :: l, 0, _ => by simp only [List.getElem_cons_zero, bufW]; omega
  | th :: l, i + 1, h => by have := bufW_get l i (by simpa using h); simp only [List.getElem_cons_succ, bufW]; omega
def Sta.tp (st : Sta) (i : Nat) : List (List PV) := nums8 [(st.threads.length : Int)] ++ thr8 (st.threads.take i)
def Sta.bp (st : Sta) (j : Nat) : List (List PV) := st.tp st.threads.length ++ nums8 [(st.buffers.length : Int)] ++ buf8 (st.buffers.take j)
def Sta.octets (st : Sta) : List (List PV) := st.bp st.buffers.length ++ st.sharedOctets
def Sta.weight (st : Sta) : Nat := thrW st.threads + bufW st.buffers + st.bulk + 2000
theorem Sta.shared_len (st : Sta) : st.sharedOctets.length ≤ st.bulk + 200 := by
  simp only [Sta.sharedOctets, Sta.bulk, List.length_append, nums8_len, words8_len, cells8_len, List.length_cons, List.length_nil]; omega
theorem Sta.tp_len (st : Sta) (i : Nat) : (st.tp i).length ≤ 8 + thrW st.threads := by
  have h := thr8_len (st.threads.take i)
  have h2 := thrW_take st.threads i
  simp only [Sta.tp, List.length_append, nums8_len, List.length_cons, List.length_nil]; omega
theorem Sta.bp_len (st : Sta) (i : Nat) : (st.bp i).length ≤ 16 + thrW st.threads + bufW st.buffers := by
  have h := buf8_len (st.buffers.take i)
  have h2 := bufW_take st.buffers i
  have h3 := st.tp_len st.threads.length
  simp only [Sta.bp, List.length_append, nums8_len, List.length_cons, List.length_nil]; omega
theorem Sta.tp_succ (st : Sta) (i : Nat) (h : i < st.threads.length) : st.tp (i + 1) = st.tp i ++ (st.threads[i]'h).octets := by
  simp only [Sta.tp, thr8, List.take_succ_eq_append_getElem h, List.flatMap_append, List.flatMap_cons, List.flatMap_nil, List.append_nil, List.append_assoc]
theorem Sta.bp_succ (st : Sta) (i : Nat) (h : i < st.buffers.length) : st.bp (i + 1) = st.bp i ++ bufOctets (st.buffers[i]'h) := by
  simp only [Sta.bp, buf8, List.take_succ_eq_append_getElem h, List.flatMap_append, List.flatMap_cons, List.flatMap_nil, List.append_nil, List.append_assoc]
theorem Sta.tp_zero (st : Sta) : st.tp 0 = nums8 [(st.threads.length : Int)] := by simp [Sta.tp, thr8]
theorem Sta.bp_zero (st : Sta) : st.bp 0 = st.tp st.threads.length ++ nums8 [(st.buffers.length : Int)] := by simp [Sta.bp, buf8]
theorem thr_geti {l : List Thr} {i : Nat} (h : i < l.length) : (l.map Thr.cells)[(i : Int).toNat]? = some (l[i]).cells := by simp [h]
theorem buf_geti {l : List (List Ent)} {i : Nat} (h : i < l.length) : (l.map fun b => [PV.sl 8 (ents b)])[(i : Int).toNat]? = some [.sl 8 (ents l[i])] := by simp [h]
theorem thrW_len : ∀ l : List Thr, l.length ≤ thrW l
  | [] => Nat.le_refl _
  | th :: l => by have := thrW_len l; simp only [List.length_cons, thrW]; omega
theorem bufW_len : ∀ l : List (List Ent), l.length ≤ bufW l
  | [] => Nat.le_refl _
  | th :: l => by have := bufW_len l; simp only [List.length_cons, bufW]; omega
theorem codeput_FS (st : Sta) (hb : st.weight ≤ 900000000) :
    FS Try.prog 21 [.agg (st.row.map .p)] [] fun res rg => res = .c (.p (.sl 1 st.octets)) ∧ rg = [] := by
  refine FS_def [2] 65 Try.func21 tr21 rfl ?_
  unfold ac21
  have hb2 : thrW st.threads + bufW st.buffers + st.bulk + 2000 ≤ 900000000 := hb
  refine codeW_seq fun K1 hK1 => codeW_reg ?_
  refine O_cons (W_it (W_box rfl ?_))
  refine O_cons (W_it (W_mv rfl ?_))
  refine O_nil (hK1 _ ?_)
  clear hK1 K1
  refine codeW_seq fun K2 hK2 => codeW_reg ?_
  refine O_cons (W_it (W_build rfl ?_))
  refine O_cons (W_it (W_box rfl ?_))
  refine O_cons (W_it (W_mv rfl ?_))
  refine O_nil (hK2 _ ?_)
  clear hK2 K2
  refine codeW_weak (s' := ⟨[(1, .c (.rp st.row)), (3, .c (.ptr 1 0))], [.dead, .ac [.p (.v (.slice none 0 0))]]⟩) (Weak.box 0 st.row rfl ⟨.inr ⟨0, rfl, Nat.zero_le _, rfl⟩, .inl rfl, trivial⟩ ⟨t_dead (by decide), t_keep (fun _ => .inl rfl) (by decide), trivial⟩) ?_
  refine codeW_weak (s' := ⟨[(1, .c (.rp st.row)), (3, .c (.ptr 1 0))], [.dead, .ac [.p (.sl 1 [])]]⟩) (Weak.imp ⟨.inl rfl, .inl rfl, trivial⟩ ⟨t_keep (fun _ => .inl rfl) (by decide), t_turn (by decide) ⟨.inr (.inl ⟨1, by decide, rfl, rfl⟩), trivial⟩, trivial⟩) ?_
  refine codeW_weak (s' := ⟨[(1, .c (.rp st.row)), (3, .c (.ptr 0 0))], [.ac [.p (.sl 1 [])]]⟩) (Weak.ren [1] rfl (by decide) ⟨.inr rfl, trivial⟩ ⟨rfl, rfl, trivial⟩) ?_
  refine codeW_seq fun K3 hK3 => codeW_reg ?_
  refine O_cons (W_it (W_mv rfl ?_))
  first | refine O_cons (W_it (W_fad_p rfl ?_)) | refine O_cons (W_it (W_fad_e rfl ?_)) | refine O_cons (W_it (W_fad_r rfl ?_))
  first | refine O_cons (W_it (W_load_p rfl rfl rfl rfl ?_)) | refine O_cons (W_it (W_load_r rfl rfl rfl ?_)) | refine O_cons (W_it (W_load_e rfl rfl rfl rfl rfl ?_))
  refine O_cons (W_it (W_len rfl ?_))
  refine O_cons (W_it (W_bsl rfl ?_))
  rw [List.length_map]
  refine O_cons (W_it (W_callW (small1_own_FS ([]) (st.threads.length : Int) ?_) [0] _ [.c (.ptr 0 0), .c (.p (.sl 1 (ints .i64 [(st.threads.length : Int)])))] [.ac [.p (.sl 1 ([]))], .dead] rfl
    (Weak.freeze 1 1 [[.v (.int .i64 st.threads.length)]] rfl (by simp) ⟨.inl rfl, .inr ⟨0, 1, _, rfl, by simp, rfl⟩, trivial⟩ ⟨frz_keep rfl, frz_dead, trivial⟩) rfl rfl (by decide) ⟨rfl, trivial⟩ ?_))
  · simp
  rintro _ _ ⟨rfl, rfl⟩
  simp only [St.put, renAV, renAC, renReg, renAVs, setAll, upF, List.map_cons, List.map_nil, List.cons_append, List.nil_append, List.append_nil, List.set_cons_zero, List.set_cons_succ, List.length_cons, List.length_nil, Nat.reduceAdd, Nat.reduceLT, Nat.reduceSub, Nat.not_lt_zero, if_false, if_true, Nat.sub_zero, Nat.add_zero, Nat.zero_add]
  refine O_nil (hK3 _ ?_)
  clear hK3 K3
  refine codeW_seq fun K4 hK4 => ?_
  refine codeW_seq fun K5 hK5 => codeW_reg ?_
  first | refine O_cons (W_it (W_fad_p rfl ?_)) | refine O_cons (W_it (W_fad_e rfl ?_)) | refine O_cons (W_it (W_fad_r rfl ?_))
  first | refine O_cons (W_it (W_load_p rfl rfl rfl rfl ?_)) | refine O_cons (W_it (W_load_r rfl rfl rfl ?_)) | refine O_cons (W_it (W_load_e rfl rfl rfl rfl rfl ?_))
  refine O_cons (W_it (W_len rfl ?_))
  refine O_cons (W_it (W_mv rfl ?_))
  refine O_nil (hK5 _ ?_)
  clear hK5 K5
  refine codeW_block ?_
  refine codeW_weak (s' := ⟨[(19, .c (.p (.v (.int .i64 ((0 : Nat) : Int))))), (18, .c (.p (.v (.int .i64 (st.threads.length : Int))))), (17, .c (.p (.sl 22 (st.threads.map Thr.cells)))), (3, .c (.ptr 0 0)), (1, .c (.rp st.row))], [.ac [.own 1 0 1 ((st.tp 0).length) .free], .pc 1 (st.tp 0)]⟩) (Weak.ren [0, 2] rfl (by decide) ⟨.inr ?_, .inr ?_, trivial⟩ ⟨rfl, ?_, rfl, rfl, rfl, trivial⟩) ?_
  · exact congrArg (fun n => some (Reg.ac [.own 2 0 1 n .free])) (by rw [st.tp_zero, nums8_len]; rfl)
  · rw [st.tp_zero]
    rfl
  · exact congrArg (fun n : Nat => AV.c (.p (.v (.int .i64 (n : Int))))) (List.length_map _)
  refine codeW_loop (fun k s => ∃ i : Nat, i + k = st.threads.length ∧ s = ⟨[(19, .c (.p (.v (.int .i64 (i : Int))))), (18, .c (.p (.v (.int .i64 (st.threads.length : Int))))), (17, .c (.p (.sl 22 (st.threads.map Thr.cells)))), (3, .c (.ptr 0 0)), (1, .c (.rp st.row))], [.ac [.own 1 0 1 ((st.tp i).length) .free], .pc 1 (st.tp i)]⟩) st.threads.length ⟨0, by omega, rfl⟩ ?_
  rintro k s ⟨i, hik, rfl⟩ K hK
  refine codeW_seq fun K6 hK6 => codeW_reg ?_
  refine O_cons (W_it (W_lss rfl rfl ?_))
  refine O_nil (hK6 _ ?_)
  clear hK6 K6
  refine codeW_seq fun K7 hK7 => ?_
  refine codeW_cond rfl (fun hc0 => ?_) (fun hc0 => ?_)
  · have hi : i < st.threads.length := by have := of_decide_eq_true hc0; omega
    have q1 := st.tp_len i
    have q2 := thrW_get _ _ hi
    have q4 := thrW_len st.threads
    have q3 := (st.threads[i]'hi).octets_len
    refine codeW_skip ?_
    refine (hK7 _ ?_ : K7 _)
    try clear hK7 K7
    refine codeW_seq fun K8 hK8 => ?_
    refine codeW_block ?_
    refine codeW_seq fun K9 hK9 => codeW_reg ?_
    first | refine O_cons (W_it (W_ixs_s rfl rfl (by omega) (thr_geti (i := i) hi) ?_)) | refine O_cons (W_it (W_ixs_o rfl rfl (by omega) (by omega) ?_))
    first | refine O_cons (W_it (W_load_p rfl rfl rfl rfl ?_)) | refine O_cons (W_it (W_load_r rfl rfl rfl ?_)) | refine O_cons (W_it (W_load_e rfl rfl rfl rfl rfl ?_))
    refine O_cons (W_it (W_alloc ?_))
    first | refine O_cons (W_it (W_store_p rfl rfl rfl rfl rfl rfl ?_)) | refine O_cons (W_it (W_store_e rfl rfl rfl rfl rfl rfl rfl ?_))
    refine O_nil (hK9 _ ?_)
    clear hK9 K9
    refine codeW_any_mid (⟨[(19, .c (.p (.v (.int .i64 (i : Int))))), (18, .c (.p (.v (.int .i64 (st.threads.length : Int))))), (17, .c (.p (.sl 22 (st.threads.map Thr.cells)))), (3, .c (.ptr 0 0)), (1, .c (.rp st.row))], [.ac [.own 1 0 1 ((st.tp i).length + (st.threads[i]'hi).octets.length) .free], .pc 1 (st.tp i ++ (st.threads[i]'hi).octets)]⟩) ?_ ?_
    · refine T_step (W_it (W_mv rfl ?_))
      refine T_step (W_it (W_mv rfl ?_))
      refine T_step (W_it (W_nilc rfl rfl ?_))
      first | refine T_step (W_it (W_fad_p rfl ?_)) | refine T_step (W_it (W_fad_e rfl ?_)) | refine T_step (W_it (W_fad_r rfl ?_))
      refine T_both ?_ ?_
      · first | refine T_step (W_it (W_load_p rfl rfl rfl rfl ?_)) | refine T_step (W_it (W_load_r rfl rfl rfl ?_)) | refine T_step (W_it (W_load_e rfl rfl rfl rfl rfl ?_))
        first | refine T_step (W_it (W_load_p rfl rfl rfl rfl ?_)) | refine T_step (W_it (W_load_r rfl rfl rfl ?_)) | refine T_step (W_it (W_load_e rfl rfl rfl rfl rfl ?_))
        refine T_step (W_it (W_callF (thread_FS (st.threads[i]'hi) (by omega)) [] rfl (by decide) trivial ?_))
        rintro _ _ ⟨rfl, rfl⟩
        simp only [St.put, renAV, renAC, renReg, renAVs, setAll, upF, List.map_cons, List.map_nil, List.cons_append, List.nil_append, List.append_nil, List.set_cons_zero, List.set_cons_succ, List.length_cons, List.length_nil, Nat.reduceAdd, Nat.reduceLT, Nat.reduceSub, Nat.not_lt_zero, if_false, if_true, Nat.sub_zero, Nat.add_zero, Nat.zero_add]
        refine T_step (W_it (W_app_o rfl rfl rfl rfl (.inr rfl) rfl rfl (by omega) (by omega) ?_))
        refine T_step (W_it (W_nilc rfl rfl ?_))
        first | refine T_step (W_it (W_fad_p rfl ?_)) | refine T_step (W_it (W_fad_e rfl ?_)) | refine T_step (W_it (W_fad_r rfl ?_))
        first | refine T_step (W_it (W_store_p rfl rfl rfl rfl rfl rfl ?_)) | refine T_step (W_it (W_store_e rfl rfl rfl rfl rfl rfl rfl ?_))
        refine T_done ?_
        exact Weak.ren [0, 3] rfl (by decide) ⟨.inr rfl, .inr rfl, trivial⟩ ⟨rfl, rfl, rfl, rfl, rfl, trivial⟩
      · first | refine T_step (W_it (W_load_p rfl rfl rfl rfl ?_)) | refine T_step (W_it (W_load_r rfl rfl rfl ?_)) | refine T_step (W_it (W_load_e rfl rfl rfl rfl rfl ?_))
        refine T_both ?_ ?_
        · first | refine T_step (W_it (W_load_p rfl rfl rfl rfl ?_)) | refine T_step (W_it (W_load_r rfl rfl rfl ?_)) | refine T_step (W_it (W_load_e rfl rfl rfl rfl rfl ?_))
          refine T_step (W_it (W_callF (thread_FS (st.threads[i]'hi) (by omega)) [] rfl (by decide) trivial ?_))
          rintro _ _ ⟨rfl, rfl⟩
          simp only [St.put, renAV, renAC, renReg, renAVs, setAll, upF, List.map_cons, List.map_nil, List.cons_append, List.nil_append, List.append_nil, List.set_cons_zero, List.set_cons_succ, List.length_cons, List.length_nil, Nat.reduceAdd, Nat.reduceLT, Nat.reduceSub, Nat.not_lt_zero, if_false, if_true, Nat.sub_zero, Nat.add_zero, Nat.zero_add]
          refine T_step (W_it (W_app_o rfl rfl rfl rfl (.inr rfl) rfl rfl (by omega) (by omega) ?_))
          refine T_step (W_it (W_nilc rfl rfl ?_))
          first | refine T_step (W_it (W_fad_p rfl ?_)) | refine T_step (W_it (W_fad_e rfl ?_)) | refine T_step (W_it (W_fad_r rfl ?_))
          first | refine T_step (W_it (W_store_p rfl rfl rfl rfl rfl rfl ?_)) | refine T_step (W_it (W_store_e rfl rfl rfl rfl rfl rfl rfl ?_))
          refine T_done ?_
          exact Weak.ren [0, 3] rfl (by decide) ⟨.inr rfl, .inr rfl, trivial⟩ ⟨rfl, rfl, rfl, rfl, rfl, trivial⟩
        · refine T_step (W_it (W_callF (thread_FS (st.threads[i]'hi) (by omega)) [] rfl (by decide) trivial ?_))
          rintro _ _ ⟨rfl, rfl⟩
          simp only [St.put, renAV, renAC, renReg, renAVs, setAll, upF, List.map_cons, List.map_nil, List.cons_append, List.nil_append, List.append_nil, List.set_cons_zero, List.set_cons_succ, List.length_cons, List.length_nil, Nat.reduceAdd, Nat.reduceLT, Nat.reduceSub, Nat.not_lt_zero, if_false, if_true, Nat.sub_zero, Nat.add_zero, Nat.zero_add]
          first | refine T_step (W_it (W_load_p rfl rfl rfl rfl ?_)) | refine T_step (W_it (W_load_r rfl rfl rfl ?_)) | refine T_step (W_it (W_load_e rfl rfl rfl rfl rfl ?_))
          refine T_step (W_it (W_app_o rfl rfl rfl rfl (.inr rfl) rfl rfl (by omega) (by omega) ?_))
          refine T_step (W_it (W_nilc rfl rfl ?_))
          first | refine T_step (W_it (W_fad_p rfl ?_)) | refine T_step (W_it (W_fad_e rfl ?_)) | refine T_step (W_it (W_fad_r rfl ?_))
          first | refine T_step (W_it (W_store_p rfl rfl rfl rfl rfl rfl ?_)) | refine T_step (W_it (W_store_e rfl rfl rfl rfl rfl rfl rfl ?_))
          refine T_done ?_
          exact Weak.ren [0, 3] rfl (by decide) ⟨.inr rfl, .inr rfl, trivial⟩ ⟨rfl, rfl, rfl, rfl, rfl, trivial⟩
    intro s0 hw0
    refine (hK8 _ ?_ : K8 _)
    try clear hK8 K8
    refine codeW_weak hw0 ?_
    clear hw0 s0
    refine codeW_reg ?_
    refine O_cons (W_it (W_add rfl rfl ?_))
    refine O_cons (W_it (W_mv rfl ?_))
    refine O_nil ?_
    refine hK _ ⟨k - 1, _, by omega, ?_, i + 1, by omega, rfl⟩
    refine Weak.ren [0, 1] rfl (by decide) ⟨.inr ?_, .inr ?_, trivial⟩ ⟨?_, rfl, rfl, rfl, rfl, trivial⟩
    · exact congrArg (fun n => some (Reg.ac [.own 1 0 1 n .free])) (by rw [st.tp_succ i hi, List.length_append])
    · rw [st.tp_succ i hi]
      rfl
    · show AV.c (.p (.v (.int .i64 (IntKind.i64.wrap ((i : Int) + 1))))) = _
      rw [wrap64_id (by omega) (by omega)]
      rfl
  · have hi : i = st.threads.length := by have := of_decide_eq_false hc0; omega
    subst hi
    refine codeW_exit ?_
    refine (hK4 _ ?_ : K4 _)
    try clear hK4 K4
    refine codeW_weak (s' := ⟨[(1, .c (.rp st.row)), (3, .c (.ptr 0 0))], [.ac [.p (.sl 1 (st.tp st.threads.length))], .dead]⟩) (Weak.freeze 1 1 (st.tp st.threads.length) rfl (by have := st.tp_len st.threads.length; omega) ⟨.inl rfl, .inl rfl, trivial⟩ ⟨frz_turn rfl ⟨frz_full rfl, trivial⟩, frz_dead, trivial⟩) ?_
    refine codeW_weak (s' := ⟨[(1, .c (.rp st.row)), (3, .c (.ptr 0 0))], [.ac [.p (.sl 1 (st.tp st.threads.length))]]⟩) (Weak.ren [0] rfl (by decide) ⟨.inr rfl, trivial⟩ ⟨rfl, rfl, trivial⟩) ?_
    refine codeW_seq fun K10 hK10 => codeW_reg ?_
    refine O_cons (W_it (W_mv rfl ?_))
    first | refine O_cons (W_it (W_fad_p rfl ?_)) | refine O_cons (W_it (W_fad_e rfl ?_)) | refine O_cons (W_it (W_fad_r rfl ?_))
    first | refine O_cons (W_it (W_load_p rfl rfl rfl rfl ?_)) | refine O_cons (W_it (W_load_r rfl rfl rfl ?_)) | refine O_cons (W_it (W_load_e rfl rfl rfl rfl rfl ?_))
    refine O_cons (W_it (W_len rfl ?_))
    refine O_cons (W_it (W_bsl rfl ?_))
    rw [List.length_map]
    refine O_cons (W_it (W_callW (small1_own_FS (st.tp st.threads.length) (st.buffers.length : Int) ?_) [0] _ [.c (.ptr 0 0), .c (.p (.sl 1 (ints .i64 [(st.buffers.length : Int)])))] [.ac [.p (.sl 1 (st.tp st.threads.length))], .dead] rfl
      (Weak.freeze 1 1 [[.v (.int .i64 st.buffers.length)]] rfl (by simp) ⟨.inl rfl, .inr ⟨0, 1, _, rfl, by simp, rfl⟩, trivial⟩ ⟨frz_keep rfl, frz_dead, trivial⟩) rfl rfl (by decide) ⟨rfl, trivial⟩ ?_))
    · have := st.tp_len st.threads.length; omega
    rintro _ _ ⟨rfl, rfl⟩
    simp only [St.put, renAV, renAC, renReg, renAVs, setAll, upF, List.map_cons, List.map_nil, List.cons_append, List.nil_append, List.append_nil, List.set_cons_zero, List.set_cons_succ, List.length_cons, List.length_nil, Nat.reduceAdd, Nat.reduceLT, Nat.reduceSub, Nat.not_lt_zero, if_false, if_true, Nat.sub_zero, Nat.add_zero, Nat.zero_add]
    refine O_nil (hK10 _ ?_)
    clear hK10 K10
    refine codeW_seq fun K11 hK11 => ?_
    refine codeW_seq fun K12 hK12 => codeW_reg ?_
    first | refine O_cons (W_it (W_fad_p rfl ?_)) | refine O_cons (W_it (W_fad_e rfl ?_)) | refine O_cons (W_it (W_fad_r rfl ?_))
    first | refine O_cons (W_it (W_load_p rfl rfl rfl rfl ?_)) | refine O_cons (W_it (W_load_r rfl rfl rfl ?_)) | refine O_cons (W_it (W_load_e rfl rfl rfl rfl rfl ?_))
    refine O_cons (W_it (W_len rfl ?_))
    refine O_cons (W_it (W_mv rfl ?_))
    refine O_nil (hK12 _ ?_)
    clear hK12 K12
    refine codeW_block ?_
    refine codeW_weak (s' := ⟨[(43, .c (.p (.v (.int .i64 ((0 : Nat) : Int))))), (42, .c (.p (.v (.int .i64 (st.buffers.length : Int))))), (41, .c (.p (.sl 1 (st.buffers.map fun b => [.sl 8 (ents b)])))), (3, .c (.ptr 0 0)), (1, .c (.rp st.row))], [.ac [.own 1 0 1 ((st.bp 0).length) .free], .pc 1 (st.bp 0)]⟩) (Weak.ren [0, 2] rfl (by decide) ⟨.inr ?_, .inr ?_, trivial⟩ ⟨rfl, ?_, rfl, rfl, rfl, trivial⟩) ?_
    · exact congrArg (fun n => some (Reg.ac [.own 2 0 1 n .free])) (by rw [st.bp_zero, List.length_append, nums8_len]; rfl)
    · rw [st.bp_zero]
      rfl
    · exact congrArg (fun n : Nat => AV.c (.p (.v (.int .i64 (n : Int))))) (List.length_map _)
    refine codeW_loop (fun k s => ∃ i : Nat, i + k = st.buffers.length ∧ s = ⟨[(43, .c (.p (.v (.int .i64 (i : Int))))), (42, .c (.p (.v (.int .i64 (st.buffers.length : Int))))), (41, .c (.p (.sl 1 (st.buffers.map fun b => [.sl 8 (ents b)])))), (3, .c (.ptr 0 0)), (1, .c (.rp st.row))], [.ac [.own 1 0 1 ((st.bp i).length) .free], .pc 1 (st.bp i)]⟩) st.buffers.length ⟨0, by omega, rfl⟩ ?_
    rintro k s ⟨i, hik, rfl⟩ K hK
    refine codeW_seq fun K13 hK13 => codeW_reg ?_
    refine O_cons (W_it (W_lss rfl rfl ?_))
    refine O_nil (hK13 _ ?_)
    clear hK13 K13
    refine codeW_seq fun K14 hK14 => ?_
    refine codeW_cond rfl (fun hc1 => ?_) (fun hc1 => ?_)
    · have hi : i < st.buffers.length := by have := of_decide_eq_true hc1; omega
      have q1 := st.bp_len i
      have q2 := bufW_get _ _ hi
      have q4 := bufW_len st.buffers
      have q3 := bufOctets_len st.buffers[i]
      refine codeW_skip ?_
      refine (hK14 _ ?_ : K14 _)
      try clear hK14 K14
      refine codeW_seq fun K15 hK15 => ?_
      refine codeW_block ?_
      refine codeW_seq fun K16 hK16 => codeW_reg ?_
      first | refine O_cons (W_it (W_ixs_s rfl rfl (by omega) (buf_geti (i := i) hi) ?_)) | refine O_cons (W_it (W_ixs_o rfl rfl (by omega) (by omega) ?_))
      first | refine O_cons (W_it (W_load_p rfl rfl rfl rfl ?_)) | refine O_cons (W_it (W_load_r rfl rfl rfl ?_)) | refine O_cons (W_it (W_load_e rfl rfl rfl rfl rfl ?_))
      refine O_cons (W_it (W_mv rfl ?_))
      refine O_nil (hK16 _ ?_)
      clear hK16 K16
      refine codeW_any_mid (⟨[(43, .c (.p (.v (.int .i64 (i : Int))))), (42, .c (.p (.v (.int .i64 (st.buffers.length : Int))))), (41, .c (.p (.sl 1 (st.buffers.map fun b => [.sl 8 (ents b)])))), (3, .c (.ptr 0 0)), (1, .c (.rp st.row))], [.ac [.own 1 0 1 ((st.bp i).length + (bufOctets (st.buffers[i]'hi)).length) .free], .pc 1 (st.bp i ++ bufOctets (st.buffers[i]'hi))]⟩) ?_ ?_
      · refine T_step (W_it (W_mv rfl ?_))
        refine T_step (W_it (W_mv rfl ?_))
        refine T_step (W_it (W_nilc rfl rfl ?_))
        first | refine T_step (W_it (W_fad_p rfl ?_)) | refine T_step (W_it (W_fad_e rfl ?_)) | refine T_step (W_it (W_fad_r rfl ?_))
        refine T_step (W_it (W_mv rfl ?_))
        refine T_both ?_ ?_
        · first | refine T_step (W_it (W_load_p rfl rfl rfl rfl ?_)) | refine T_step (W_it (W_load_r rfl rfl rfl ?_)) | refine T_step (W_it (W_load_e rfl rfl rfl rfl rfl ?_))
          refine T_step (W_it (W_callF (buffer_FS (st.buffers[i]'hi) (by omega)) [] rfl (by decide) trivial ?_))
          rintro _ _ ⟨rfl, rfl⟩
          simp only [St.put, renAV, renAC, renReg, renAVs, setAll, upF, List.map_cons, List.map_nil, List.cons_append, List.nil_append, List.append_nil, List.set_cons_zero, List.set_cons_succ, List.length_cons, List.length_nil, Nat.reduceAdd, Nat.reduceLT, Nat.reduceSub, Nat.not_lt_zero, if_false, if_true, Nat.sub_zero, Nat.add_zero, Nat.zero_add]
          rw [show nums8 [((st.buffers[i]'hi).length : Int)] ++ ents8 (st.buffers[i]'hi) = bufOctets (st.buffers[i]'hi) from rfl]
          refine T_step (W_it (W_app_o rfl rfl rfl rfl (.inr rfl) rfl rfl (by omega) (by omega) ?_))
          refine T_step (W_it (W_nilc rfl rfl ?_))
          first | refine T_step (W_it (W_fad_p rfl ?_)) | refine T_step (W_it (W_fad_e rfl ?_)) | refine T_step (W_it (W_fad_r rfl ?_))
          first | refine T_step (W_it (W_store_p rfl rfl rfl rfl rfl rfl ?_)) | refine T_step (W_it (W_store_e rfl rfl rfl rfl rfl rfl rfl ?_))
          refine T_done ?_
          exact Weak.ren [0, 2] rfl (by decide) ⟨.inr rfl, .inr rfl, trivial⟩ ⟨rfl, rfl, rfl, rfl, rfl, trivial⟩
        · refine T_step (W_it (W_callF (buffer_FS (st.buffers[i]'hi) (by omega)) [] rfl (by decide) trivial ?_))
          rintro _ _ ⟨rfl, rfl⟩
          simp only [St.put, renAV, renAC, renReg, renAVs, setAll, upF, List.map_cons, List.map_nil, List.cons_append, List.nil_append, List.append_nil, List.set_cons_zero, List.set_cons_succ, List.length_cons, List.length_nil, Nat.reduceAdd, Nat.reduceLT, Nat.reduceSub, Nat.not_lt_zero, if_false, if_true, Nat.sub_zero, Nat.add_zero, Nat.zero_add]
          rw [show nums8 [((st.buffers[i]'hi).length : Int)] ++ ents8 (st.buffers[i]'hi) = bufOctets (st.buffers[i]'hi) from rfl]
          first | refine T_step (W_it (W_load_p rfl rfl rfl rfl ?_)) | refine T_step (W_it (W_load_r rfl rfl rfl ?_)) | refine T_step (W_it (W_load_e rfl rfl rfl rfl rfl ?_))
          refine T_step (W_it (W_app_o rfl rfl rfl rfl (.inr rfl) rfl rfl (by omega) (by omega) ?_))
          refine T_step (W_it (W_nilc rfl rfl ?_))
          first | refine T_step (W_it (W_fad_p rfl ?_)) | refine T_step (W_it (W_fad_e rfl ?_)) | refine T_step (W_it (W_fad_r rfl ?_))
          first | refine T_step (W_it (W_store_p rfl rfl rfl rfl rfl rfl ?_)) | refine T_step (W_it (W_store_e rfl rfl rfl rfl rfl rfl rfl ?_))
          refine T_done ?_
          exact Weak.ren [0, 2] rfl (by decide) ⟨.inr rfl, .inr rfl, trivial⟩ ⟨rfl, rfl, rfl, rfl, rfl, trivial⟩
      intro s1 hw1
      refine (hK15 _ ?_ : K15 _)
      try clear hK15 K15
      refine codeW_weak hw1 ?_
      clear hw1 s1
      refine codeW_reg ?_
      refine O_cons (W_it (W_add rfl rfl ?_))
      refine O_cons (W_it (W_mv rfl ?_))
      refine O_nil ?_
      refine hK _ ⟨k - 1, _, by omega, ?_, i + 1, by omega, rfl⟩
      refine Weak.ren [0, 1] rfl (by decide) ⟨.inr ?_, .inr ?_, trivial⟩ ⟨?_, rfl, rfl, rfl, rfl, trivial⟩
      · exact congrArg (fun n => some (Reg.ac [.own 1 0 1 n .free])) (by rw [st.bp_succ i hi, List.length_append])
      · rw [st.bp_succ i hi]
        rfl
      · show AV.c (.p (.v (.int .i64 (IntKind.i64.wrap ((i : Int) + 1))))) = _
        rw [wrap64_id (by omega) (by omega)]
        rfl
    · have hi : i = st.buffers.length := by have := of_decide_eq_false hc1; omega
      subst hi
      refine codeW_exit ?_
      refine (hK11 _ ?_ : K11 _)
      try clear hK11 K11
      refine codeW_seq fun K17 hK17 => codeW_par ?_
      refine V_cons (fun K hK => W_it (W_mv rfl hK)) ?_
      refine V_cons (fun K hK => W_it (W_nilc rfl rfl hK)) ?_
      first | refine V_cons (fun K hK => W_it (W_fad_p rfl hK)) ?_ | refine V_cons (fun K hK => W_it (W_fad_e rfl hK)) ?_ | refine V_cons (fun K hK => W_it (W_fad_r rfl hK)) ?_
      first | refine V_cons (fun K hK => W_it (W_load_p rfl rfl rfl rfl hK)) ?_ | refine V_cons (fun K hK => W_it (W_load_r rfl rfl rfl hK)) ?_ | refine V_cons (fun K hK => W_it (W_load_e rfl rfl rfl rfl rfl hK)) ?_
      first | refine V_cons (fun K hK => W_it (W_load_p rfl rfl rfl rfl hK)) ?_ | refine V_cons (fun K hK => W_it (W_load_r rfl rfl rfl hK)) ?_ | refine V_cons (fun K hK => W_it (W_load_e rfl rfl rfl rfl rfl hK)) ?_
      refine V_cons (fun K hK => W_it (W_callF (shared_FS st (by omega)) [] rfl (by decide) trivial fun res rg h => by obtain ⟨rfl, rfl⟩ := h; exact hK)) ?_
      refine V_nil ?_
      refine O_cons (W_it (W_app_o rfl rfl rfl rfl (.inr rfl) rfl rfl (by have := st.bp_len st.buffers.length; have := st.shared_len; omega) (by have := st.bp_len st.buffers.length; have := st.shared_len; omega) ?_))
      refine O_cons (W_it (W_mv rfl ?_))
      refine O_nil (hK17 _ ?_)
      clear hK17 K17
      refine codeW_ret (Fin.weak (.inr rfl) (s1 := ⟨[(2, .c (.p (.sl 1 st.octets)))], []⟩) ?_ ⟨rfl, rfl⟩)
      refine Weak.trans (s' := ⟨[(2, .c (.own 0 0 1 ((st.bp st.buffers.length).length + st.sharedOctets.length) .free))], [.pc 1 st.octets]⟩) (Weak.ren [2] rfl (by decide) ⟨.inr rfl, trivial⟩ ⟨rfl, trivial⟩) ?_
      refine Weak.trans (s' := ⟨[(2, .c (.p (.sl 1 st.octets)))], [.dead]⟩) (Weak.freeze 0 1 st.octets rfl ?_ ⟨frz_full ?_, trivial⟩ ⟨frz_dead, trivial⟩) (Weak.ren [] rfl (by decide) trivial ⟨rfl, trivial⟩)
      · rw [Sta.octets, List.length_append]; have := st.bp_len st.buffers.length; have := st.shared_len; omega
      · rw [Sta.octets, List.length_append]

def ac10 : ACode := (.seq (.reg [⟨none, (some 4), (.mv (some 4) (.k (.int .u64 0)))⟩]) (.seq (.reg [⟨none, (some 6), (.mv (some 6) (.t 0))⟩, ⟨none, (some 7), (.bin (some 7) .mul (.k (.int .u64 11400714819323198485)) (.t 6))⟩, ⟨none, (some 8), (.mv (some 8) (.t 1))⟩, ⟨none, (some 9), (.bin (some 9) .add (.t 7) (.t 8))⟩, ⟨none, (some 5), (.mv (some 5) (.t 9))⟩]) (.seq (.reg [⟨none, (some 10), (.mv (some 10) (.t 5))⟩, ⟨none, (some 11), (.mv (some 11) (.t 5))⟩, ⟨none, (some 12), (.bin (some 12) .shr (.t 11) (.k (.int .u64 32)))⟩, ⟨none, (some 13), (.bin (some 13) .xor (.t 10) (.t 12))⟩, ⟨none, (some 14), (.bin (some 14) .mul (.t 13) (.k (.int .u64 13787848793156543929)))⟩, ⟨none, (some 5), (.mv (some 5) (.t 14))⟩]) (.seq (.reg [⟨none, (some 15), (.mv (some 15) (.t 5))⟩, ⟨none, (some 16), (.mv (some 16) (.t 5))⟩, ⟨none, (some 17), (.bin (some 17) .shr (.t 16) (.k (.int .u64 29)))⟩, ⟨none, (some 18), (.bin (some 18) .xor (.t 15) (.t 17))⟩, ⟨none, (some 4), (.mv (some 4) (.t 18))⟩]) .ret))))
theorem tr10 : ((Try.f10.name == "runtime.NumGoroutine") = false ∧ Try.f10.results = ([4].map ResultVar.tmp).toArray) ∧ Try.f10.ntmps = 19 ∧ (Try.f10.body.bind (trCode Try.prog Try.f10.ntmps)) = some ac10 := ⟨⟨by kernel_rfl, by kernel_rfl⟩, by kernel_rfl, by kernel_rfl⟩


def mixX (a b : Int) : Int := IntKind.u64.wrap (IntKind.u64.wrap (11400714819323198485 * a) + b)
def mixY (a b : Int) : Int := IntKind.u64.wrap (bits .xor .u64 (mixX a b) (mixX a b / 2 ^ 32) * 13787848793156543929)
def mixI (a b : Int) : Int := bits .xor .u64 (mixY a b) (mixY a b / 2 ^ 29)
theorem mix_FS (a b : Int) : FS Try.prog 10 [.c (.p (.v (.int .u64 a))), .c (.p (.v (.int .u64 b)))] [] fun res rg => res = .c (.p (.v (.int .u64 (mixI a b)))) ∧ rg = [] := by
  refine FS_def [4] 19 Try.func10 tr10 rfl ?_
  unfold ac10
  refine codeW_seq fun K1 hK1 => codeW_reg ?_
  refine O_cons (W_it (W_mv rfl ?_))
  refine O_nil (hK1 _ ?_)
  clear hK1 K1
  refine codeW_seq fun K2 hK2 => codeW_reg ?_
  refine O_cons (W_it (W_mv rfl ?_))
  refine O_cons (W_it (W_mul rfl rfl ?_))
  refine O_cons (W_it (W_mv rfl ?_))
  refine O_cons (W_it (W_add rfl rfl ?_))
  refine O_cons (W_it (W_mv rfl ?_))
  refine O_nil (hK2 _ ?_)
  clear hK2 K2
  refine codeW_seq fun K3 hK3 => codeW_reg ?_
  refine O_cons (W_it (W_mv rfl ?_))
  refine O_cons (W_it (W_mv rfl ?_))
  refine O_cons (W_it (W_shr rfl rfl (by first | decide | omega) ?_))
  refine O_cons (W_it (W_xor rfl rfl ?_))
  refine O_cons (W_it (W_mul rfl rfl ?_))
  refine O_cons (W_it (W_mv rfl ?_))
  refine O_nil (hK3 _ ?_)
  clear hK3 K3
  refine codeW_seq fun K4 hK4 => codeW_reg ?_
  refine O_cons (W_it (W_mv rfl ?_))
  refine O_cons (W_it (W_mv rfl ?_))
  refine O_cons (W_it (W_shr rfl rfl (by first | decide | omega) ?_))
  refine O_cons (W_it (W_xor rfl rfl ?_))
  refine O_cons (W_it (W_mv rfl ?_))
  refine O_nil (hK4 _ ?_)
  clear hK4 K4
  exact codeW_ret (Fin.here (.inr rfl) ⟨rfl, rfl⟩)

def ac46 : ACode := (.seq (.reg [⟨none, (some 4), (.mv (some 4) (.k (.int .u64 0)))⟩]) (.seq (.reg [⟨none, (some 6), (.mv (some 6) (.t 0))⟩, ⟨none, (some 7), (.bin (some 7) .mul (.k (.int .u64 11400714819323198485)) (.t 6))⟩, ⟨none, (some 8), (.mv (some 8) (.t 1))⟩, ⟨none, (some 9), (.bin (some 9) .add (.t 7) (.t 8))⟩, ⟨none, (some 5), (.mv (some 5) (.t 9))⟩]) (.seq (.reg [⟨none, (some 10), (.mv (some 10) (.t 5))⟩, ⟨none, (some 11), (.mv (some 11) (.t 5))⟩, ⟨none, (some 12), (.bin (some 12) .quo (.t 11) (.k (.int .u64 4294967296)))⟩, ⟨none, (some 13), (.bin (some 13) .xor (.t 10) (.t 12))⟩, ⟨none, (some 14), (.bin (some 14) .mul (.t 13) (.k (.int .u64 13787848793156543929)))⟩, ⟨none, (some 5), (.mv (some 5) (.t 14))⟩]) (.seq (.reg [⟨none, (some 15), (.mv (some 15) (.t 5))⟩, ⟨none, (some 16), (.mv (some 16) (.t 5))⟩, ⟨none, (some 17), (.bin (some 17) .quo (.t 16) (.k (.int .u64 536870912)))⟩, ⟨none, (some 18), (.bin (some 18) .xor (.t 15) (.t 17))⟩, ⟨none, (some 4), (.mv (some 4) (.t 18))⟩]) .ret))))
theorem tr46 : ((Try.f46.name == "runtime.NumGoroutine") = false ∧ Try.f46.results = ([4].map ResultVar.tmp).toArray) ∧ Try.f46.ntmps = 19 ∧ (Try.f46.body.bind (trCode Try.prog Try.f46.ntmps)) = some ac46 := ⟨⟨by kernel_rfl, by kernel_rfl⟩, by kernel_rfl, by kernel_rfl⟩


theorem wrap_tdiv (y d : Int) (hd : 0 < d) : IntKind.u64.wrap ((IntKind.u64.wrap y).tdiv d) = IntKind.u64.wrap y / d := by
  have e : ∀ n : Int, IntKind.u64.wrap n = n % 18446744073709551616 := fun n => by simp [IntKind.wrap, IntKind.bits, IntKind.signed]
  rw [e, e]
  have h0 : 0 ≤ y % 18446744073709551616 := Int.emod_nonneg _ (by decide)
  have h1 : y % 18446744073709551616 < 18446744073709551616 := Int.emod_lt_of_pos _ (by decide)
  rw [Int.tdiv_eq_ediv_of_nonneg h0]
  have h2 : 0 ≤ (y % 18446744073709551616) / d := Int.ediv_nonneg h0 (by omega)
  have h3 : (y % 18446744073709551616) / d ≤ y % 18446744073709551616 := Int.ediv_le_self _ h0
  exact Int.emod_eq_of_lt h2 (by omega)
theorem rmix_FS (a b : Int) : FS Try.prog 46 [.c (.p (.v (.int .u64 a))), .c (.p (.v (.int .u64 b)))] [] fun res rg => res = .c (.p (.v (.int .u64 (mixI a b)))) ∧ rg = [] := by
  refine FS_def [4] 19 Try.func46 tr46 rfl ?_
  unfold ac46
  refine codeW_seq fun K1 hK1 => codeW_reg ?_
  refine O_cons (W_it (W_mv rfl ?_))
  refine O_nil (hK1 _ ?_)
  clear hK1 K1
  refine codeW_seq fun K2 hK2 => codeW_reg ?_
  refine O_cons (W_it (W_mv rfl ?_))
  refine O_cons (W_it (W_mul rfl rfl ?_))
  refine O_cons (W_it (W_mv rfl ?_))
  refine O_cons (W_it (W_add rfl rfl ?_))
  refine O_cons (W_it (W_mv rfl ?_))
  refine O_nil (hK2 _ ?_)
  clear hK2 K2
  refine codeW_seq fun K3 hK3 => codeW_reg ?_
  refine O_cons (W_it (W_mv rfl ?_))
  refine O_cons (W_it (W_mv rfl ?_))
  refine O_cons (W_it (W_quo rfl rfl (by first | decide | omega) ?_))
  rw [wrap_tdiv _ _ (by decide)]
  refine O_cons (W_it (W_xor rfl rfl ?_))
  refine O_cons (W_it (W_mul rfl rfl ?_))
  refine O_cons (W_it (W_mv rfl ?_))
  refine O_nil (hK3 _ ?_)
  clear hK3 K3
  refine codeW_seq fun K4 hK4 => codeW_reg ?_
  refine O_cons (W_it (W_mv rfl ?_))
  refine O_cons (W_it (W_mv rfl ?_))
  refine O_cons (W_it (W_quo rfl rfl (by first | decide | omega) ?_))
  rw [wrap_tdiv _ _ (by decide)]
  refine O_cons (W_it (W_xor rfl rfl ?_))
  refine O_cons (W_it (W_mv rfl ?_))
  refine O_nil (hK4 _ ?_)
  clear hK4 K4
  exact codeW_ret (Fin.here (.inr rfl) ⟨rfl, rfl⟩)

def ac12 : ACode := (.seq (.reg [⟨none, (some 4), (.mv (some 4) (.k (.int .u64 0)))⟩]) (.seq (.reg [⟨none, (some 8), (.mv (some 8) (.t 0))⟩, ⟨none, (some 9), (.mv (some 9) (.t 1))⟩, ⟨none, (some 10), (.len (some 10) (.t 9))⟩, ⟨none, (some 11), (.cvi (some 11) .u64 (.t 10))⟩, ⟨none, (some 12), (.call (some 12) 10 [(.t 8), (.t 11)])⟩, ⟨none, (some 5), (.mv (some 5) (.t 12))⟩]) (.seq (.seq (.reg [⟨none, (some 13), (.mv (some 13) (.t 1))⟩, ⟨none, (some 14), (.len (some 14) (.t 13))⟩, ⟨none, (some 15), (.mv (some 15) (.k (.int .i64 0)))⟩]) (.block 0 (.loop (.seq (.reg [⟨none, (some 16), (.bin (some 16) .lss (.t 15) (.t 14))⟩]) (.seq (.cond (.t 16) .skip (.exit 0)) (.seq (.block 1 (.seq (.reg [⟨none, (some 17), (.ixs (some 17) 1 (.t 13) (.t 15))⟩, ⟨none, (some 18), (.load (some 18) 1 false (.t 17))⟩, ⟨none, (some 7), (.mv (some 7) (.t 18))⟩]) (.reg [⟨none, (some 19), (.mv (some 19) (.t 5))⟩, ⟨none, (some 20), (.mv (some 20) (.t 7))⟩, ⟨none, (some 21), (.cvi (some 21) .u64 (.t 20))⟩, ⟨none, (some 22), (.call (some 22) 10 [(.t 19), (.t 21)])⟩, ⟨none, (some 5), (.mv (some 5) (.t 22))⟩]))) (.reg [⟨none, (some 23), (.bin (some 23) .add (.t 15) (.k (.int .i64 1)))⟩, ⟨none, (some 15), (.mv (some 15) (.t 23))⟩]))))))) (.seq (.reg [⟨none, (some 24), (.mv (some 24) (.t 5))⟩, ⟨none, (some 4), (.mv (some 4) (.t 24))⟩]) .ret))))
theorem tr12 : ((Try.f12.name == "runtime.NumGoroutine") = false ∧ Try.f12.results = ([4].map ResultVar.tmp).toArray) ∧ Try.f12.ntmps = 25 ∧ (Try.f12.body.bind (trCode Try.prog Try.f12.ntmps)) = some ac12 := ⟨⟨by kernel_rfl, by kernel_rfl⟩, by kernel_rfl, by kernel_rfl⟩


def sumI (seed : Int) (xs : List Int) (n : Nat) : Int := xs.foldl (fun h x => mixI h (IntKind.u64.wrap x)) (mixI seed (IntKind.u64.wrap (n : Int)))
theorem sumI_snoc (seed : Int) (xs : List Int) (x : Int) (n : Nat) : sumI seed (xs ++ [x]) n = mixI (sumI seed xs n) (IntKind.u64.wrap x) := by simp [sumI]
theorem sum_FS (seed : Int) (xs : List Int) (hb : xs.length ≤ 9000000000000000) :
    FS Try.prog 12 [.c (.p (.v (.int .u64 seed))), .c (.p (.sl 1 (ints .u8 xs)))] [] fun res rg => res = .c (.p (.v (.int .u64 (sumI seed xs xs.length)))) ∧ rg = [] := by
  refine FS_def [4] 25 Try.func12 tr12 rfl ?_
  unfold ac12
  refine codeW_seq fun K1 hK1 => codeW_reg ?_
  refine O_cons (W_it (W_mv rfl ?_))
  refine O_nil (hK1 _ ?_)
  clear hK1 K1
  refine codeW_seq fun K2 hK2 => codeW_reg ?_
  refine O_cons (W_it (W_mv rfl ?_))
  refine O_cons (W_it (W_mv rfl ?_))
  refine O_cons (W_it (W_len rfl ?_))
  refine O_cons (W_it (W_cvi rfl ?_))
  refine O_cons (W_it (W_callF (mix_FS _ _) [] rfl (by decide) trivial ?_))
  rintro _ _ ⟨rfl, rfl⟩
  simp only [St.put, renAV, renAC, renReg, renAVs, setAll, upF, List.map_cons, List.map_nil, List.cons_append, List.nil_append, List.append_nil, List.set_cons_zero, List.set_cons_succ, List.length_cons, List.length_nil, Nat.reduceAdd, Nat.reduceLT, Nat.reduceSub, Nat.not_lt_zero, if_false, if_true, Nat.sub_zero, Nat.add_zero, Nat.zero_add]
  refine O_cons (W_it (W_mv rfl ?_))
  refine O_nil (hK2 _ ?_)
  clear hK2 K2
  refine codeW_seq fun K3 hK3 => ?_
  refine codeW_seq fun K4 hK4 => codeW_reg ?_
  refine O_cons (W_it (W_mv rfl ?_))
  refine O_cons (W_it (W_len rfl ?_))
  refine O_cons (W_it (W_mv rfl ?_))
  refine O_nil (hK4 _ ?_)
  clear hK4 K4
  refine codeW_block ?_
  refine codeW_weak (s' := ⟨[(15, .c (.p (.v (.int .i64 ((0 : Nat) : Int))))), (14, .c (.p (.v (.int .i64 (xs.length : Int))))), (13, .c (.p (.sl 1 (ints .u8 xs)))), (5, .c (.p (.v (.int .u64 (sumI seed (xs.take 0) xs.length)))))], []⟩) (Weak.ren [] rfl (by decide) trivial ⟨rfl, ?_, rfl, ?_, trivial⟩) ?_
  · exact congrArg (fun n : Nat => AV.c (.p (.v (.int .i64 (n : Int))))) (ints_len _ _)
  · exact congrArg (fun n : Nat => AV.c (.p (.v (.int .u64 (mixI seed (IntKind.u64.wrap (n : Int))))))) (ints_len _ _)
  refine codeW_loop (fun k s => ∃ i : Nat, i + k = xs.length ∧ s = ⟨[(15, .c (.p (.v (.int .i64 (i : Int))))), (14, .c (.p (.v (.int .i64 (xs.length : Int))))), (13, .c (.p (.sl 1 (ints .u8 xs)))), (5, .c (.p (.v (.int .u64 (sumI seed (xs.take i) xs.length)))))], []⟩) xs.length ⟨0, by omega, rfl⟩ ?_
  rintro k s ⟨i, hik, rfl⟩ K hK
  refine codeW_seq fun K5 hK5 => codeW_reg ?_
  refine O_cons (W_it (W_lss rfl rfl ?_))
  refine O_nil (hK5 _ ?_)
  clear hK5 K5
  refine codeW_seq fun K6 hK6 => ?_
  refine codeW_cond rfl (fun hc0 => ?_) (fun hc0 => ?_)
  · have hi : i < xs.length := by have := of_decide_eq_true hc0; omega
    refine codeW_skip ?_
    refine (hK6 _ ?_ : K6 _)
    try clear hK6 K6
    refine codeW_seq fun K7 hK7 => ?_
    refine codeW_block ?_
    refine codeW_seq fun K8 hK8 => codeW_reg ?_
    first | refine O_cons (W_it (W_ixs_s rfl rfl (by omega) (ints_geti (i := i) hi) ?_)) | refine O_cons (W_it (W_ixs_o rfl rfl (by omega) (by omega) ?_))
    first | refine O_cons (W_it (W_load_p rfl rfl rfl rfl ?_)) | refine O_cons (W_it (W_load_r rfl rfl rfl ?_)) | refine O_cons (W_it (W_load_e rfl rfl rfl rfl rfl ?_))
    refine O_cons (W_it (W_mv rfl ?_))
    refine O_nil (hK8 _ ?_)
    clear hK8 K8
    refine codeW_reg ?_
    refine O_cons (W_it (W_mv rfl ?_))
    refine O_cons (W_it (W_mv rfl ?_))
    refine O_cons (W_it (W_cvi rfl ?_))
    refine O_cons (W_it (W_callF (mix_FS _ _) [] rfl (by decide) trivial ?_))
    rintro _ _ ⟨rfl, rfl⟩
    simp only [St.put, renAV, renAC, renReg, renAVs, setAll, upF, List.map_cons, List.map_nil, List.cons_append, List.nil_append, List.append_nil, List.set_cons_zero, List.set_cons_succ, List.length_cons, List.length_nil, Nat.reduceAdd, Nat.reduceLT, Nat.reduceSub, Nat.not_lt_zero, if_false, if_true, Nat.sub_zero, Nat.add_zero, Nat.zero_add]
    refine O_cons (W_it (W_mv rfl ?_))
    refine O_nil ?_
    refine (hK7 _ ?_ : K7 _)
    try clear hK7 K7
    refine codeW_reg ?_
    refine O_cons (W_it (W_add rfl rfl ?_))
    refine O_cons (W_it (W_mv rfl ?_))
    refine O_nil ?_
    refine hK _ ⟨k - 1, _, by omega, ?_, i + 1, by omega, rfl⟩
    refine Weak.ren [] rfl (by decide) trivial ⟨?_, rfl, rfl, ?_, trivial⟩
    · show AV.c (.p (.v (.int .i64 (IntKind.i64.wrap ((i : Int) + 1))))) = _
      rw [wrap64_id (by omega) (by omega)]
      rfl
    · rw [List.take_succ_eq_append_getElem hi, sumI_snoc]
      rfl
  · have hi : i = xs.length := by have := of_decide_eq_false hc0; omega
    subst hi
    refine codeW_exit ?_
    refine (hK3 _ ?_ : K3 _)
    try clear hK3 K3
    refine codeW_seq fun K9 hK9 => codeW_reg ?_
    refine O_cons (W_it (W_mv rfl ?_))
    refine O_cons (W_it (W_mv rfl ?_))
    refine O_nil (hK9 _ ?_)
    clear hK9 K9
    refine codeW_ret (Fin.weak (.inr rfl) (s1 := ⟨[(4, .c (.p (.v (.int .u64 (sumI seed xs xs.length)))))], []⟩) (Weak.ren [] rfl (by decide) trivial ⟨?_, trivial⟩) ⟨rfl, rfl⟩)
    rw [List.take_length]
    rfl

def ac26 : ACode := (.seq (.reg [⟨none, (some 4), (.mv (some 4) (.k (.int .u64 0)))⟩]) (.seq (.reg [⟨none, (some 7), (.mv (some 7) (.t 0))⟩, ⟨none, (some 8), (.mv (some 8) (.t 1))⟩, ⟨none, (some 9), (.len (some 9) (.t 8))⟩, ⟨none, (some 10), (.cvi (some 10) .u64 (.t 9))⟩, ⟨none, (some 11), (.call (some 11) 46 [(.t 7), (.t 10)])⟩, ⟨none, (some 5), (.mv (some 5) (.t 11))⟩]) (.seq (.seq (.reg [⟨none, (some 6), (.mv (some 6) (.k (.int .i64 0)))⟩]) (.block 0 (.loop (.seq (.seq (.reg [⟨none, (some 12), (.mv (some 12) (.t 6))⟩, ⟨none, (some 13), (.mv (some 13) (.t 1))⟩, ⟨none, (some 14), (.len (some 14) (.t 13))⟩, ⟨none, (some 15), (.bin (some 15) .lss (.t 12) (.t 14))⟩]) (.cond (.t 15) .skip (.exit 0))) (.seq (.block 1 (.reg [⟨none, (some 18), (.mv (some 18) (.t 5))⟩, ⟨none, (some 19), (.mv (some 19) (.t 1))⟩, ⟨none, (some 20), (.mv (some 20) (.t 6))⟩, ⟨none, (some 21), (.ixs (some 21) 1 (.t 19) (.t 20))⟩, ⟨none, (some 22), (.load (some 22) 1 false (.t 21))⟩, ⟨none, (some 23), (.cvi (some 23) .u64 (.t 22))⟩, ⟨none, (some 24), (.call (some 24) 46 [(.t 18), (.t 23)])⟩, ⟨none, (some 5), (.mv (some 5) (.t 24))⟩])) (.reg [⟨none, (some 16), (.mv (some 16) (.t 6))⟩, ⟨none, (some 17), (.bin (some 17) .add (.t 16) (.k (.int .i64 1)))⟩, ⟨none, (some 6), (.mv (some 6) (.t 17))⟩])))))) (.seq (.reg [⟨none, (some 25), (.mv (some 25) (.t 5))⟩, ⟨none, (some 4), (.mv (some 4) (.t 25))⟩]) .ret))))
theorem tr26 : ((Try.f26.name == "runtime.NumGoroutine") = false ∧ Try.f26.results = ([4].map ResultVar.tmp).toArray) ∧ Try.f26.ntmps = 26 ∧ (Try.f26.body.bind (trCode Try.prog Try.f26.ntmps)) = some ac26 := ⟨⟨by kernel_rfl, by kernel_rfl⟩, by kernel_rfl, by kernel_rfl⟩


theorem rsum_FS (seed : Int) (xs : List Int) (hb : xs.length ≤ 9000000000000000) :
    FS Try.prog 26 [.c (.p (.v (.int .u64 seed))), .c (.p (.sl 1 (ints .u8 xs)))] [] fun res rg => res = .c (.p (.v (.int .u64 (sumI seed xs xs.length)))) ∧ rg = [] := by
  refine FS_def [4] 26 Try.func26 tr26 rfl ?_
  unfold ac26
  refine codeW_seq fun K1 hK1 => codeW_reg ?_
  refine O_cons (W_it (W_mv rfl ?_))
  refine O_nil (hK1 _ ?_)
  clear hK1 K1
  refine codeW_seq fun K2 hK2 => codeW_reg ?_
  refine O_cons (W_it (W_mv rfl ?_))
  refine O_cons (W_it (W_mv rfl ?_))
  refine O_cons (W_it (W_len rfl ?_))
  refine O_cons (W_it (W_cvi rfl ?_))
  refine O_cons (W_it (W_callF (rmix_FS _ _) [] rfl (by decide) trivial ?_))
  rintro _ _ ⟨rfl, rfl⟩
  simp only [St.put, renAV, renAC, renReg, renAVs, setAll, upF, List.map_cons, List.map_nil, List.cons_append, List.nil_append, List.append_nil, List.set_cons_zero, List.set_cons_succ, List.length_cons, List.length_nil, Nat.reduceAdd, Nat.reduceLT, Nat.reduceSub, Nat.not_lt_zero, if_false, if_true, Nat.sub_zero, Nat.add_zero, Nat.zero_add]
  refine O_cons (W_it (W_mv rfl ?_))
  refine O_nil (hK2 _ ?_)
  clear hK2 K2
  refine codeW_seq fun K3 hK3 => ?_
  refine codeW_seq fun K4 hK4 => codeW_reg ?_
  refine O_cons (W_it (W_mv rfl ?_))
  refine O_nil (hK4 _ ?_)
  clear hK4 K4
  refine codeW_block ?_
  refine codeW_weak (s' := ⟨[(6, .c (.p (.v (.int .i64 ((0 : Nat) : Int))))), (1, .c (.p (.sl 1 (ints .u8 xs)))), (5, .c (.p (.v (.int .u64 (sumI seed (xs.take 0) xs.length)))))], []⟩) (Weak.ren [] rfl (by decide) trivial ⟨rfl, rfl, ?_, trivial⟩) ?_
  · exact congrArg (fun n : Nat => AV.c (.p (.v (.int .u64 (mixI seed (IntKind.u64.wrap (n : Int))))))) (ints_len _ _)
  refine codeW_loop (fun k s => ∃ i : Nat, i + k = xs.length ∧ s = ⟨[(6, .c (.p (.v (.int .i64 (i : Int))))), (1, .c (.p (.sl 1 (ints .u8 xs)))), (5, .c (.p (.v (.int .u64 (sumI seed (xs.take i) xs.length)))))], []⟩) xs.length ⟨0, by omega, rfl⟩ ?_
  rintro k s ⟨i, hik, rfl⟩ K hK
  refine codeW_seq fun K5 hK5 => ?_
  refine codeW_seq fun K6 hK6 => codeW_reg ?_
  refine O_cons (W_it (W_mv rfl ?_))
  refine O_cons (W_it (W_mv rfl ?_))
  refine O_cons (W_it (W_len rfl ?_))
  rw [ints_len]
  refine O_cons (W_it (W_lss rfl rfl ?_))
  refine O_nil (hK6 _ ?_)
  clear hK6 K6
  refine codeW_cond rfl (fun hc0 => ?_) (fun hc0 => ?_)
  · have hi : i < xs.length := by have := of_decide_eq_true hc0; omega
    refine codeW_skip ?_
    refine (hK5 _ ?_ : K5 _)
    try clear hK5 K5
    refine codeW_seq fun K7 hK7 => ?_
    refine codeW_block ?_
    refine codeW_reg ?_
    refine O_cons (W_it (W_mv rfl ?_))
    refine O_cons (W_it (W_mv rfl ?_))
    refine O_cons (W_it (W_mv rfl ?_))
    first | refine O_cons (W_it (W_ixs_s rfl rfl (by omega) (ints_geti (i := i) hi) ?_)) | refine O_cons (W_it (W_ixs_o rfl rfl (by omega) (by omega) ?_))
    first | refine O_cons (W_it (W_load_p rfl rfl rfl rfl ?_)) | refine O_cons (W_it (W_load_r rfl rfl rfl ?_)) | refine O_cons (W_it (W_load_e rfl rfl rfl rfl rfl ?_))
    refine O_cons (W_it (W_cvi rfl ?_))
    refine O_cons (W_it (W_callF (rmix_FS _ _) [] rfl (by decide) trivial ?_))
    rintro _ _ ⟨rfl, rfl⟩
    simp only [St.put, renAV, renAC, renReg, renAVs, setAll, upF, List.map_cons, List.map_nil, List.cons_append, List.nil_append, List.append_nil, List.set_cons_zero, List.set_cons_succ, List.length_cons, List.length_nil, Nat.reduceAdd, Nat.reduceLT, Nat.reduceSub, Nat.not_lt_zero, if_false, if_true, Nat.sub_zero, Nat.add_zero, Nat.zero_add]
    refine O_cons (W_it (W_mv rfl ?_))
    refine O_nil ?_
    refine (hK7 _ ?_ : K7 _)
    try clear hK7 K7
    refine codeW_reg ?_
    refine O_cons (W_it (W_mv rfl ?_))
    refine O_cons (W_it (W_add rfl rfl ?_))
    refine O_cons (W_it (W_mv rfl ?_))
    refine O_nil ?_
    refine hK _ ⟨k - 1, _, by omega, ?_, i + 1, by omega, rfl⟩
    refine Weak.ren [] rfl (by decide) trivial ⟨?_, rfl, ?_, trivial⟩
    · show AV.c (.p (.v (.int .i64 (IntKind.i64.wrap ((i : Int) + 1))))) = _
      rw [wrap64_id (by omega) (by omega)]
      rfl
    · rw [List.take_succ_eq_append_getElem hi, sumI_snoc]
      rfl
  · have hi : i = xs.length := by have := of_decide_eq_false hc0; omega
    subst hi
    refine codeW_exit ?_
    refine (hK3 _ ?_ : K3 _)
    try clear hK3 K3
    refine codeW_seq fun K8 hK8 => codeW_reg ?_
    refine O_cons (W_it (W_mv rfl ?_))
    refine O_cons (W_it (W_mv rfl ?_))
    refine O_nil (hK8 _ ?_)
    clear hK8 K8
    refine codeW_ret (Fin.weak (.inr rfl) (s1 := ⟨[(4, .c (.p (.v (.int .u64 (sumI seed xs xs.length)))))], []⟩) (Weak.ren [] rfl (by decide) trivial ⟨?_, trivial⟩) ⟨rfl, rfl⟩)
    rw [List.take_length]
    rfl

def ac25 : ACode := (.seq (.reg [⟨none, (some 4), (.mv (some 4) (.k (.int .u64 0)))⟩]) (.seq (.reg [⟨none, (some 5), (.mv (some 5) (.t 0))⟩, ⟨none, (some 6), (.cvi (some 6) .u64 (.t 5))⟩, ⟨none, (some 7), (.mv (some 7) (.t 1))⟩, ⟨none, (some 8), (.call (some 8) 12 [(.t 6), (.t 7)])⟩, ⟨none, (some 4), (.mv (some 4) (.t 8))⟩]) .ret))
theorem tr25 : ((Try.f25.name == "runtime.NumGoroutine") = false ∧ Try.f25.results = ([4].map ResultVar.tmp).toArray) ∧ Try.f25.ntmps = 9 ∧ (Try.f25.body.bind (trCode Try.prog Try.f25.ntmps)) = some ac25 := ⟨⟨by kernel_rfl, by kernel_rfl⟩, by kernel_rfl, by kernel_rfl⟩


theorem part_FS (i : Int) (xs : List Int) (hb : xs.length ≤ 9000000000000000) :
    FS Try.prog 25 [.c (.p (.v (.int .i64 i))), .c (.p (.sl 1 (ints .u8 xs)))] [] fun res rg => res = .c (.p (.v (.int .u64 (sumI (IntKind.u64.wrap i) xs xs.length)))) ∧ rg = [] := by
  refine FS_def [4] 9 Try.func25 tr25 rfl ?_
  unfold ac25
  refine codeW_seq fun K1 hK1 => codeW_reg ?_
  refine O_cons (W_it (W_mv rfl ?_))
  refine O_nil (hK1 _ ?_)
  clear hK1 K1
  refine codeW_seq fun K2 hK2 => codeW_reg ?_
  refine O_cons (W_it (W_mv rfl ?_))
  refine O_cons (W_it (W_cvi rfl ?_))
  refine O_cons (W_it (W_mv rfl ?_))
  refine O_cons (W_it (W_callF (sum_FS _ xs hb) [] rfl (by decide) trivial ?_))
  rintro _ _ ⟨rfl, rfl⟩
  simp only [St.put, renAV, renAC, renReg, renAVs, setAll, upF, List.map_cons, List.map_nil, List.cons_append, List.nil_append, List.append_nil, List.set_cons_zero, List.set_cons_succ, List.length_cons, List.length_nil, Nat.reduceAdd, Nat.reduceLT, Nat.reduceSub, Nat.not_lt_zero, if_false, if_true, Nat.sub_zero, Nat.add_zero, Nat.zero_add]
  refine O_cons (W_it (W_mv rfl ?_))
  refine O_nil (hK2 _ ?_)
  clear hK2 K2
  exact codeW_ret (Fin.here (.inr rfl) ⟨rfl, rfl⟩)

end Go.Sim
