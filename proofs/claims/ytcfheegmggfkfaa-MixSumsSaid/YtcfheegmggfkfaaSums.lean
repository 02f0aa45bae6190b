/- MixSums: for every seed and every octets the sum is as the page says, octet by octet. No condition. -/
import Derived.Test.YtcfheegmggfkfaaPMixSumsx1
import Derived.Test.YtcfheegmggfkfaaMixLaws
namespace Go.Proofs.Ytcfheegmggfkfaa.Sums
open Go.RowKit Go.Proofs.Ytcfheegmggfkfaa.PMixSums Go.Proofs.YtcfheegmggfkfaaW.PrintWords Go.Proofs.YtcfheegmggfkfaaW.PrintLast Go.Proofs.YtcfheegmggfkfaaW.PrintMore
set_option linter.unusedVariables false
set_option linter.unusedSimpArgs false

theorem alive_yes : warrenerlaw03_alive.f 1 = some true := by decide +kernel

theorem quot_wrap (x d : Int) (hx0 : 0 ≤ x) (hx : x < 18446744073709551616) (hd : 0 < d) : IntKind.u64.wrap (Int.tdiv x d) = x / d := by
  rw [MixLaws.wrap64u, Int.tdiv_eq_ediv_of_nonneg hx0]
  have h1 : 0 ≤ x / d := Int.ediv_nonneg hx0 (by omega)
  have h2 : x / d ≤ x := Int.ediv_le_self _ hx0
  exact Int.emod_eq_of_lt h1 (by omega)

theorem step_same (a b : Int) : warrenerlaw03_step.f a b = mix_Mix.f a b := by
  unfold warrenerlaw03_step.f mix_Mix.f
  have hr : ∀ n : Int, 0 ≤ IntKind.u64.wrap n ∧ IntKind.u64.wrap n < 18446744073709551616 := by
    intro n; rw [MixLaws.wrap64u]; omega
  rw [Int.mul_comm a]
  rw [quot_wrap _ 4294967296 (hr _).1 (hr _).2 (by omega)]
  rw [quot_wrap _ 536870912 (hr _).1 (hr _).2 (by omega)]

def stp (a b : Int) : Int := (mix_Mix.f a b).getD 0
theorem mix_some (a b : Int) : mix_Mix.f a b = some (stp a b) := by unfold stp mix_Mix.f; rfl
theorem step_some (a b : Int) : warrenerlaw03_step.f a b = some (stp a b) := by rw [step_same, mix_some]

def sumOf (x : Int) : List Int → Int
  | [] => x
  | c :: l => sumOf (stp x (IntKind.u64.wrap c)) l

theorem drop_rd (l : List Int) (i : Nat) (h : i < l.length) : l.drop i = rd l (i : Int) :: l.drop (i + 1) := by
  rw [List.drop_eq_getElem_cons h]
  congr 1
  unfold rd
  rw [Int.toNat_natCast, List.getD_eq_getElem?_getD, List.getElem?_eq_getElem h]; rfl

theorem wrap_up (i : Nat) (h : i ≤ 140737488351232) : wrap64 ((i : Int) + 1) = ((i + 1 : Nat) : Int) := by
  unfold wrap64
  omega

theorem sum_l0 (l : List Int) (hl : l.length ≤ 140737488351232) (d : Nat) : ∀ (i k : Nat) (x : Int), i + d = l.length → d < k →
    mix_Sum.l0 k x l (l.length : Int) (i : Int) = some (sumOf x (l.drop i)) := by
  induction d with
  | zero =>
    intro i k x hi hk
    obtain ⟨k, rfl⟩ : ∃ m, k = m + 1 := ⟨k - 1, by omega⟩
    simp only [mix_Sum.l0]
    rw [if_neg (by omega), List.drop_of_length_le (by omega)]; rfl
  | succ d ih =>
    intro i k x hi hk
    obtain ⟨k, rfl⟩ : ∃ m, k = m + 1 := ⟨k - 1, by omega⟩
    simp only [mix_Sum.l0]
    rw [if_pos (by omega), if_pos (by omega), if_pos (by omega), mix_some]
    simp only [Option.bind_some]
    rw [wrap_up i (by omega), ih (i + 1) k _ (by omega) (by omega), drop_rd l i (by omega)]; rfl

theorem sum_some (a : Int) (l : List Int) (hl : l.length ≤ 140737488351232) :
    mix_Sum.f (l.length + 1) a l = some (sumOf (stp a (IntKind.u64.wrap (l.length : Int))) l) := by
  unfold mix_Sum.f
  rw [mix_some]
  simp only [Option.bind_some]
  have := sum_l0 l hl l.length 0 (l.length + 1) (stp a (IntKind.u64.wrap (l.length : Int))) (by omega) (by omega)
  simpa using this

theorem sum_len (a : Int) (l : List Int) (n : Int) (hn : n ≤ 2000) (h : (l.length : Int) = n) : mix_Sum.f (l.length + 1) a l = some (sumOf (stp a n) l) := by
  rw [sum_some a l (by omega), h]
  have e : IntKind.u64.wrap n = n := by
    rw [MixLaws.wrap64u]
    exact Int.emod_eq_of_lt (by omega) (by omega)
  rw [e]

set_option maxHeartbeats 4000000 in
set_option maxRecDepth 100000 in
theorem walk_few (a0 : Int) (A1 : Option Addr) (c1 : Nat) (l1 : List Int) (w : World) (hr1 : Kd.C (Kd.int .u8) w A1 l1.length l1) (hc1 : l1.length ≤ c1) (hn : (l1.length : Int) ≤ 2000) :
    Calls Try.prog 4 #[.int .u64 a0, .slice A1 l1.length c1] w fun e w' => e = .returned (.bool true) ∧ Drawn0 w w' := by
  have HR1 := Aside0.mk hr1
  have HC1 := Aside0.mk hc1
  clear hr1 hc1
  have hn1 : decide ((l1.length : Int) > 2000) = false := decide_eq_false (by omega)
  obtain ⟨m, hm⟩ : ∃ m, m = l1 := ⟨_, rfl⟩
  subst hm
  have hml : (m.length : Int) = (m.length : Int) := rfl
  have hsz : (m.length : Int) ≤ 2000 := hn
  have HA := Aside0.mk alive_yes
  have HS := Aside0.mk (step_some a0 (m.length : Int))
  have HT := Aside0.mk (sum_len a0 m (m.length) hsz hml)
  obtain ⟨R, hR⟩ : ∃ R, R = sumOf (stp a0 (m.length : Int)) m := ⟨_, rfl⟩
  rw [← hR] at HT
  have H0 : Aside0 (sumOf (stp a0 (m.length : Int)) (m.drop 0) = R) := ⟨by rw [hR]; rfl⟩
  clear hR
  clear hml
  go_enter Try.func4, Try.ntmps4
  go_wp2_with (first | ((with_reducible refine gate_callee (f := 9) rfl ?_); refine goesL_ (some 7) rfl rfl Try.func9 (by kernel_rfl) rfl #[] rfl (by (try simp only [List.map_toArray, List.map_cons, List.map_nil]); first | done | rfl | (simp only [List.length_drop, List.length_take]; rfl)) ?_; (with_reducible refine (warrenerlaw03_alive.calls 1 true _ HA.out).mono ?_); rintro e w' ⟨rfl, ⟨nd, rfl⟩⟩; refine ⟨_, rfl, ?_⟩) | ((with_reducible refine gate_callee (f := 11) rfl ?_); refine goesL_ (some 18) rfl rfl Try.func11 (by kernel_rfl) rfl #[.int .u64 a0, .int .u64 (m.length : Int)] rfl (by (try simp only [List.map_toArray, List.map_cons, List.map_nil]); first | done | rfl | (simp only [List.length_drop, List.length_take]; rfl)) ?_; (with_reducible refine (warrenerlaw03_step.calls a0 (m.length : Int) _ _ HS.out).mono ?_); rintro e w' ⟨rfl, ⟨nd, rfl⟩⟩; refine ⟨_, rfl, ?_⟩))
  go_loopg [5, 6] (m.length + 1) (fun kq v5 v6 w' => ∃ (x : Int) (i : Nat), v5 = .int .u64 x ∧ v6 = .int .i64 (i : Int) ∧ i ≤ m.length ∧ Aside0 (kq = m.length + 1 - i) ∧ Aside0 (sumOf x (m.drop i) = R) ∧ Drawn0 w w')
  case atStart => exact ⟨_, 0, rfl, rfl, Nat.zero_le _, ⟨rfl⟩, H0, by repeat (first | exact Drawn0.refl _ | apply Drawn0.step)⟩
  case round =>
    clear H0 HS HA
    obtain ⟨x, i, rfl, rfl, hi, HK, HX, ⟨m1, rfl⟩⟩ := hrel
    by_cases hlt : i < m.length
    · have HX2 : Aside0 (sumOf (stp x (IntKind.u64.wrap (rd m (i : Int)))) (m.drop (i + 1)) = R) := ⟨by have h := HX.out; rw [drop_rd m i hlt] at h; exact h⟩
      have HW := Aside0.mk (step_some x (IntKind.u64.wrap (rd m (i : Int))))
      have HLT := Aside0.mk hlt
      clear hlt hi
      obtain ⟨ad, e0, hx0⟩ := Kd.at_int HR1.out (i : Int) (Int.natCast_nonneg i) (Int.ofNat_lt.mpr HLT.out)
      cases e0
      rw [Int.toNat_natCast] at hx0
      have hlt1 : decide (i < m.length) = true := decide_eq_true HLT.out
      have hlt2 : i < m.length := HLT.out
      go_wp2_with (first | ((with_reducible refine gate_callee (f := 11) rfl ?_); refine goesL_ (some 31) rfl rfl Try.func11 (by kernel_rfl) rfl #[.int .u64 x, .int .u64 (IntKind.u64.wrap (rd m (i : Int)))] rfl (by (try simp only [List.map_toArray, List.map_cons, List.map_nil]); first | done | rfl | (simp only [List.length_drop, List.length_take]; rfl)) ?_; (with_reducible refine (warrenerlaw03_step.calls x (IntKind.u64.wrap (rd m (i : Int))) _ _ HW.out).mono ?_); rintro e w' ⟨rfl, ⟨nd, rfl⟩⟩; refine ⟨_, rfl, ?_⟩))
      go_roundg (m.length - i)
      case measure => have := HK.out; have := HLT.out; omega
      case rel => exact ⟨_, i + 1, rfl, by go_num, HLT.out, ⟨by have := HLT.out; omega⟩, HX2, by repeat (first | exact Drawn0.refl _ | apply Drawn0.step)⟩
    · have hx : x = R := by
        have h := HX.out
        rw [List.drop_of_length_le (by omega)] at h
        exact h
      subst hx
      have hge1 : decide (i < m.length) = false := decide_eq_false (by omega)
      clear HX HK hlt
      go_wp2_with fail
      refine (mix_Sum.calls (m.length + 1) a0 _ _ m x (w.drewN m1) (Kd.C_below HR1.out (Drawn0.below ⟨m1, rfl⟩)) HC1.out HT.out).mono ?_
      rintro e w' ⟨rfl, ⟨nd, rfl⟩⟩
      go_wp2
      go_ret
      exact ⟨by first | rfl | (simp; done) | (simp [*]; done), by repeat (first | exact Drawn0.refl _ | apply Drawn0.step)⟩

set_option maxHeartbeats 4000000 in
set_option maxRecDepth 100000 in
theorem walk_many (a0 : Int) (A1 : Option Addr) (c1 : Nat) (l1 : List Int) (w : World) (hr1 : Kd.C (Kd.int .u8) w A1 l1.length l1) (hc1 : l1.length ≤ c1) (hn : (l1.length : Int) > 2000) :
    Calls Try.prog 4 #[.int .u64 a0, .slice A1 l1.length c1] w fun e w' => e = .returned (.bool true) ∧ Drawn0 w w' := by
  obtain ⟨m, hm⟩ : ∃ m, m = l1.take 2000 := ⟨_, rfl⟩
  have hml : (m.length : Int) = 2000 := by rw [hm, List.length_take]; omega
  have hsz : (2000 : Int) ≤ 2000 := by omega
  have hr2 : Kd.C (Kd.int .u8) w A1 m.length m := by rw [hm]; exact Kd.C_take hr1 (by omega)
  have hl2 : m.length = 2000 := by omega
  have HR1 := Aside0.mk hr2
  have HC1 := Aside0.mk hc1
  have hc2 : 2000 ≤ c1 := by omega
  clear hr1 hr2 hc1
  have hn1 : decide ((l1.length : Int) > 2000) = true := decide_eq_true hn
  have HML := Aside0.mk hl2
  clear hm hl2
  have HA := Aside0.mk alive_yes
  have HS := Aside0.mk (step_some a0 (2000 : Int))
  have HT := Aside0.mk (sum_len a0 m (2000) hsz hml)
  obtain ⟨R, hR⟩ : ∃ R, R = sumOf (stp a0 (2000 : Int)) m := ⟨_, rfl⟩
  rw [← hR] at HT
  have H0 : Aside0 (sumOf (stp a0 (2000 : Int)) (m.drop 0) = R) := ⟨by rw [hR]; rfl⟩
  clear hR
  clear hml
  go_enter Try.func4, Try.ntmps4
  go_wp2_with (first | ((with_reducible refine gate_callee (f := 9) rfl ?_); refine goesL_ (some 7) rfl rfl Try.func9 (by kernel_rfl) rfl #[] rfl (by (try simp only [List.map_toArray, List.map_cons, List.map_nil]); first | done | rfl | (simp only [List.length_drop, List.length_take]; rfl)) ?_; (with_reducible refine (warrenerlaw03_alive.calls 1 true _ HA.out).mono ?_); rintro e w' ⟨rfl, ⟨nd, rfl⟩⟩; refine ⟨_, rfl, ?_⟩) | ((with_reducible refine gate_callee (f := 11) rfl ?_); refine goesL_ (some 18) rfl rfl Try.func11 (by kernel_rfl) rfl #[.int .u64 a0, .int .u64 (2000 : Int)] rfl (by (try simp only [List.map_toArray, List.map_cons, List.map_nil]); first | done | rfl | (simp only [List.length_drop, List.length_take]; rfl)) ?_; (with_reducible refine (warrenerlaw03_step.calls a0 (2000 : Int) _ _ HS.out).mono ?_); rintro e w' ⟨rfl, ⟨nd, rfl⟩⟩; refine ⟨_, rfl, ?_⟩))
  go_loopg [5, 6] (m.length + 1) (fun kq v5 v6 w' => ∃ (x : Int) (i : Nat), v5 = .int .u64 x ∧ v6 = .int .i64 (i : Int) ∧ i ≤ m.length ∧ Aside0 (kq = m.length + 1 - i) ∧ Aside0 (sumOf x (m.drop i) = R) ∧ Drawn0 w w')
  case atStart => exact ⟨_, 0, rfl, rfl, Nat.zero_le _, ⟨rfl⟩, H0, by repeat (first | exact Drawn0.refl _ | apply Drawn0.step)⟩
  case round =>
    clear H0 HS HA
    obtain ⟨x, i, rfl, rfl, hi, HK, HX, ⟨m1, rfl⟩⟩ := hrel
    by_cases hlt : i < m.length
    · have HX2 : Aside0 (sumOf (stp x (IntKind.u64.wrap (rd m (i : Int)))) (m.drop (i + 1)) = R) := ⟨by have h := HX.out; rw [drop_rd m i hlt] at h; exact h⟩
      have HW := Aside0.mk (step_some x (IntKind.u64.wrap (rd m (i : Int))))
      have HLT := Aside0.mk hlt
      clear hlt hi
      obtain ⟨ad, e0, hx0⟩ := Kd.at_int HR1.out (i : Int) (Int.natCast_nonneg i) (Int.ofNat_lt.mpr HLT.out)
      cases e0
      rw [Int.toNat_natCast] at hx0
      have hlt1 : (i : Int) < 2000 := by have h1 := HLT.out; have h2 := HML.out; omega
      go_wp2_with (first | ((with_reducible refine gate_callee (f := 11) rfl ?_); refine goesL_ (some 31) rfl rfl Try.func11 (by kernel_rfl) rfl #[.int .u64 x, .int .u64 (IntKind.u64.wrap (rd m (i : Int)))] rfl (by (try simp only [List.map_toArray, List.map_cons, List.map_nil]); first | done | rfl | (simp only [List.length_drop, List.length_take]; rfl)) ?_; (with_reducible refine (warrenerlaw03_step.calls x (IntKind.u64.wrap (rd m (i : Int))) _ _ HW.out).mono ?_); rintro e w' ⟨rfl, ⟨nd, rfl⟩⟩; refine ⟨_, rfl, ?_⟩))
      go_roundg (m.length - i)
      case measure => have := HK.out; have := HLT.out; omega
      case rel => exact ⟨_, i + 1, rfl, by go_num, HLT.out, ⟨by have := HLT.out; omega⟩, HX2, by repeat (first | exact Drawn0.refl _ | apply Drawn0.step)⟩
    · have hx : x = R := by
        have h := HX.out
        rw [List.drop_of_length_le (by omega)] at h
        exact h
      subst hx
      have hge1 : ¬ (i : Int) < 2000 := by have h2 := HML.out; omega
      clear HX HK hlt
      go_wp2_with fail
      rw [show (2000 : Nat) = m.length from HML.out.symm]
      refine (mix_Sum.calls (m.length + 1) a0 _ _ m x (w.drewN m1) (Kd.C_below HR1.out (Drawn0.below ⟨m1, rfl⟩)) (by have := HC1.out; have := HML.out; omega) HT.out).mono ?_
      rintro e w' ⟨rfl, ⟨nd, rfl⟩⟩
      go_wp2
      go_ret
      exact ⟨by first | rfl | (simp; done) | (simp [*]; done), by repeat (first | exact Drawn0.refl _ | apply Drawn0.step)⟩

theorem walk (a0 : Int) (a1 : Option Addr) (len1 cap1 : Nat) (z1 : List Int) (w : World)
    (w1 : (a1 = none ∧ len1 = 0 ∧ cap1 = 0 ∧ z1 = []) ∨ ∃ x, a1 = some x ∧ len1 ≤ cap1 ∧ cap1 ≤ maxLen ∧ z1.length = cap1 ∧ (∀ i, i < z1.length → w.cell? (x.add i) = some (.int .u8 (z1.getD i 0))) ∧ ∀ n ∈ z1, (Lit.int .u8 n).wf = true) :
    Calls Try.prog 4 #[.int .u64 a0, .slice a1 len1 cap1] w fun e w' => e = .returned (.bool true) ∧ Below w.heap.size w w' := by
  obtain ⟨l1, rfl, hr1, _, _, hc1⟩ := ReadsInt.ofRowC w1
  have hC : Kd.C (Kd.int .u8) w a1 l1.length l1 := Kd.C_of_reads (d := (0 : Int)) (h1 := fun _ => rfl) hr1
  by_cases hn : (l1.length : Int) ≤ 2000
  · exact (walk_few a0 a1 cap1 l1 w hC hc1 hn).mono fun e w' ⟨h1, h2⟩ => ⟨h1, h2.below⟩
  · exact (walk_many a0 a1 cap1 l1 w hC hc1 (by omega)).mono fun e w' ⟨h1, h2⟩ => ⟨h1, h2.below⟩

end Go.Proofs.Ytcfheegmggfkfaa.Sums
