/- Plain facts on the mixing of two numbers: the round halves of the mixer are one-to-one on 64 bits. No program stands here. -/
import Derived.Laws.Entries
import Derived.Laws.BitsLemmas
namespace Go.Proofs.Ytcfheegmggfkfaa.MixLaws

theorem wrap64u (n : Int) : IntKind.u64.wrap n = n % 18446744073709551616 := by
  simp [IntKind.wrap, IntKind.bits, IntKind.signed]

/-- 'x ^ x >> k' on 64 bits loses nothing. -/
theorem fold_inj (k : Nat) (hk : 1 ≤ k) (x y : BitVec 64) (h : x ^^^ (x >>> k) = y ^^^ (y >>> k)) : x = y := by
  have e : x ^^^ y = (x ^^^ y) >>> k := by
    rw [BitVec.ushiftRight_xor_distrib]
    apply BitVec.eq_of_getLsbD_eq
    intro i hi
    have hh := congrArg (fun b => BitVec.getLsbD b i) h
    simp only [BitVec.getLsbD_xor] at hh ⊢
    revert hh
    cases x.getLsbD i <;> cases y.getLsbD i <;> cases (x >>> k).getLsbD i <;> cases (y >>> k).getLsbD i <;> simp
  have hz : ∀ n : Nat, n = n / 2 ^ k → n = 0 := by
    intro n hn
    by_cases h0 : n = 0
    · exact h0
    · exfalso
      have h2 : 2 ≤ 2 ^ k := by
        calc 2 = 2 ^ 1 := rfl
          _ ≤ 2 ^ k := Nat.pow_le_pow_right (by decide) hk
      have : n / 2 ^ k < n := Nat.div_lt_self (by omega) (by omega)
      omega
  have hzz : (x ^^^ y).toNat = 0 := by
    apply hz
    have := congrArg BitVec.toNat e
    rw [BitVec.toNat_ushiftRight, Nat.shiftRight_eq_div_pow] at this
    exact this
  have hx : x ^^^ y = 0#64 := BitVec.eq_of_toNat_eq (by simpa using hzz)
  have := congrArg (fun b => b ^^^ y) hx
  simpa [BitVec.xor_assoc] using this

theorem bits_xor_shift (k : Nat) (x : Int) (h0 : 0 ≤ x) (h1 : x < 18446744073709551616) (d : Int) (hd : d = (2 ^ k : Nat)) :
    bits .xor .u64 x (x / d) = (((BitVec.ofInt 64 x) ^^^ ((BitVec.ofInt 64 x) >>> k)).toNat : Int) := by
  obtain ⟨n, rfl⟩ := Int.eq_ofNat_of_zero_le h0
  subst hd
  have e : ((n : Int) / ((2 ^ k : Nat) : Int)) = ((n / 2 ^ k : Nat) : Int) := by rw [Int.natCast_ediv]
  rw [e]
  have hn : n < 18446744073709551616 := by omega
  simp only [bits, IntKind.bits]
  have hs : BitVec.ofInt 64 ((n / 2 ^ k : Nat) : Int) = (BitVec.ofInt 64 (n : Int)) >>> k := by
    apply BitVec.eq_of_toNat_eq
    rw [BitVec.toNat_ushiftRight, Nat.shiftRight_eq_div_pow, BitVec.ofInt_natCast, BitVec.ofInt_natCast, BitVec.toNat_ofNat, BitVec.toNat_ofNat]
    have : n / 2 ^ k ≤ n := Nat.div_le_self _ _
    rw [Nat.mod_eq_of_lt (by omega), Nat.mod_eq_of_lt (by omega)]
  rw [hs, wrap64u]
  have := ((BitVec.ofInt 64 (n : Int)) ^^^ ((BitVec.ofInt 64 (n : Int)) >>> k)).isLt
  exact Int.emod_eq_of_lt (Int.natCast_nonneg _) (Int.ofNat_lt.mpr this)

/-- the same over numbers. -/
theorem fold_int (k : Nat) (hk : 1 ≤ k) (d x y : Int) (hd : d = (2 ^ k : Nat)) (hx0 : 0 ≤ x) (hx : x < 18446744073709551616) (hy0 : 0 ≤ y) (hy : y < 18446744073709551616)
    (h : bits .xor .u64 x (x / d) = bits .xor .u64 y (y / d)) : x = y := by
  rw [bits_xor_shift k x hx0 hx d hd, bits_xor_shift k y hy0 hy d hd] at h
  have h2 := fold_inj k hk _ _ (BitVec.eq_of_toNat_eq (Int.ofNat_inj.mp h))
  have h3 := congrArg BitVec.toNat h2
  obtain ⟨n, rfl⟩ := Int.eq_ofNat_of_zero_le hx0
  obtain ⟨m, rfl⟩ := Int.eq_ofNat_of_zero_le hy0
  rw [BitVec.ofInt_natCast, BitVec.ofInt_natCast, BitVec.toNat_ofNat, BitVec.toNat_ofNat, Nat.mod_eq_of_lt (by omega), Nat.mod_eq_of_lt (by omega)] at h3
  rw [h3]

theorem fold_range (x d : Int) : 0 ≤ bits .xor .u64 x d ∧ bits .xor .u64 x d < 18446744073709551616 := by
  simp only [bits]
  rw [wrap64u]
  omega

/-- an odd factor loses nothing. -/
theorem times_inj (x y : Int) (hx0 : 0 ≤ x) (hx : x < 18446744073709551616) (hy0 : 0 ≤ y) (hy : y < 18446744073709551616)
    (h : x * 13787848793156543929 % 18446744073709551616 = y * 13787848793156543929 % 18446744073709551616) : x = y := by
  have e : ∀ z : Int, 0 ≤ z → z < 18446744073709551616 → z * 13787848793156543929 % 18446744073709551616 * 10871156337175269513 % 18446744073709551616 = z := by
    intro z h0 h1
    rw [Int.mul_emod, Int.emod_emod, ← Int.mul_emod, Int.mul_assoc]
    have : (13787848793156543929 * 10871156337175269513 : Int) = 1 + 18446744073709551616 * ((13787848793156543929 * 10871156337175269513 - 1) / 18446744073709551616) := by decide
    rw [this, Int.mul_add, Int.mul_one, ← Int.mul_assoc, Int.mul_comm z, Int.mul_assoc, Int.add_mul_emod_self_left]
    exact Int.emod_eq_of_lt h0 h1
  rw [← e x hx0 hx, ← e y hy0 hy, h]

/-- the second half of a round: of one number of 64 bits. -/
def half (y : Int) : Int := bits .xor .u64 y (y / 536870912)
/-- the first half. -/
def fore (y : Int) : Int := bits .xor .u64 y (y / 4294967296)

theorem pow29 : (536870912 : Int) = ((2 ^ 29 : Nat) : Int) := by decide +kernel
theorem pow32 : (4294967296 : Int) = ((2 ^ 32 : Nat) : Int) := by decide +kernel

theorem half_inj (x y : Int) (hx : 0 ≤ x ∧ x < 18446744073709551616) (hy : 0 ≤ y ∧ y < 18446744073709551616) (h : half x = half y) : x = y :=
  fold_int 29 (by decide) 536870912 x y pow29 hx.1 hx.2 hy.1 hy.2 h
theorem fore_inj (x y : Int) (hx : 0 ≤ x ∧ x < 18446744073709551616) (hy : 0 ≤ y ∧ y < 18446744073709551616) (h : fore x = fore y) : x = y :=
  fold_int 32 (by decide) 4294967296 x y pow32 hx.1 hx.2 hy.1 hy.2 h

theorem mod_range (n : Int) : 0 ≤ n % 18446744073709551616 ∧ n % 18446744073709551616 < 18446744073709551616 := by omega

theorem all_inj (s b c : Int) (hb : 0 ≤ b ∧ b < 18446744073709551616) (hc : 0 ≤ c ∧ c < 18446744073709551616)
    (h : half (fore ((s + b) % 18446744073709551616) * 13787848793156543929 % 18446744073709551616) = half (fore ((s + c) % 18446744073709551616) * 13787848793156543929 % 18446744073709551616)) : b = c := by
  have r1 := half_inj _ _ (mod_range _) (mod_range _) h
  have r2 := times_inj _ _ (fold_range _ _).1 (fold_range _ _).2 (fold_range _ _).1 (fold_range _ _).2 r1
  have r3 := fore_inj _ _ (mod_range _) (mod_range _) r2
  clear r1 r2 h
  omega

end Go.Proofs.Ytcfheegmggfkfaa.MixLaws
