/- Sets of bytes as four numbers of 64 bits: plain laws. -/
import Derived.Test.YtpbnhcggfgegkaaDoorH9
import Derived.Laws.BitsLemmas
import Derived.Laws.Bits64
set_option linter.unusedVariables false
set_option linter.unusedSimpArgs false
namespace Go.E
open Go.H

def bits (f : Nat → Bool) : Nat → Nat
  | 0 => 0
  | n + 1 => 2 ^ n * (f n).toNat + bits f n
theorem bits_lt (f : Nat → Bool) : ∀ n, bits f n < 2 ^ n
  | 0 => by simp [bits]
  | n + 1 => by
    have := bits_lt f n
    unfold bits
    cases f n <;> simp [Nat.pow_succ] <;> omega
theorem bits_test (f : Nat → Bool) : ∀ n j, (bits f n).testBit j = (decide (j < n) && f j)
  | 0, j => by simp [bits]
  | n + 1, j => by
    have hlt := bits_lt f n
    have ih := bits_test f n j
    unfold bits
    cases hf : f n with
    | false =>
      simp only [Bool.toNat_false, Nat.mul_zero, Nat.zero_add]
      rw [ih]
      by_cases h : j < n
      · simp [h, Nat.lt_succ_of_lt h]
      · by_cases e : j = n
        · subst e; simp [hf]
        · have : ¬ j < n + 1 := by omega
          simp [h, this]
    | true =>
      simp only [Bool.toNat_true, Nat.mul_one]
      rcases Nat.lt_trichotomy j n with h | h | h
      · rw [Nat.testBit_two_pow_add_gt h, ih]
        simp [h, Nat.lt_succ_of_lt h]
      · subst h
        rw [Nat.testBit_two_pow_add_eq, ih]
        simp [hf]
      · have : ¬ j < n + 1 := by omega
        rw [Nat.testBit_lt_two_pow]
        · simp [this]
        · calc 2 ^ n + bits f n < 2 ^ n + 2 ^ n := by omega
            _ = 2 ^ (n + 1) := by rw [Nat.pow_succ]; omega
            _ ≤ 2 ^ j := Nat.pow_le_pow_right (by omega) (by omega)
theorem bits_of {x n : Nat} (h : x < 2 ^ n) : bits x.testBit n = x := by
  refine Nat.eq_of_testBit_eq fun j => ?_
  rw [bits_test]
  by_cases hj : j < n
  · simp [hj]
  · rw [Nat.testBit_lt_two_pow (Nat.lt_of_lt_of_le h (Nat.pow_le_pow_right (by omega) (by omega)))]
    simp [hj]
theorem bits_congr {f g : Nat → Bool} {n : Nat} (h : ∀ j, j < n → f j = g j) : bits f n = bits g n := by
  refine Nat.eq_of_testBit_eq fun j => ?_
  rw [bits_test, bits_test]
  by_cases hj : j < n
  · simp [hj, h j hj]
  · simp [hj]

theorem two64 : (18446744073709551616 : Nat) = 2 ^ 64 := by decide
theorem or_lt {x y : Nat} (hx : x < 18446744073709551616) (hy : y < 18446744073709551616) : x ||| y < 18446744073709551616 := by
  rw [two64] at *; exact Nat.or_lt_two_pow hx hy
theorem xor_lt {x y : Nat} (hx : x < 18446744073709551616) (hy : y < 18446744073709551616) : x ^^^ y < 18446744073709551616 := by
  rw [two64] at *; exact Nat.xor_lt_two_pow hx hy
theorem pow_lt {j : Nat} (h : j < 64) : 2 ^ j < 18446744073709551616 := by
  rw [two64]; exact Nat.pow_lt_pow_right (by omega) h
theorem lt_pow {x j : Nat} (hx : x < 18446744073709551616) (h : 64 ≤ j) : x < 2 ^ j := by
  rw [two64] at hx; exact Nat.lt_of_lt_of_le hx (Nat.pow_le_pow_right (by omega) h)
/-- the k-th number of a set -/
def limb (f : Nat → Bool) (k : Nat) : Nat := bits (fun j => f (64 * k + j)) 64
abbrev L (f : Nat → Bool) (k : Nat) : Int := ((limb f k : Nat) : Int)
theorem limb_lt (f : Nat → Bool) (k : Nat) : limb f k < 18446744073709551616 := by rw [two64]; exact bits_lt _ 64
theorem limb_test (f : Nat → Bool) (k : Nat) {j : Nat} (h : j < 64) : (limb f k).testBit j = f (64 * k + j) := by simp [limb, bits_test, h]
theorem limb_congr {f g : Nat → Bool} {k : Nat} (h : ∀ j, j < 64 → f (64 * k + j) = g (64 * k + j)) : limb f k = limb g k := bits_congr h
theorem limb_inj {f g : Nat → Bool} {k : Nat} (h : limb f k = limb g k) {j : Nat} (hj : j < 64) : f (64 * k + j) = g (64 * k + j) := by
  rw [← limb_test f k hj, ← limb_test g k hj, h]
theorem limb_ext {n : Nat} (hn : n < 18446744073709551616) {f : Nat → Bool} {k : Nat} (h : ∀ j, j < 64 → n.testBit j = f (64 * k + j)) : n = limb f k := by
  refine Nat.eq_of_testBit_eq fun j => ?_
  by_cases hj : j < 64
  · rw [h j hj, limb_test f k hj]
  · rw [Nat.testBit_lt_two_pow, Nat.testBit_lt_two_pow]
    · exact lt_pow (limb_lt f k) (by omega)
    · exact lt_pow hn (by omega)
/-- Any four numbers are some set. -/
theorem limb_all {a b c d : Nat} (ha : a < 18446744073709551616) (hb : b < 18446744073709551616) (hc : c < 18446744073709551616) (hd : d < 18446744073709551616) :
    ∃ f, a = limb f 0 ∧ b = limb f 1 ∧ c = limb f 2 ∧ d = limb f 3 := by
  refine ⟨fun i => if i < 64 then a.testBit i else if i < 128 then b.testBit (i - 64) else if i < 192 then c.testBit (i - 128) else d.testBit (i - 192),
    limb_ext ha fun j hj => ?_, limb_ext hb fun j hj => ?_, limb_ext hc fun j hj => ?_, limb_ext hd fun j hj => ?_⟩
  · simp [hj]
  · have h1 : ¬ (64 * 1 + j < 64) := by omega
    have h2 : 64 * 1 + j < 128 := by omega
    simp only [h1, h2, if_true, if_false]; exact congrArg _ (by omega)
  · have h1 : ¬ (64 * 2 + j < 64) := by omega
    have h2 : ¬ (64 * 2 + j < 128) := by omega
    have h3 : 64 * 2 + j < 192 := by omega
    simp only [h1, h2, h3, if_true, if_false]; exact congrArg _ (by omega)
  · have h1 : ¬ (64 * 3 + j < 64) := by omega
    have h2 : ¬ (64 * 3 + j < 128) := by omega
    have h3 : ¬ (64 * 3 + j < 192) := by omega
    simp only [h1, h2, h3, if_false]; exact congrArg _ (by omega)

theorem wrap_u64 {n : Nat} (h : n < 18446744073709551616) : IntKind.u64.wrap (n : Int) = (n : Int) := by
  rw [IntKind.wrap_u64]; omega
theorem bv {n : Nat} (h : n < 18446744073709551616) : (BitVec.ofInt IntKind.u64.bits (n : Int)).toNat = n := by
  show (BitVec.ofInt 64 (n : Int)).toNat = n
  rw [BitVec.ofInt_natCast, BitVec.toNat_ofNat]
  exact Nat.mod_eq_of_lt h
theorem or_nat {x y : Nat} (hx : x < 18446744073709551616) (hy : y < 18446744073709551616) : bitsV .or .u64 (x : Int) (y : Int) = ((x ||| y : Nat) : Int) := by
  unfold bitsV
  dsimp only
  rw [BitVec.toNat_or, bv hx, bv hy]
  exact wrap_u64 (or_lt hx hy)
theorem and_nat {x y : Nat} (hx : x < 18446744073709551616) (hy : y < 18446744073709551616) : bitsV .and .u64 (x : Int) (y : Int) = ((x &&& y : Nat) : Int) := by
  unfold bitsV
  dsimp only
  rw [BitVec.toNat_and, bv hx, bv hy]
  exact wrap_u64 (Nat.lt_of_le_of_lt Nat.and_le_left hx)
theorem xor_nat {x y : Nat} (hx : x < 18446744073709551616) (hy : y < 18446744073709551616) : bitsV .xor .u64 (x : Int) (y : Int) = ((x ^^^ y : Nat) : Int) := by
  unfold bitsV
  dsimp only
  rw [BitVec.toNat_xor, bv hx, bv hy]
  exact wrap_u64 (xor_lt hx hy)

theorem L_or (f g : Nat → Bool) (k : Nat) : bitsV .or .u64 (L f k) (L g k) = L (fun b => f b || g b) k := by
  rw [or_nat (limb_lt f k) (limb_lt g k)]
  refine congrArg (Nat.cast (R := Int)) ?_
  refine limb_ext (or_lt (limb_lt f k) (limb_lt g k)) fun j hj => ?_
  rw [Nat.testBit_or, limb_test f k hj, limb_test g k hj]
theorem L_and (f g : Nat → Bool) (k : Nat) : bitsV .and .u64 (L f k) (L g k) = L (fun b => f b && g b) k := by
  rw [and_nat (limb_lt f k) (limb_lt g k)]
  refine congrArg (Nat.cast (R := Int)) ?_
  refine limb_ext (Nat.lt_of_le_of_lt Nat.and_le_left (limb_lt f k)) fun j hj => ?_
  rw [Nat.testBit_and, limb_test f k hj, limb_test g k hj]
theorem L_not (f : Nat → Bool) (k : Nat) : bitsV .xor .u64 18446744073709551615 (L f k) = L (fun b => !f b) k := by
  have h := xor_nat (x := 18446744073709551615) (y := limb f k) (by omega) (limb_lt f k)
  refine h.trans ?_
  refine congrArg (Nat.cast (R := Int)) ?_
  refine limb_ext (xor_lt (by omega) (limb_lt f k)) fun j hj => ?_
  rw [Nat.testBit_xor, limb_test f k hj]
  have : (18446744073709551615 : Nat).testBit j = true := by
    have := Nat.testBit_two_pow_sub_one 64 j
    rw [show (18446744073709551615 : Nat) = 2 ^ 64 - 1 by omega, this]
    simp [hj]
  rw [this]; simp
theorem L_congr {f g : Nat → Bool} {k : Nat} (h : ∀ j, j < 64 → f (64 * k + j) = g (64 * k + j)) : L f k = L g k := by
  unfold L; rw [limb_congr h]
theorem L_zero (k : Nat) : L (fun _ => false) k = 0 := by
  have : (0 : Nat) = limb (fun _ => false) k := limb_ext (by omega) fun j hj => by simp
  unfold L; rw [← this]; rfl
theorem shr_nat {x j : Nat} (hj : j < 64) : shrV .u64 (x : Int) (j : Int) = ((x >>> j : Nat) : Int) := by
  unfold shrV
  have hm : min (j : Int).toNat IntKind.u64.bits = j := by
    show min (j : Int).toNat 64 = j
    omega
  rw [hm, Nat.shiftRight_eq_div_pow]
  have h2 : ((2 : Int) ^ j) = ((2 ^ j : Nat) : Int) := by simp
  rw [h2, Int.fdiv_eq_ediv_of_nonneg _ (Int.natCast_nonneg _)]
  rfl
theorem L_has (f : Nat → Bool) (k : Nat) {j : Nat} (hj : j < 64) : (bitsV .and .u64 (shrV .u64 (L f k) (j : Int)) 1 == 1) = f (64 * k + j) := by
  rw [shr_nat hj]
  have hlt : limb f k >>> j < 18446744073709551616 := Nat.lt_of_le_of_lt (Nat.shiftRight_le _ _) (limb_lt f k)
  have h := and_nat (x := limb f k >>> j) (y := 1) hlt (by omega)
  rw [show ((1 : Nat) : Int) = 1 from rfl] at h
  rw [h, ← limb_test f k hj, Nat.testBit]
  rw [Nat.and_one_is_mod, Nat.one_and_eq_mod_two]
  have := Nat.mod_two_eq_zero_or_one (limb f k >>> j)
  rcases this with e | e <;> rw [e] <;> rfl
theorem shl_one {j : Nat} (hj : j < 64) : shlV .u64 1 (j : Int) = ((2 ^ j : Nat) : Int) := by
  unfold shlV
  have hm : min (j : Int).toNat IntKind.u64.bits = j := by
    show min (j : Int).toNat 64 = j
    omega
  rw [hm, Int.one_mul]
  have h2 : ((2 : Int) ^ j) = ((2 ^ j : Nat) : Int) := by simp
  rw [h2]
  exact wrap_u64 (pow_lt hj)
theorem L_add (f : Nat → Bool) (k : Nat) {j : Nat} (hj : j < 64) : bitsV .or .u64 (L f k) (shlV .u64 1 (j : Int)) = L (fun b => f b || b == 64 * k + j) k := by
  rw [shl_one hj, or_nat (limb_lt f k) (pow_lt hj)]
  refine congrArg (Nat.cast (R := Int)) ?_
  refine limb_ext (or_lt (limb_lt f k) (pow_lt hj)) fun i hi => ?_
  rw [Nat.testBit_or, limb_test f k hi, Nat.testBit_two_pow]
  congr 1
  by_cases e : j = i
  · subst e; simp
  · have : ¬ i = j := fun x => e x.symm
    simp [e, this]
theorem L_add_ne (f : Nat → Bool) {k k' j : Nat} (hj : j < 64) (hk : k' ≠ k) : L (fun b => f b || b == 64 * k + j) k' = L f k' :=
  L_congr fun i hi => by
    have : ¬ (64 * k' + i = 64 * k + j) := by omega
    simp [this]
/-- A set as a value. -/
abbrev setv (f : Nat → Bool) : Value := .agg #[.int .u64 (L f 0), .int .u64 (L f 1), .int .u64 (L f 2), .int .u64 (L f 3)]
theorem setv_eq {f g : Nat → Bool} (h : ∀ b, b < 256 → f b = g b) : setv f = setv g := by
  unfold setv
  rw [L_congr (k := 0) fun j hj => h _ (by omega), L_congr (k := 1) fun j hj => h _ (by omega), L_congr (k := 2) fun j hj => h _ (by omega), L_congr (k := 3) fun j hj => h _ (by omega)]
theorem L_inj {f g : Nat → Bool} (h0 : L f 0 = L g 0) (h1 : L f 1 = L g 1) (h2 : L f 2 = L g 2) (h3 : L f 3 = L g 3) : ∀ b, b < 256 → f b = g b := by
  intro b hb
  have e : b = 64 * (b / 64) + b % 64 := by omega
  have hk : b / 64 = 0 ∨ b / 64 = 1 ∨ b / 64 = 2 ∨ b / 64 = 3 := by omega
  have hj : b % 64 < 64 := by omega
  rw [e]
  rcases hk with x | x | x | x <;> rw [x]
  · exact limb_inj (Int.ofNat.inj h0) hj
  · exact limb_inj (Int.ofNat.inj h1) hj
  · exact limb_inj (Int.ofNat.inj h2) hj
  · exact limb_inj (Int.ofNat.inj h3) hj
end Go.E
