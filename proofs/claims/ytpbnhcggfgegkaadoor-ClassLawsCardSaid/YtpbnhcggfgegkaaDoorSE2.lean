/- The place of a number's lowest bit, as Go's table tells it: plain laws. -/
import Derived.Test.YtpbnhcggfgegkaaDoorSE1
set_option linter.unusedVariables false
set_option linter.unusedSimpArgs false
namespace Go.E
open Go.H

def dbTab : List Nat := [0, 1, 56, 2, 57, 49, 28, 3, 61, 58, 42, 50, 38, 29, 17, 4, 62, 47, 59, 36, 45, 43, 51, 22, 53, 39, 33, 30, 24, 18, 12, 5, 63, 55, 48, 27, 60, 41, 37, 16, 46, 35, 44, 21, 52, 32, 23, 11, 54, 26, 40, 15, 34, 20, 31, 10, 25, 14, 19, 9, 13, 8, 7, 6]
theorem db_at : ∀ t, t < 64 → dbTab[(2 ^ t * 285870213051353865 % 18446744073709551616) / 288230376151711744]? = some t := by decide

theorem low_bit {n t : Nat} (hn : n < 18446744073709551616) (ht : n.testBit t = true) (hl : ∀ j, j < t → n.testBit j = false) : t < 64 ∧ n &&& (18446744073709551616 - n) = 2 ^ t := by
  have h64 : t < 64 := by
    apply Decidable.byContradiction
    intro h
    rw [Nat.testBit_lt_two_pow (lt_pow hn (by omega))] at ht
    cases ht
  refine ⟨h64, ?_⟩
  have h0 : n ≠ 0 := by intro e; subst e; simp at ht
  have hmod : n % 2 ^ (t + 1) = 2 ^ t := by
    refine Nat.eq_of_testBit_eq fun j => ?_
    rw [Nat.testBit_mod_two_pow, Nat.testBit_two_pow]
    by_cases e : j < t
    · have : ¬ t = j := by omega
      simp [hl j e, this]
    · by_cases e2 : j = t
      · subst e2; simp [ht]
      · have h1 : ¬ j < t + 1 := by omega
        have h2 : ¬ t = j := by omega
        simp [h1, h2]
  have hn1 : n = 2 ^ (t + 1) * (n / 2 ^ (t + 1)) + 2 ^ t := by have := Nat.div_add_mod n (2 ^ (t + 1)); rw [hmod] at this; exact this.symm
  have hp : 0 < 2 ^ t := Nat.pow_pos (by omega)
  have hn2 : n - 1 = 2 ^ (t + 1) * (n / 2 ^ (t + 1)) + (2 ^ t - 1) := by omega
  refine Nat.eq_of_testBit_eq fun j => ?_
  have hs : 18446744073709551616 - n = 2 ^ 64 - ((n - 1) + 1) := by rw [← two64]; omega
  rw [Nat.testBit_and, hs, Nat.testBit_two_pow_sub_succ (by rw [← two64]; omega), Nat.testBit_two_pow]
  have hlt1 : 2 ^ t < 2 ^ (t + 1) := by rw [Nat.pow_succ]; omega
  rcases Nat.lt_trichotomy j t with e | e | e
  · have : ¬ t = j := by omega
    simp [hl j e, this]
  · subst e
    have : (n - 1).testBit j = false := by
      rw [hn2, Nat.testBit_two_pow_mul_add _ (by omega)]
      have h1 : j < j + 1 := by omega
      rw [if_pos h1, Nat.testBit_lt_two_pow (by omega)]
    simp [ht, this, h64]
  · have h1 : ¬ j < t + 1 := by omega
    have a1 : n.testBit j = (n / 2 ^ (t + 1)).testBit (j - (t + 1)) := by
      have := Nat.testBit_two_pow_mul_add (n / 2 ^ (t + 1)) hlt1 j
      rw [← hn1, if_neg h1] at this
      exact this
    have a2 : (n - 1).testBit j = (n / 2 ^ (t + 1)).testBit (j - (t + 1)) := by
      have := Nat.testBit_two_pow_mul_add (n / 2 ^ (t + 1)) (b := 2 ^ t - 1) (i := t + 1) (by omega) j
      rw [← hn2, if_neg h1] at this
      exact this
    have : ¬ t = j := by omega
    rw [a1, a2]
    simp only [this, decide_false]
    cases (n / 2 ^ (t + 1)).testBit (j - (t + 1)) <;> simp

/-- What Go's expression comes to: the table's index. -/
theorem tz_index {n t : Nat} (hn : n < 18446744073709551616) (ht : n.testBit t = true) (hl : ∀ j, j < t → n.testBit j = false) :
    t < 64 ∧ shrV .u64 (IntKind.u64.wrap ((bitsV .and .u64 (n : Int) (IntKind.u64.wrap (0 - (n : Int)))) * 285870213051353865)) 58 = (((2 ^ t * 285870213051353865 % 18446744073709551616) / 288230376151711744 : Nat) : Int) := by
  obtain ⟨h64, hb⟩ := low_bit hn ht hl
  refine ⟨h64, ?_⟩
  have h0 : n ≠ 0 := by intro e; subst e; simp at ht
  have hneg : IntKind.u64.wrap (0 - (n : Int)) = ((18446744073709551616 - n : Nat) : Int) := by rw [IntKind.wrap_u64]; omega
  rw [hneg, and_nat hn (by omega), hb]
  have hw : IntKind.u64.wrap (((2 ^ t : Nat) : Int) * 285870213051353865) = ((2 ^ t * 285870213051353865 % 18446744073709551616 : Nat) : Int) := by
    rw [IntKind.wrap_u64]; generalize 2 ^ t = q; omega
  rw [hw]
  have := shr_nat (x := 2 ^ t * 285870213051353865 % 18446744073709551616) (j := 58) (by omega)
  rw [show ((58 : Nat) : Int) = 58 from rfl] at this
  rw [this, Nat.shiftRight_eq_div_pow]
/-- Some bit is the lowest. -/
theorem low_ex {n : Nat} (h : n ≠ 0) : ∃ t, n.testBit t = true ∧ ∀ j, j < t → n.testBit j = false := by
  have hex : ∃ t, n.testBit t = true := Nat.exists_testBit_of_ne_zero h
  obtain ⟨t, ht⟩ := hex
  obtain ⟨k, hk, hm⟩ := least (p := fun t => n.testBit t = true) ht
  exact ⟨k, hk, fun j hj => by have := hm j hj; simpa using this⟩
end Go.E
