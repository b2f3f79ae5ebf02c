/- The byte's place in a text; the least byte of a set. -/
import Derived.Test.YtpbnhcggfgegkaaDoorSE4
set_option linter.unusedVariables false
set_option linter.unusedSimpArgs false
namespace Go.E
open Go.H
theorem dbTab_len : dbTab.length = 64 := by decide
attribute [local irreducible] BiN MkS ConvN LookN MapUpN CallV HC limb dbTab

/-- The first place of a byte; -1: none. -/
def ixB (s : ByteArray) (c : Nat) : Int :=
  match (List.range s.size).find? fun i => s[i]! == UInt8.ofNat c with
  | some i => (i : Int)
  | none => -1

theorem pt_index {s : ByteArray} {c : Nat} (hc : c < 256) {m : Mem} {Q : Value → Mem → Prop} {E : Value → Mem → Prop} (k : Q (.int .i64 (ixB s c)) m) :
    pt P (Extern.BytealgIndexByte.indexByte #[.string s, .int .u8 (c : Int)]) Q E m := by
  have h : (Extern.BytealgIndexByte.indexByte #[.string s, .int .u8 (c : Int)]) = (match (List.range s.size).find? fun i => s[i]! == UInt8.ofNat c with
    | some i => pure (goInt i)
    | none => pure (goInt (-1)) : Sem Value) := rfl
  rw [h]
  unfold ixB at k
  cases hx : (List.range s.size).find? fun i => s[i]! == UInt8.ofNat c with
  | some i => rw [hx] at k; exact k
  | none => rw [hx] at k; exact k
theorem Bytealg_spec {s : ByteArray} {c : Nat} (hc : c < 256) {m : Mem} {R : Ending → Mem → Prop} (k : R (.returned (.int .i64 (ixB s c))) m) :
    HC P internal_bytealg_IndexByteString.id #[.string s, .int .u8 (c : Int)] m R := by
  have hf : P.funcs[internal_bytealg_IndexByteString.id]? = some Go.Proofs.Tryd.f51 := Go.Proofs.Tryd.func51
  have hn : (Go.Proofs.Tryd.f51.name == "runtime.NumGoroutine") = false := by kernel_rfl
  have hb : Go.Proofs.Tryd.f51.body.isNone = true := by kernel_rfl
  have hx : Extern.findNext Go.Proofs.Tryd.f51 = none := by kernel_rfl
  have hy : Extern.find Go.Proofs.Tryd.f51 = some Extern.BytealgIndexByte.indexByte := by kernel_rfl
  unfold HC
  refine .inr ?_
  generalize hov : Extern.BytealgIndexByte.indexByte = ov at hy
  have key : pt P (ov #[.string s, .int .u8 (c : Int)]) (fun v m' => R (.returned v) m') (fun v m' => R (.panicked [{ v := v, recovered := false }]) m') m := by
    subst hov
    exact pt_index hc k
  unfold callFunc
  rw [pt_bind]
  show pt P (Sem.program .pure) _ _ m
  simp only [pt]
  rw [hf]
  simp only [hn, Bool.false_eq_true, if_false, hb, if_true]
  rw [pt_bind]
  show pt P (Sem.mark _ (Sem.pure ())) _ _ m
  simp only [pt, hx, hy]
  rw [pt_bind]
  exact key
theorem IndexByte_spec {s : ByteArray} {c : Nat} (hc : c < 256) {m : Mem} {R : Ending → Mem → Prop} (k : R (.returned (.int .i64 (ixB s c))) m) :
    HC P strings_IndexByte.id #[.string s, .int .u8 (c : Int)] m R := by
  refine strings_IndexByte.ok _ _ _ _ ?_
  refine internal_stringslite_IndexByte.ok _ _ _ _ ?_
  refine Bytealg_spec hc ?_
  dsimp only [Cont]
  exact UnI.mk (UnI.mk k)
/-- The package variable 'math/bits.deBruijn64tab' is laid. -/
def Glob (m : Mem) : Prop := CellsAt m (some ⟨0, 0, none⟩) (dbTab.map fun (x : Nat) => Value.int .u8 (x : Int))
theorem Glob.le {m m' : Mem} (h : Glob m) (k : Le m m') : Glob m' := CellsAt.le k h
theorem TZ_spec {n t : Nat} (hn : n < 18446744073709551616) (ht : n.testBit t = true) (hl : ∀ j, j < t → n.testBit j = false) {m : Mem} (hG : Glob m) {R : Ending → Mem → Prop}
    (k : R (.returned (.int .i64 (t : Int))) m) : HC P math_bits_TrailingZeros64.id #[.int .u64 (n : Int)] m R := by
  refine math_bits_TrailingZeros64.ok _ _ _ ?_
  have h0 : n ≠ 0 := by intro e; subst e; simp at ht
  obtain ⟨h64, hi⟩ := tz_index hn ht hl
  have hdb := db_at t h64
  unfold math_bits_TrailingZeros64.e0
  refine BrEf (by omega) ?_
  rw [hi]
  generalize 2 ^ t * 285870213051353865 % 18446744073709551616 / 288230376151711744 = j at hdb
  have hlt : j < 64 := by
    have : j < dbTab.length := by
      apply Decidable.byContradiction; intro h
      rw [List.getElem?_eq_none (by omega)] at hdb; cases hdb
    have h64 := dbTab_len
    omega
  refine ⟨by omega, by omega, ?_⟩
  have hc := hG j (.int .u8 (t : Int)) (by rw [List.getElem?_map, hdb]; rfl)
  refine LdV.mk (v := .int .u8 (t : Int)) (by rw [show 0 + (j : Int).toNat * 1 = 0 + j by omega]; exact hc) ?_
  refine UnI.mk ?_
  rw [wi (by omega) (by omega)]
  exact k

theorem Least_some {f : Nat → Bool} {t : Nat} (ht : t < 256) (hf : f t = true) (hl : ∀ j, j < t → f j = false) {m : Mem} (hG : Glob m) {R : Ending → Mem → Prop}
    (k : ∀ m', Le m m' → R (.returned (.tuple #[.int .u8 (t : Int), .bool true])) m') : HC P class_Least.id #[setv f] m R := by
  refine class_Least.ok _ _ _ _ _ _ ?_
  intro b1 hb1
  refine get4 (set_same _ _ _) ?_
  have hle := Le.set hb1 (.cells (cells4 f) T_api_Set (0, 0))
  have hG' := hG.le hle
  refine ⟨fun N x0 x1 x2 x3 i mm => x0 = L f 0 ∧ x1 = L f 1 ∧ x2 = L f 2 ∧ x3 = L f 3 ∧ mm = m.set b1 (.cells (cells4 f) T_api_Set (0, 0)) ∧ ∃ j : Nat, i = j ∧ N = 4 - j ∧ j ≤ t / 64, 4,
    ⟨rfl, rfl, rfl, rfl, rfl, 0, rfl, rfl, by omega⟩, ?_⟩
  rintro N x0 x1 x2 x3 i mm ⟨rfl, rfl, rfl, rfl, rfl, j, rfl, rfl, hj⟩
  refine BrDt (by omega) ?_
  have hget : [L f 0, L f 1, L f 2, L f 3].getD (j : Int).toNat 0 = L f j := by
    have : j = 0 ∨ j = 1 ∨ j = 2 ∨ j = 3 := by omega
    rcases this with rfl | rfl | rfl | rfl <;> rfl
  refine ⟨by omega, by show (j : Int) < 4; omega, ?_⟩
  rw [hget]
  by_cases e : j = t / 64
  · have hb : (limb f j).testBit (t % 64) = true := by rw [limb_test f j (by omega), show 64 * j + t % 64 = t by omega]; exact hf
    have hlo : ∀ i, i < t % 64 → (limb f j).testBit i = false := by
      intro i hi; rw [limb_test f j (by omega)]; exact hl _ (by omega)
    have h0 : limb f j ≠ 0 := by intro e; rw [e] at hb; simp at hb
    refine BrNt (by unfold L; omega) ?_
    refine TZ_spec (limb_lt f j) hb hlo hG' ?_
    dsimp only [Cont]
    refine UnI.mk ?_
    rw [wi (n := 64 * (j : Int)) (by omega) (by omega), wi (by omega) (by omega), IntKind.wrap_u8, show (64 * (j : Int) + ((t % 64 : Nat) : Int)) % 256 = (t : Int) by omega]
    exact k _ hle
  · have h0 : limb f j = 0 := by
      have : (0 : Nat) = limb f j := limb_ext (by omega) fun i hi => by rw [hl _ (by omega)]; simp
      exact this.symm
    refine BrNf (by unfold L; omega) ?_
    refine ⟨_, ?_, rfl, rfl, rfl, rfl, rfl, j + 1, ?_, rfl, by omega⟩
    · omega
    · rw [wi (by omega) (by omega)]; omega
theorem Least_none {f : Nat → Bool} (hf : ∀ b, b < 256 → f b = false) {m : Mem} {R : Ending → Mem → Prop}
    (k : ∀ m', Le m m' → R (.returned (.tuple #[.int .u8 0, .bool false])) m') : HC P class_Least.id #[setv f] m R := by
  refine class_Least.ok _ _ _ _ _ _ ?_
  intro b1 hb1
  refine get4 (set_same _ _ _) ?_
  have hle := Le.set hb1 (.cells (cells4 f) T_api_Set (0, 0))
  refine ⟨fun N x0 x1 x2 x3 i mm => x0 = L f 0 ∧ x1 = L f 1 ∧ x2 = L f 2 ∧ x3 = L f 3 ∧ mm = m.set b1 (.cells (cells4 f) T_api_Set (0, 0)) ∧ ∃ j : Nat, i = j ∧ N = 4 - j ∧ j ≤ 4, 4,
    ⟨rfl, rfl, rfl, rfl, rfl, 0, rfl, rfl, by omega⟩, ?_⟩
  rintro N x0 x1 x2 x3 i mm ⟨rfl, rfl, rfl, rfl, rfl, j, rfl, rfl, hj⟩
  refine BrD (fun hlt => ?_) (fun hge => k _ hle)
  have hget : [L f 0, L f 1, L f 2, L f 3].getD (j : Int).toNat 0 = L f j := by
    have : j = 0 ∨ j = 1 ∨ j = 2 ∨ j = 3 := by omega
    rcases this with rfl | rfl | rfl | rfl <;> rfl
  refine ⟨by omega, by show (j : Int) < 4; omega, ?_⟩
  rw [hget]
  have h0 : limb f j = 0 := by
    have : (0 : Nat) = limb f j := limb_ext (by omega) fun i hi => by rw [hf _ (by omega)]; simp
    exact this.symm
  refine BrNf (by unfold L; omega) ?_
  refine ⟨_, ?_, rfl, rfl, rfl, rfl, rfl, j + 1, ?_, rfl, by omega⟩
  · omega
  · rw [wi (by omega) (by omega)]; omega
end Go.E
