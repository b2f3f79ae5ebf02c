/- Classes: the reference's signs. -/
import Derived.Test.YtpbnhcggfgegkaaDoorSC5
set_option linter.unusedVariables false
set_option linter.unusedSimpArgs false
namespace Go.E
open Go.H
attribute [local irreducible] BiN MkS ConvN LookN MapUpN CallV HC limb dbTab

theorem bt_at {s : ByteArray} {i : Nat} (h : i < s.size) : bt s (i : Int) = ((nx (lst s) i : Nat) : Int) := bt_nx h
abbrev spB : ByteArray := ByteArray.mk #[92, 124, 42, 43, 63, 40, 41, 91, 93, 46, 94, 45]
abbrev hexB : ByteArray := ByteArray.mk #[48, 49, 50, 51, 52, 53, 54, 55, 56, 57, 97, 98, 99, 100, 101, 102]
theorem sp_in : ∀ c : Nat, c < 256 → (∃ j : Nat, j < 12 ∧ bt spB (j : Int) = (c : Int)) = (isSp c = true) := by
  have h : ∀ c : Nat, c < 256 → ((List.range 12).any fun j => bt spB (j : Int) == (c : Int)) = isSp c := by decide +kernel
  intro c hc
  rw [← h c hc, eq_iff_iff]
  simp [List.any_eq_true]
theorem hex_at : ∀ i : Nat, i < 16 → ∀ c : Nat, c < 256 → bt hexB (i : Int) = (c : Int) → dig c = i ∧ dig c ≠ 16 := by decide +kernel
theorem hex_no : ∀ c : Nat, c < 256 → (∀ i : Nat, i < 16 → bt hexB (i : Int) ≠ (c : Int)) → dig c = 16 := by decide +kernel

theorem in_spec {c : Nat} (hc : c < 256) {m : Mem} {R : Ending → Mem → Prop} (k : R (.returned (.bool (isSp c))) m) : HC P eyotref8_in.id #[.string spB, .int .u8 (c : Int)] m R := by
  refine eyotref8_in.ok _ _ _ _ ?_
  refine ⟨fun N s c' i mm => s = spB ∧ c' = (c : Int) ∧ mm = m ∧ ∃ j : Nat, i = j ∧ N = 12 - j ∧ j ≤ 12 ∧ ∀ j' : Nat, j' < j → bt spB (j' : Int) ≠ (c : Int), 12, ⟨rfl, rfl, rfl, 0, rfl, rfl, by omega, fun _ h => by omega⟩, ?_⟩
  rintro N s c' i mm ⟨rfl, rfl, rfl, j, rfl, rfl, hj, hno⟩
  have hsz : spB.size = 12 := rfl
  refine BrD (fun hlt => ?_) (fun hge => ?_)
  · refine ⟨by omega, hlt, ?_⟩
    rw [hsz] at hlt
    refine BrE (fun he => ?_) (fun he => ?_)
    · have : isSp c = true := (sp_in c hc).mp ⟨j, by omega, he⟩
      rw [this] at k; exact k
    · refine ⟨_, ?_, rfl, rfl, rfl, j + 1, ?_, rfl, by omega, ?_⟩
      · omega
      · rw [wi (by omega) (by omega)]; omega
      · intro j' hj'
        by_cases e : j' = j
        · subst e; exact he
        · exact hno j' (by omega)
  · rw [hsz] at hge
    have : isSp c = false := by
      cases h : isSp c with
      | false => rfl
      | true =>
        obtain ⟨j', h1, h2⟩ := (sp_in c hc).mpr h
        exact absurd h2 (hno j' (by omega))
    rw [this] at k; exact k
theorem rdigit_spec {c : Nat} (hc : c < 256) {m : Mem} {R : Ending → Mem → Prop} (k : R (.returned (.int .i64 (if dig c = 16 then -1 else (dig c : Nat)))) m) : HC P eyotref8_digit.id #[.int .u8 (c : Int)] m R := by
  refine eyotref8_digit.ok _ _ _ ?_
  refine ⟨fun N c' i mm => c' = (c : Int) ∧ mm = m ∧ ∃ j : Nat, i = j ∧ N = 16 - j ∧ j ≤ 16 ∧ ∀ j' : Nat, j' < j → bt hexB (j' : Int) ≠ (c : Int), 16, ⟨rfl, rfl, 0, rfl, rfl, by omega, fun _ h => by omega⟩, ?_⟩
  rintro N c' i mm ⟨rfl, rfl, j, rfl, rfl, hj, hno⟩
  have hsz : hexB.size = 16 := rfl
  refine BrD (fun hlt => ?_) (fun hge => ?_)
  · refine ⟨by omega, by rw [hsz]; omega, ?_⟩
    refine BrE (fun he => ?_) (fun he => ?_)
    · obtain ⟨h1, h2⟩ := hex_at j (by omega) c hc he
      rw [if_neg h2, h1] at k; exact k
    · refine ⟨_, ?_, rfl, rfl, j + 1, ?_, rfl, by omega, ?_⟩
      · omega
      · rw [wi (by omega) (by omega)]; omega
      · intro j' hj'
        by_cases e : j' = j
        · subst e; exact he
        · exact hno j' (by omega)
  · have : dig c = 16 := hex_no c hc fun i hi => hno i (by omega)
    rw [if_pos this] at k; exact k

theorem rsign_spec {s : ByteArray} {i : Nat} (hs : s.size < 2 ^ 62) (hi : i ≤ s.size) {m : Mem} {R : Ending → Mem → Prop}
    (k : ∀ c n, sgn (lst s) i = some (c, n) → R (.returned (.tuple #[.int .u8 (c : Nat), .int .i64 (n : Nat)])) m)
    (kp : sgn (lst s) i = none → R (.returned (.tuple #[.int .u8 0, .int .i64 (-1)])) m) :
    HC P eyotref8_sign.id #[.string s, .int .i64 (i : Int)] m R := by
  have hll := lst_len s
  refine eyotref8_sign.ok _ _ _ _ ?_
  unfold sgn at k kp
  refine BrD (fun h => kp (by rw [if_pos (by omega)])) (fun hlt => ?_)
  rw [if_neg (by omega)] at k kp
  refine ⟨by omega, by omega, ?_⟩
  rw [bt_at (by omega)]
  refine BrN (fun hne => ?_) (fun heq => ?_)
  · rw [if_pos (by omega)] at k kp
    refine BrD (fun h => kp (by rw [if_pos (.inl (by omega))])) (fun h1 => ?_)
    refine BrD (fun h => kp (by rw [if_pos (.inr (.inl (by omega)))])) (fun h2 => ?_)
    refine in_spec (nx_lt _ _) ?_
    dsimp only [Cont]
    refine UnB.mk ?_
    refine Br.mk (fun h => kp (by rw [if_pos (.inr (.inr h))])) (fun h3 => ?_)
    rw [wi (by omega) (by omega)]
    exact k _ _ (by rw [if_neg (fun h => h.elim (fun h => by omega) (fun h => h.elim (fun h => by omega) (fun h => by rw [h] at h3; cases h3)))])
  rw [if_neg (by omega)] at k kp
  have w1 : IntKind.i64.wrap ((i : Int) + 1) = ((i + 1 : Nat) : Int) := by rw [wi (by omega) (by omega)]; omega
  have w2 : IntKind.i64.wrap ((i : Int) + 2) = ((i + 2 : Nat) : Int) := by rw [wi (by omega) (by omega)]; omega
  have w3 : IntKind.i64.wrap ((i : Int) + 3) = ((i + 3 : Nat) : Int) := by rw [wi (by omega) (by omega)]; omega
  have w4 : IntKind.i64.wrap ((i : Int) + 4) = ((i + 4 : Nat) : Int) := by rw [wi (by omega) (by omega)]; omega
  have k3f : (∀ c n, ¬ ((if (lst s).length ≤ i + 1 then none else if nx (lst s) (i + 1) = 120 then
      if (lst s).length ≤ i + 2 ∨ dig (nx (lst s) (i + 2)) = 16 ∨ (lst s).length ≤ i + 3 ∨ dig (nx (lst s) (i + 3)) = 16 then none
      else some (dig (nx (lst s) (i + 2)) * 16 + dig (nx (lst s) (i + 3)), i + 4)
      else if isSp (nx (lst s) (i + 1)) = true then some (nx (lst s) (i + 1), i + 2) else none) = some (c, n))) → eyotref8_sign.k3 s i false R m := by
    intro hno
    refine kp ?_
    generalize (if (lst s).length ≤ i + 1 then (none : Option (Nat × Nat)) else _) = o at hno ⊢
    cases o with
    | none => rfl
    | some x => exact absurd rfl (hno x.1 x.2)
  have k2s : (isSp (nx (lst s) (i + 1)) = true → (lst s).length ≤ i + 1) → eyotref8_sign.k2 s i R m := by
    intro hsp
    unfold eyotref8_sign.k2
    rw [w1, w2, w3]
    refine BrD (fun h3 => ?_) (fun h3 => k3f fun c n hx => ?_)
    · refine ⟨by omega, by omega, ?_⟩
      rw [bt_at (by omega)]
      refine BrE (fun hx => ?_) (fun hx => k3f fun c n hy => ?_)
      · refine ⟨by omega, by omega, ?_⟩
        rw [bt_at (by omega)]
        refine rdigit_spec (nx_lt _ _) ?_
        dsimp only [Cont]
        refine UnI.mk ?_
        have d2 := dig_le (nx (lst s) (i + 2)); have d3 := dig_le (nx (lst s) (i + 3))
        rw [if_neg (by omega), if_pos (by omega)] at k kp
        by_cases e2 : dig (nx (lst s) (i + 2)) = 16
        · rw [if_pos e2]
          refine BrDf (by omega) ?_
          exact kp (by rw [if_pos (.inr (.inl e2))])
        · rw [if_neg e2]
          refine BrDt (by omega) ?_
          refine ⟨by omega, by omega, ?_⟩
          rw [bt_at (by omega)]
          refine rdigit_spec (nx_lt _ _) ?_
          dsimp only [Cont]
          refine UnI.mk ?_
          unfold eyotref8_sign.k3
          by_cases e3 : dig (nx (lst s) (i + 3)) = 16
          · rw [if_pos e3]
            refine BrDf (by omega) ?_
            exact kp (by rw [if_pos (.inr (.inr (.inr e3)))])
          · rw [if_neg e3]
            refine BrDt (by omega) ?_
            refine ⟨m, Le.refl _, ?_⟩
            rw [w2, w3, w4]
            refine ⟨by omega, by omega, ?_⟩
            refine ⟨by omega, by omega, ?_⟩
            rw [bt_at (by omega), bt_at (by omega)]
            refine rdigit_spec (nx_lt _ _) ?_
            dsimp only [Cont]
            refine UnI.mk ?_
            refine rdigit_spec (nx_lt _ _) ?_
            dsimp only [Cont]
            refine UnI.mk ?_
            rw [if_neg e2, if_neg e3, wi (n := ((dig (nx (lst s) (i + 2)) : Nat) : Int) * 16) (by omega) (by omega), wi (by omega) (by omega), IntKind.wrap_u8]
            have := k _ _ (by rw [if_neg (fun h => h.elim (fun h => by omega) (fun h => h.elim e2 (fun h => h.elim (fun h => by omega) e3)))])
            rw [show (((dig (nx (lst s) (i + 2)) : Nat) : Int) * 16 + ((dig (nx (lst s) (i + 3)) : Nat) : Int)) % 256 = ((dig (nx (lst s) (i + 2)) * 16 + dig (nx (lst s) (i + 3)) : Nat) : Int) by omega]
            exact this
      · rw [if_neg (by omega), if_neg (by omega)] at hy
        split at hy
        · rename_i h; have := hsp h; omega
        · cases hy
    · split at hx
      · cases hx
      split at hx
      · rw [if_pos (.inr (.inr (.inl (by omega))))] at hx; cases hx
      · split at hx
        · rename_i h1 _ h; have := hsp h; omega
        · cases hx
  rw [w1]
  refine BrD (fun h => ?_) (fun h => ?_)
  · refine ⟨by omega, by omega, ?_⟩
    rw [bt_at (by omega)]
    refine in_spec (nx_lt _ _) ?_
    dsimp only [Cont]
    refine UnB.mk ?_
    unfold eyotref8_sign.k1
    refine Br.mk (fun hsp => ?_) (fun hsp => k2s fun h => by rw [h] at hsp; cases hsp)
    rw [w1, w2]
    refine ⟨by omega, by omega, ?_⟩
    rw [bt_at (by omega)]
    refine k _ _ ?_
    have hx : nx (lst s) (i + 1) ≠ 120 := fun e => by rw [e] at hsp; exact absurd hsp (by decide)
    rw [if_neg (by omega), if_neg hx, if_pos hsp]
  · unfold eyotref8_sign.k1
    refine Br.mk (fun h => by cases h) (fun _ => k2s fun _ => by omega)
end Go.E
