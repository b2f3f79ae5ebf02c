/- Classes: Go's reader. -/
import Derived.Test.YtpbnhcggfgegkaaDoorSC1
set_option linter.unusedVariables false
set_option linter.unusedSimpArgs false
namespace Go.E
open Go.H
attribute [local irreducible] BiN MkS ConvN LookN MapUpN CallV HC limb dbTab

abbrev rdr (m : Mem) (r : Nat) (s : ByteArray) (i : Nat) : Prop := m r = some (.cells #[.string s, .int .i64 (i : Int)] T_class_reader (0, 0))
abbrev refusal : Value := .iface T_class_refusal (.agg #[])
abbrev pan : Ending := .panicked [{ v := refusal, recovered := false }]
abbrev lst (s : ByteArray) : List UInt8 := s.data.toList
theorem lst_len (s : ByteArray) : (lst s).length = s.size := by simp [lst]

theorem next_spec {m : Mem} {r : Nat} {s : ByteArray} {i : Nat} (hr : rdr m r s i) {R : Ending → Mem → Prop} (k : R (.returned (.int .u8 (nx (lst s) i : Nat))) m) :
    HC P class_reader_next.id #[.pointer (some ⟨r, 0, none⟩)] m R := by
  refine class_reader_next.ok _ _ _ ?_
  refine ⟨m, Le.refl _, ?_⟩
  refine LdV.s1 hr (UnI.mk ?_)
  refine LdV.s0 hr (UnStr.mk ?_)
  refine BrD (fun hlt => ?_) (fun hge => ?_)
  · refine ⟨m, Le.refl _, ?_⟩
    refine LdV.s0 hr (UnStr.mk ?_)
    refine LdV.s1 hr (UnI.mk ?_)
    refine ⟨by omega, by omega, ?_⟩
    rw [bt_nx (by omega)]
    exact k
  · rw [nx_out (by rw [lst_len]; omega)] at k
    exact k
theorem take_spec {m : Mem} {r : Nat} {s : ByteArray} {i : Nat} (hr : rdr m r s i) (hs : s.size < 2 ^ 62) {R : Ending → Mem → Prop}
    (k : i < s.size → ∀ m', Chg (fun b => b = r) m m' → rdr m' r s (i + 1) → R (.returned (.int .u8 (nx (lst s) i : Nat))) m') (kp : s.size ≤ i → R pan m) :
    HC P class_reader_take.id #[.pointer (some ⟨r, 0, none⟩)] m R := by
  refine class_reader_take.ok _ _ _ ?_
  refine ⟨m, Le.refl _, ?_⟩
  refine LdV.s1 hr (UnI.mk ?_)
  refine LdV.s0 hr (UnStr.mk ?_)
  refine BrD (fun hge => kp (by omega)) (fun hlt => ?_)
  refine LdV.s1 hr (UnI.mk ?_)
  rw [wi (n := (i : Int) + 1) (by omega) (by omega)]
  refine St1.to #[.string s, .int .i64 ((i + 1 : Nat) : Int)] hr (by simp) rfl rfl ?_
  refine ⟨_, Le.refl _, ?_⟩
  have h2 : rdr (m.set r (.cells #[.string s, .int .i64 ((i + 1 : Nat) : Int)] T_class_reader (0, 0))) r s (i + 1) := set_same _ _ _
  refine LdV.s0 h2 (UnStr.mk ?_)
  refine LdV.s1 h2 (UnI.mk ?_)
  rw [wi (n := ((i + 1 : Nat) : Int) - 1) (by omega) (by omega), show ((i + 1 : Nat) : Int) - 1 = (i : Int) by omega]
  refine ⟨by omega, by omega, ?_⟩
  rw [bt_nx (by omega)]
  exact k (by omega) _ (Chg.set m r _) h2

theorem ix_sp : ∀ c, c < 256 → (0 ≤ ixB (ByteArray.mk #[92, 124, 42, 43, 63, 40, 41, 91, 93, 46, 94, 45]) c) = (isSp c = true) := by
  have h : ∀ c, c < 256 → (decide (0 ≤ ixB (ByteArray.mk #[92, 124, 42, 43, 63, 40, 41, 91, 93, 46, 94, 45]) c)) = isSp c := by decide +kernel
  intro c hc
  rw [← h c hc]; simp
theorem ix_hex : ∀ c, c < 256 → ixB (ByteArray.mk #[48, 49, 50, 51, 52, 53, 54, 55, 56, 57, 97, 98, 99, 100, 101, 102]) c = if dig c = 16 then -1 else (dig c : Int) := by decide +kernel
theorem dig_le (c : Nat) : dig c ≤ 16 := by unfold dig; split <;> (try split) <;> omega

theorem digit_spec {m : Mem} {r : Nat} {s : ByteArray} {i : Nat} (hr : rdr m r s i) (hs : s.size < 2 ^ 62) {R : Ending → Mem → Prop}
    (k : i < s.size → dig (nx (lst s) i) ≠ 16 → ∀ m', Chg (fun b => b = r) m m' → rdr m' r s (i + 1) → R (.returned (.int .u8 (dig (nx (lst s) i) : Nat))) m')
    (kp : (s.size ≤ i ∨ dig (nx (lst s) i) = 16) → ∀ m', Chg (fun b => b = r) m m' → R pan m') :
    HC P class_reader_digit.id #[.pointer (some ⟨r, 0, none⟩)] m R := by
  refine class_reader_digit.ok _ _ _ ?_
  refine take_spec hr hs (fun hi m' hch hr' => ?_) (fun hi => kp (.inl hi) m (Chg.refl _ _))
  dsimp only [Cont]
  refine UnI.mk ?_
  refine IndexByte_spec (nx_lt _ _) ?_
  dsimp only [Cont]
  refine UnI.mk ?_
  rw [ix_hex _ (nx_lt _ _)]
  have := dig_le (nx (lst s) i)
  by_cases h : dig (nx (lst s) i) = 16
  · rw [if_pos h]
    exact BrDt (by omega) (kp (.inr h) m' hch)
  · rw [if_neg h]
    refine BrDf (by omega) ?_
    rw [IntKind.wrap_u8, show ((dig (nx (lst s) i) : Nat) : Int) % 256 = (dig (nx (lst s) i) : Nat) by omega]
    exact k hi h m' hch hr'

theorem hex_join : ∀ a, a < 16 → ∀ b, b < 16 → bitsV .or .u8 (shlV .u8 ((a : Nat) : Int) 4) ((b : Nat) : Int) = ((a * 16 + b : Nat) : Int) := by decide +kernel

theorem sign_spec {m : Mem} {r : Nat} {s : ByteArray} {i : Nat} (hr : rdr m r s i) (hs : s.size < 2 ^ 62) {R : Ending → Mem → Prop}
    (k : ∀ c n, sgn (lst s) i = some (c, n) → ∀ m', Chg (fun b => b = r) m m' → rdr m' r s n → R (.returned (.int .u8 (c : Nat))) m')
    (kp : sgn (lst s) i = none → ∀ m', Chg (fun b => b = r) m m' → R pan m') :
    HC P class_reader_sign.id #[.pointer (some ⟨r, 0, none⟩)] m R := by
  refine class_reader_sign.ok _ _ _ ?_
  have hll := lst_len s
  unfold sgn at k kp
  refine take_spec hr hs (fun hi m1 hch1 hr1 => ?_) (fun hi => kp (by rw [if_pos (by omega)]) m (Chg.refl _ _))
  rw [if_neg (by omega)] at k kp
  dsimp only [Cont]
  refine UnI.mk ?_
  refine BrN (fun hne => ?_) (fun heq => ?_)
  · rw [if_pos (by omega)] at k kp
    refine BrD (fun h => kp (by rw [if_pos (.inl (by omega))]) m1 hch1) (fun h1 => ?_)
    refine BrD (fun h => kp (by rw [if_pos (.inr (.inl (by omega)))]) m1 hch1) (fun h2 => ?_)
    refine IndexByte_spec (nx_lt _ _) ?_
    dsimp only [Cont]
    refine UnI.mk ?_
    refine BrD (fun h => ?_) (fun h3 => ?_)
    · have h : 0 ≤ ixB _ (nx (lst s) i) := h
      rw [ix_sp _ (nx_lt _ _)] at h
      exact kp (by rw [if_pos (.inr (.inr h))]) m1 hch1
    · have h3 : ¬ (0 ≤ ixB _ (nx (lst s) i)) := h3
      rw [ix_sp _ (nx_lt _ _)] at h3
      exact k _ _ (by rw [if_neg (fun h => h.elim (fun h => by omega) (fun h => h.elim (fun h => by omega) (fun h => h3 h)))]) m1 hch1 hr1
  · rw [if_neg (by omega)] at k kp
    refine take_spec hr1 hs (fun hi2 m2 hch2 hr2 => ?_) (fun hi2 => kp (by rw [if_pos (by omega)]) m1 hch1)
    have hch2' := hch1.trans hch2 (fun _ _ e => e)
    rw [if_neg (by omega)] at k kp
    dsimp only [Cont]
    refine UnI.mk ?_
    refine BrE (fun hx => ?_) (fun hx => ?_)
    · rw [if_pos (by omega)] at k kp
      refine digit_spec hr2 hs (fun hi3 hd3 m3 hch3 hr3 => ?_) (fun h3 m3 hch3 => kp (by rw [if_pos (h3.elim (fun h => .inl (by omega)) (fun h => .inr (.inl h)))]) m3 (hch2'.trans hch3 (fun _ _ e => e)))
      dsimp only [Cont]
      refine UnI.mk ?_
      have hch3' := hch2'.trans hch3 (fun _ _ e => e)
      refine digit_spec hr3 hs (fun hi4 hd4 m4 hch4 hr4 => ?_) (fun h4 m4 hch4 => kp (by rw [if_pos (h4.elim (fun h => .inr (.inr (.inl (by omega)))) (fun h => .inr (.inr (.inr h))))]) m4 (hch3'.trans hch4 (fun _ _ e => e)))
      dsimp only [Cont]
      refine UnI.mk ?_
      have d3 := dig_le (nx (lst s) (i + 2)); have d4 := dig_le (nx (lst s) (i + 3))
      have e3 : dig (nx (lst s) (i + 2)) < 16 := by have hd3 : dig (nx (lst s) (i + 2)) ≠ 16 := hd3; omega
      have e4 : dig (nx (lst s) (i + 3)) < 16 := by have hd4 : dig (nx (lst s) (i + 3)) ≠ 16 := hd4; omega
      rw [hex_join _ e3 _ e4]
      exact k _ _ (by rw [if_neg (fun h => h.elim (fun h => by omega) (fun h => h.elim (fun h => hd3 h) (fun h => h.elim (fun h => by omega) (fun h => hd4 h))))]) m4 (hch3'.trans hch4 (fun _ _ e => e)) hr4
    · rw [if_neg (by omega)] at k kp
      refine IndexByte_spec (nx_lt _ _) ?_
      dsimp only [Cont]
      refine UnI.mk ?_
      refine BrD (fun h => ?_) (fun h3 => ?_)
      · have h : ixB _ (nx (lst s) (i + 1)) < 0 := h
        have h : ¬ (0 ≤ ixB (ByteArray.mk #[92, 124, 42, 43, 63, 40, 41, 91, 93, 46, 94, 45]) (nx (lst s) (i + 1))) := by omega
        rw [ix_sp _ (nx_lt _ _)] at h
        exact kp (by rw [if_neg h]) m2 hch2'
      · have h3 : ¬ ixB _ (nx (lst s) (i + 1)) < 0 := h3
        have h3 : (0 ≤ ixB (ByteArray.mk #[92, 124, 42, 43, 63, 40, 41, 91, 93, 46, 94, 45]) (nx (lst s) (i + 1))) := by omega
        rw [ix_sp _ (nx_lt _ _)] at h3
        exact k _ _ (by rw [if_pos h3]) m2 hch2' hr2
end Go.E
