/- Classes: the reference's Not, Empty, list. -/
import Derived.Test.YtpbnhcggfgegkaaDoorSR1
set_option linter.unusedVariables false
set_option linter.unusedSimpArgs false
set_option maxRecDepth 20000
namespace Go.E
open Go.H
attribute [local irreducible] BiN MkS ConvN LookN MapUpN CallV HC limb dbTab

/-- The bytes below k of a set. -/
def flt (f : Nat → Bool) (k : Nat) : List UInt8 := ((List.range k).filter f).map UInt8.ofNat
theorem flt_succ (f : Nat → Bool) (k : Nat) : flt f (k + 1) = if f k = true then flt f k ++ [UInt8.ofNat k] else flt f k := by
  unfold flt
  rw [List.range_succ, List.filter_append]
  cases h : f k <;> simp [h]
theorem flt_len (f : Nat → Bool) (k : Nat) : (flt f k).length ≤ k := by
  unfold flt
  rw [List.length_map]
  exact Nat.le_trans (List.length_filter_le _ _) (by simp)
theorem inB_flt {f : Nat → Bool} {k : Nat} (h : k ≤ 256) (c : Nat) : inB (flt f k) c = (decide (c < k) && f c) := by
  induction k with
  | zero => simp [flt, inB]
  | succ k ih =>
    have ih := ih (by omega)
    have hk : (UInt8.ofNat k).toNat = k := by rw [UInt8.toNat_ofNat']; omega
    rw [flt_succ]
    cases hf : f k with
    | false =>
      simp only [Bool.false_eq_true, if_false]
      rw [ih, Bool.eq_iff_iff]
      simp only [Bool.and_eq_true, decide_eq_true_eq]
      constructor
      · rintro ⟨h1, h2⟩; exact ⟨by omega, h2⟩
      · rintro ⟨h1, h2⟩
        refine ⟨?_, h2⟩
        have : c ≠ k := fun e => by subst e; rw [hf] at h2; cases h2
        omega
    | true =>
      simp only [if_true]
      have e : inB (flt f k ++ [UInt8.ofNat k]) c = (inB (flt f k) c || c == k) := by
        unfold inB
        rw [List.any_append, List.any_cons, List.any_nil, hk, Bool.or_false]
      rw [e, ih, Bool.eq_iff_iff]
      simp only [Bool.or_eq_true, Bool.and_eq_true, decide_eq_true_eq, beq_iff_eq]
      constructor
      · rintro (⟨h1, h2⟩ | rfl)
        · exact ⟨by omega, h2⟩
        · exact ⟨by omega, hf⟩
      · rintro ⟨h1, h2⟩
        by_cases e : c = k
        · exact .inr e
        · exact .inl ⟨by omega, h2⟩
theorem setv_flt (f : Nat → Bool) : setv (inB (flt f 256)) = setv f := setv_eq fun c hc => by rw [inB_flt (Nat.le_refl _)]; simp [hc]
theorem u8w {k : Nat} (h : k < 256) : IntKind.u8.wrap (k : Int) = (k : Int) := by rw [IntKind.wrap_u8]; omega
theorem u8n {k : Nat} (h : k < 256) : (k : Int) = (((UInt8.ofNat k).toNat : Nat) : Int) := by rw [UInt8.toNat_ofNat']; omega

theorem RNot_spec {f : Nat → Bool} {m : Mem} {R : Ending → Mem → Prop} (h : ∀ m', Le m m' → R (.returned (setv fun b => !f b)) m') : HC P eyotref8_Not.id #[setv f] m R := by
  refine eyotref8_Not.ok _ _ _ _ _ _ ?_
  intro ba hba b2 hb2
  have hne : b2 ≠ ba := fun e => by subst e; rw [set_same] at hb2; cases hb2
  have hm2 : m b2 = none := by rw [set_other _ _ hne] at hb2; exact hb2
  have hle0 := (Le.set hba (.cells (cells4 f) T_api_Set (0, 0))).trans (Le.set hb2 (.cells z4 T_api_Set (0, 0)))
  have ea : ((m.set ba (.cells (cells4 f) T_api_Set (0, 0))).set b2 (.cells z4 T_api_Set (0, 0))) ba = some (.cells (cells4 f) T_api_Set (0, 0)) := by rw [set_other _ _ hne.symm, set_same]
  have e2 : ((m.set ba (.cells (cells4 f) T_api_Set (0, 0))).set b2 (.cells z4 T_api_Set (0, 0))) b2 = some (.cells z4 T_api_Set (0, 0)) := set_same _ _ _
  generalize ((m.set ba (.cells (cells4 f) T_api_Set (0, 0))).set b2 (.cells z4 T_api_Set (0, 0))) = ms at hle0 ea e2
  refine ⟨fun N a1b a1o x2b x2o la ll lc i mm => a1b = ba ∧ a1o = 0 ∧ x2b = b2 ∧ x2o = 0 ∧ ∃ k : Nat, i = k ∧ N = 256 - k ∧ k ≤ 256 ∧ RwB ms mm la ll lc (flt (fun b => !f b) k), 256, ⟨rfl, rfl, rfl, rfl, 0, rfl, rfl, by omega, RwB.nil (Le.refl _)⟩, ?_⟩
  rintro N a1b a1o x2b x2o la ll lc i mm ⟨rfl, rfl, rfl, rfl, k, rfl, rfl, hk, hr⟩
  have hl := hr.len
  have hl2 := flt_len (fun b => !f b) k
  refine BrD (fun hlt => ?_) (fun hge => ?_)
  · refine get4 (hr.le _ _ ea) ?_
    rw [u8w (by omega)]
    refine RHas_spec (by omega) ?_
    intro m1 hle1
    have hr1 := hr.mono hle1
    dsimp only [Cont]
    refine UnB.mk ?_
    have w : IntKind.i64.wrap ((k : Int) + 1) = ((k + 1 : Nat) : Int) := by rw [wi (by omega) (by omega)]; omega
    refine Br.mk (fun hb => ?_) (fun hb => ?_)
    · rw [u8n (k := k) (by omega)]
      refine hr1.push _ (by omega) ?_
      intro a' c' m' hr'
      refine UnS.mk ?_
      refine ⟨_, ?_, rfl, rfl, rfl, rfl, k + 1, ?_, rfl, by omega, by rw [flt_succ, if_pos hb]; exact hr'⟩
      · omega
      · rw [← u8n (by omega), w]
    · refine ⟨_, ?_, rfl, rfl, rfl, rfl, k + 1, w, rfl, by omega, by rw [flt_succ, if_neg (by rw [hb]; simp)]; exact hr1⟩
      omega
  · have : k = 256 := by omega
    subst this
    refine ROf_spec hr.own.cells hl (by omega) ?_
    intro m' hle
    refine ContSet.mk ?_
    refine out4 (hle _ _ (hr.le _ _ e2)) ?_
    show R (.returned (setv (inB (flt (fun b => !f b) 256)))) _
    rw [setv_flt]
    exact h _ (Chg.to_le (Chg.set m' x2b _) ((hle0.trans hr.le).trans hle) (fun b e => by rw [show b = x2b from e]; exact hm2))

theorem list_spec {f : Nat → Bool} {m : Mem} {R : Ending → Mem → Prop} (h : ∀ m' a l c, RwB m m' a l c (flt f 256) → R (.returned (.slice a l c)) m') : HC P eyotref8_list.id #[setv f] m R := by
  refine eyotref8_list.ok _ _ _ _ _ _ ?_
  intro ba hba
  have hle0 := Le.set hba (.cells (cells4 f) T_api_Set (0, 0))
  have ea : (m.set ba (.cells (cells4 f) T_api_Set (0, 0))) ba = some (.cells (cells4 f) T_api_Set (0, 0)) := set_same _ _ _
  generalize (m.set ba (.cells (cells4 f) T_api_Set (0, 0))) = ms at hle0 ea
  refine ⟨fun N a1b a1o la ll lc i mm => a1b = ba ∧ a1o = 0 ∧ ∃ k : Nat, i = k ∧ N = 256 - k ∧ k ≤ 256 ∧ RwB ms mm la ll lc (flt f k), 256, ⟨rfl, rfl, 0, rfl, rfl, by omega, RwB.nil (Le.refl _)⟩, ?_⟩
  rintro N a1b a1o la ll lc i mm ⟨rfl, rfl, k, rfl, rfl, hk, hr⟩
  have hl := hr.len
  have hl2 := flt_len f k
  refine BrD (fun hlt => ?_) (fun hge => ?_)
  · refine get4 (hr.le _ _ ea) ?_
    rw [u8w (by omega)]
    refine RHas_spec (by omega) ?_
    intro m1 hle1
    have hr1 := hr.mono hle1
    dsimp only [Cont]
    refine UnB.mk ?_
    have w : IntKind.i64.wrap ((k : Int) + 1) = ((k + 1 : Nat) : Int) := by rw [wi (by omega) (by omega)]; omega
    refine Br.mk (fun hb => ?_) (fun hb => ?_)
    · rw [u8n (k := k) (by omega)]
      refine hr1.push _ (by omega) ?_
      intro a' c' m' hr'
      refine UnS.mk ?_
      refine ⟨_, ?_, rfl, rfl, k + 1, ?_, rfl, by omega, by rw [flt_succ, if_pos hb]; exact hr'⟩
      · omega
      · rw [← u8n (by omega), w]
    · refine ⟨_, ?_, rfl, rfl, k + 1, w, rfl, by omega, by rw [flt_succ, if_neg (by rw [hb]; simp)]; exact hr1⟩
      omega
  · have : k = 256 := by omega
    subst this
    exact h _ _ _ _ ⟨hle0.trans hr.le, hr.own, Fresh.le hle0 hr.fr⟩

theorem eq4 (f g : Nat → Bool) : (eqL [.int .u64 (L f 0), .int .u64 (L f 1), .int .u64 (L f 2), .int .u64 (L f 3)] [.int .u64 (L g 0), .int .u64 (L g 1), .int .u64 (L g 2), .int .u64 (L g 3)] = true) ↔ ∀ b, b < 256 → f b = g b := by
  have e : eqL [.int .u64 (L f 0), .int .u64 (L f 1), .int .u64 (L f 2), .int .u64 (L f 3)] [.int .u64 (L g 0), .int .u64 (L g 1), .int .u64 (L g 2), .int .u64 (L g 3)] =
      (L f 0 == L g 0 && (L f 1 == L g 1 && (L f 2 == L g 2 && (L f 3 == L g 3 && true)))) := rfl
  rw [e]
  simp only [Bool.and_eq_true, beq_iff_eq, and_true]
  constructor
  · rintro ⟨h0, h1, h2, h3⟩; exact L_inj h0 h1 h2 h3
  · intro h
    exact ⟨L_congr fun j hj => h _ (by omega), L_congr fun j hj => h _ (by omega), L_congr fun j hj => h _ (by omega), L_congr fun j hj => h _ (by omega)⟩
theorem eq4_zero (f : Nat → Bool) : eqL [.int .u64 (L f 0), .int .u64 (L f 1), .int .u64 (L f 2), .int .u64 (L f 3)] [.int .u64 0, .int .u64 0, .int .u64 0, .int .u64 0] = emptyS f := by
  have h := eq4 f fun _ => false
  rw [L_zero, L_zero, L_zero, L_zero] at h
  rw [Bool.eq_iff_iff, h]
  unfold emptyS
  simp
theorem REmpty_spec {f : Nat → Bool} {m : Mem} {R : Ending → Mem → Prop} (h : ∀ m', Le m m' → R (.returned (.bool (emptyS f))) m') : HC P eyotref8_Empty.id #[setv f] m R := by
  refine eyotref8_Empty.ok _ _ _ _ _ _ ?_
  intro b hb
  refine get4 (set_same _ _ _) ?_
  rw [eq4_zero]
  exact h _ (Le.set hb _)
end Go.E
