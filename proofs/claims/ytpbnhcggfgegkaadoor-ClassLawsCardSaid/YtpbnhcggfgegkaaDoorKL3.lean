/- Layer 8: ClassSigns. -/
import Derived.Test.YtpbnhcggfgegkaaDoorKL2
set_option linter.unusedVariables false
set_option linter.unusedSimpArgs false
set_option maxRecDepth 20000
namespace Go.E
open Go.H
attribute [local irreducible] BiN MkS ConvN LookN MapUpN CallV HC limb dbTab

abbrev plainB (a : Nat) : Prop := 33 ≤ a ∧ a ≤ 126 ∧ isSp a = false
theorem one_none : ∀ a, a < 256 → ¬ plainB a → a ≠ 46 → (cls [UInt8.ofNat a]).isNone = true := by decide +kernel
theorem two_none : ∀ a, a < 256 → isSp a = false → (cls [92, UInt8.ofNat a]).isNone = true ∨ a = 120 := by decide +kernel
theorem two_x : (cls [92, UInt8.ofNat 120]).isNone = true := by decide +kernel
theorem sp_range : ∀ a, a < 256 → isSp a = true → 33 ≤ a ∧ a ≤ 126 := by decide +kernel
theorem cls_sg {a : Nat} (ha : a < 256) : cls (sgT a) = some (fromTo a a, (sgT a).length) := by
  have hf := sgT_first ha []
  have h0 := sgn_sgT ha []
  rw [List.append_nil] at hf h0
  unfold cls cls0
  rw [if_neg hf.2.2.2.1, if_neg hf.2.2.2.2, h0]
  dsimp only
  rw [if_neg (empty_not ha (by simp))]
theorem cls_one {a : Nat} (ha : a < 256) (h : plainB a) : cls [UInt8.ofNat a] = some (fromTo a a, 1) := by
  have := cls_sg ha
  unfold sgT at this
  rw [if_neg (by omega), if_neg (by simp [h.2.2])] at this
  exact this
theorem cls_two {a : Nat} (ha : a < 256) (h : isSp a = true) : cls [92, UInt8.ofNat a] = some (fromTo a a, 2) := by
  have := cls_sg ha
  have hr := sp_range a ha h
  unfold sgT at this
  rw [if_neg (by omega), if_pos h] at this
  exact this
theorem inB_one {a : Nat} (ha : a < 256) (c : Nat) : inB [UInt8.ofNat a] c = fromTo a a c := by
  unfold inB fromTo
  rw [List.any_cons, List.any_nil, toNat_of ha, Bool.eq_iff_iff]
  simp only [Bool.or_false, beq_iff_eq, Bool.and_eq_true, decide_eq_true_eq]
  omega

theorem k4_spec {a : Nat} (ha : a < 256) {m0 m : Mem} (hle : Le m0 m) {b8 : Nat} (e8 : m b8 = some (.cells (cells4 (res (cls [92, UInt8.ofNat a])).1) T_api_Set (0, 0))) :
    eyotlaw8_ClassSigns.k4 (a : Int) (isSp a) b8 0 ((res (cls [92, UInt8.ofNat a])).2.1 : Nat) ((res (cls [92, UInt8.ofNat a])).2.2 : Nat) (Fine m0) m := by
  unfold eyotlaw8_ClassSigns.k4
  refine ⟨m, Le.refl _, ?_⟩
  cases hs : isSp a with
  | false =>
    have hn : cls [92, UInt8.ofNat a] = none := by
      rcases two_none a ha hs with h | rfl
      · exact Option.isNone_iff_eq_none.mp h
      · exact Option.isNone_iff_eq_none.mp two_x
    rw [hn]
    refine Br.t rfl ?_
    refine Br.t rfl ?_
    exact ⟨rfl, hle⟩
  | true =>
    rw [cls_two ha hs] at e8 ⊢
    refine Br.t rfl ?_
    refine Br.f rfl ?_
    refine BrEt rfl ?_
    refine get4 e8 ?_
    intro b hb
    refine Lk.all (Le.set hb _) ?_
    refine Of_spec (bs := [UInt8.ofNat a]) (cells_at (set_same _ _ _) (by rw [u8n ha]; rfl)) rfl (by simp) ?_
    intro m2 hle2
    refine ContSet.mk ?_
    refine Lk.all hle2 ?_
    have : eqL [.int .u64 (L (fromTo a a) 0), .int .u64 (L (fromTo a a) 1), .int .u64 (L (fromTo a a) 2), .int .u64 (L (fromTo a a) 3)] [.int .u64 (L (inB [UInt8.ofNat a]) 0), .int .u64 (L (inB [UInt8.ofNat a]) 1), .int .u64 (L (inB [UInt8.ofNat a]) 2), .int .u64 (L (inB [UInt8.ofNat a]) 3)] = true :=
      (eq4 _ _).mpr fun c _ => (inB_one ha c).symm
    rw [show (res (some (fromTo a a, 2))).1 = fromTo a a from rfl, this]
    exact ⟨rfl, hle.trans ((Le.set hb _).trans hle2)⟩

theorem k3_ok {a : Nat} (ha : a < 256) {m0 m : Mem} (hle : Le m0 m) {b5 b8 : Nat} (e5 : m b5 = some (.cells (cells4 (res (cls [UInt8.ofNat a])).1) T_api_Set (0, 0)))
    (e8 : m b8 = some (.cells (cells4 (res (cls [92, UInt8.ofNat a])).1) T_api_Set (0, 0))) {t : Bool} (ht : t = decide (plainB a)) :
    eyotlaw8_ClassSigns.k3 (a : Int) (isSp a) b5 0 ((res (cls [UInt8.ofNat a])).2.1 : Nat) ((res (cls [UInt8.ofNat a])).2.2 : Nat) b8 0 ((res (cls [92, UInt8.ofNat a])).2.1 : Nat) ((res (cls [92, UInt8.ofNat a])).2.2 : Nat) t (Fine m0) m := by
  subst ht
  unfold eyotlaw8_ClassSigns.k3
  refine ⟨m, Le.refl _, ?_⟩
  by_cases hp : plainB a
  · have h46 : a ≠ 46 := by
      rintro rfl
      have := hp.2.2
      rw [show isSp 46 = true from by decide] at this; cases this
    rw [cls_one ha hp] at e5 ⊢
    refine BrEt rfl ?_
    rw [decide_eq_true hp]
    refine Br.f (by simp; omega) ?_
    refine Br.t rfl ?_
    refine BrNf rfl ?_
    refine get4 e5 ?_
    intro b hb
    refine Lk.all (Le.set hb _) ?_
    refine Of_spec (bs := [UInt8.ofNat a]) (cells_at (set_same _ _ _) (by rw [u8n ha]; rfl)) rfl (by simp) ?_
    intro m2 hle2
    refine ContSet.mk ?_
    have hle3 := (Le.set hb (.cells #[.int .u8 (a : Int)] T_uint8 (0, 0))).trans hle2
    refine Lk.all hle2 ?_
    have : eqL [.int .u64 (L (fromTo a a) 0), .int .u64 (L (fromTo a a) 1), .int .u64 (L (fromTo a a) 2), .int .u64 (L (fromTo a a) 3)] [.int .u64 (L (inB [UInt8.ofNat a]) 0), .int .u64 (L (inB [UInt8.ofNat a]) 1), .int .u64 (L (inB [UInt8.ofNat a]) 2), .int .u64 (L (inB [UInt8.ofNat a]) 3)] = true :=
      (eq4 _ _).mpr fun c _ => (inB_one ha c).symm
    rw [show (res (some (fromTo a a, 1))).1 = fromTo a a from rfl, this]
    refine Br.f rfl ?_
    exact k4_spec ha (hle.trans hle3) (hle3 _ _ e8)
  · rw [decide_eq_false hp]
    by_cases h46 : a = 46
    · subst h46
      have hd : cls [UInt8.ofNat 46] = some (fun _ => !false, 1) := by kernel_rfl
      rw [hd]
      refine BrEt rfl ?_
      refine Br.f rfl ?_
      refine Br.f rfl ?_
      exact k4_spec ha hle e8
    · have hn : cls [UInt8.ofNat a] = none := Option.isNone_iff_eq_none.mp (one_none a ha hp h46)
      rw [hn]
      refine BrEf (by simp [res]) ?_
      refine Br.f rfl ?_
      refine Br.f rfl ?_
      exact k4_spec ha hle e8

theorem k2_ok {a : Nat} (ha : a < 256) {m0 m : Mem} (hG : Glob m0) (hle : Le m0 m) : eyotlaw8_ClassSigns.k2 (a : Int) (isSp a) (Fine m0) m := by
  intro b hb
  have hl1 := hle.trans (Le.set hb (.cells #[.int .u8 (a : Int)] T_uint8 (0, 0)))
  refine ⟨[UInt8.ofNat a], rfl, cells_at (set_same _ _ _) (by rw [u8n ha]; rfl), ?_⟩
  refine Parse_any (s := ⟨#[UInt8.ofNat a]⟩) (hG.le hl1) (show (1 : Nat) < 2 ^ 62 by decide) ?_
  intro m2 hle2
  refine ContP.mk ?_
  refine own4 ?_
  intro b5 m3 hle3 hb5 e5
  intro b35 hb35
  have hl3 := (hl1.trans hle2).trans hle3
  have hl4 := Le.set hb35 (.cells #[.int .u8 92, .int .u8 (a : Int)] T_uint8 (0, 0))
  refine ⟨[92, UInt8.ofNat a], rfl, cells_at (set_same _ _ _) (by rw [u8n ha]; rfl), ?_⟩
  refine Parse_any (s := ⟨#[92, UInt8.ofNat a]⟩) (hG.le (hl3.trans hl4)) (show (2 : Nat) < 2 ^ 62 by decide) ?_
  intro m5 hle5
  refine ContP.mk ?_
  refine own4 ?_
  intro b8 m6 hle6 hb8 e8
  have hf := ((hl3.trans hl4).trans hle5).trans hle6
  have e5' := hle6 _ _ (hle5 _ _ (hl4 _ _ e5))
  have key : ∀ t, t = decide (plainB a) → eyotlaw8_ClassSigns.k3 (a : Int) (isSp a) b5 0 ((res (cls (lst (bstr [UInt8.ofNat a])))).2.1 : Nat) ((res (cls (lst (bstr [UInt8.ofNat a])))).2.2 : Nat) b8 0 ((res (cls (lst (bstr [92, UInt8.ofNat a])))).2.1 : Nat) ((res (cls (lst (bstr [92, UInt8.ofNat a])))).2.2 : Nat) t (Fine m0) m6 := by
    intro t ht
    exact k3_ok ha hf e5' e8 ht
  refine BrD (fun h1 => ?_) (fun h1 => ?_)
  · refine BrD (fun h2 => ?_) (fun h2 => ?_)
    · refine key _ ?_
      rw [Bool.eq_iff_iff, decide_eq_true_eq, Bool.not_eq_true']
      exact ⟨fun h => ⟨by omega, by omega, h⟩, fun h => h.2.2⟩
    · refine key _ ?_
      rw [eq_comm, decide_eq_false_iff_not]; intro h; have := h.2.1; omega
  · refine key _ ?_
    rw [eq_comm, decide_eq_false_iff_not]; intro h; have := h.1; omega
theorem ClassSigns_m {a : Nat} (ha : a < 256) {m : Mem} (hG : Glob m) : HC P eyotlaw8_ClassSigns.id #[.int .u8 (a : Int)] m (Fine m) := by
  refine eyotlaw8_ClassSigns.ok _ _ _ ?_
  refine begun_spec hG ?_
  intro m1 hle1
  dsimp only [Cont]
  refine UnB.mk ?_
  refine Br.f rfl ?_
  refine ⟨fun N x0 x3 x4 mm => x0 = (a : Int) ∧ mm = m1 ∧ ∃ j : Nat, x4 = j ∧ N = 12 - j ∧ j ≤ 12 ∧ (x3 = true ↔ ∃ j' : Nat, j' < j ∧ bt spB (j' : Int) = (a : Int)), 12, ⟨rfl, rfl, 0, rfl, rfl, by omega, ?_⟩, ?_⟩
  · constructor
    · intro h; cases h
    · rintro ⟨j, h, _⟩; omega
  rintro N x0 x3 x4 mm ⟨rfl, rfl, j, rfl, rfl, hj, hx⟩
  refine BrD (fun hlt => ?_) (fun hge => ?_)
  · have hw : IntKind.i64.wrap ((j : Int) + 1) = ((j + 1 : Nat) : Int) := by rw [wi (by omega) (by omega)]; omega
    rw [hw]
    refine Br.mk (fun h3 => ?_) (fun h3 => ?_)
    · refine ⟨_, ?_, rfl, rfl, j + 1, rfl, rfl, by omega, ?_⟩
      · omega
      · obtain ⟨j', h1, h2⟩ := hx.mp h3
        exact ⟨fun _ => ⟨j', by omega, h2⟩, fun _ => rfl⟩
    · refine ⟨by omega, by show (j : Int) < 12; omega, ?_⟩
      refine ⟨_, ?_, rfl, rfl, j + 1, rfl, rfl, by omega, ?_⟩
      · omega
      · rw [beq_iff_eq]
        constructor
        · intro h; exact ⟨j, by omega, h⟩
        · rintro ⟨j', h1, h2⟩
          by_cases e : j' = j
          · subst e; exact h2
          · have := hx.mpr ⟨j', by omega, h2⟩
            rw [h3] at this; cases this
  · have : x3 = isSp a := by
      have hj12 : j = 12 := by omega
      subst hj12
      rw [Bool.eq_iff_iff, hx]
      have := sp_in a ha
      rw [← this]
    subst this
    exact k2_ok ha hG hle1
theorem ClassSigns_arg {W : World} {v : Value} (hG : Glob (heapM W)) (h : Arg P W T_uint8 v) : HC P eyotlaw8_ClassSigns.id #[v] (heapM W) (Fine (heapM W)) := by
  obtain ⟨n, rfl, hw⟩ := h.int (k := .u8) (by kernel_rfl)
  have hn := wf_u8 hw
  obtain ⟨a, rfl⟩ : ∃ a : Nat, n = (a : Int) := ⟨n.toNat, by omega⟩
  exact ClassSigns_m (by omega) hG
end Go.E
