/- Sets: And, and the reference's Or and And. -/
import Derived.Test.YtpbnhcggfgegkaaDoorKL5
set_option linter.unusedVariables false
set_option linter.unusedSimpArgs false
set_option maxRecDepth 20000
namespace Go.E
open Go.H
attribute [local irreducible] BiN MkS ConvN LookN MapUpN CallV HC limb dbTab

theorem And_spec {f g : Nat → Bool} {m : Mem} {R : Ending → Mem → Prop} (h : ∀ m', Le m m' → R (.returned (setv fun b => f b && g b)) m') : HC P class_And.id #[setv f, setv g] m R := by
  refine class_And.ok _ _ _ _ _ _ _ _ _ _ ?_
  intro ba hba bb hbb b4 hb4
  have hne : bb ≠ ba := fun e => by subst e; rw [set_same] at hbb; cases hbb
  have hne2 : b4 ≠ bb := fun e => by subst e; rw [set_same] at hb4; cases hb4
  have hne3 : b4 ≠ ba := fun e => by subst e; rw [set_other _ _ hne.symm, set_same] at hb4; cases hb4
  have hm4 : m b4 = none := by rw [set_other _ _ hne2, set_other _ _ hne3] at hb4; exact hb4
  have hle := ((Le.set hba (.cells #[.int .u64 (L f 0), .int .u64 (L f 1), .int .u64 (L f 2), .int .u64 (L f 3)] T_api_Set (0, 0))).trans (Le.set hbb (.cells #[.int .u64 (L g 0), .int .u64 (L g 1), .int .u64 (L g 2), .int .u64 (L g 3)] T_api_Set (0, 0)))).trans (Le.set hb4 (.cells #[.int .u64 0, .int .u64 0, .int .u64 0, .int .u64 0] T_api_Set (0, 0)))
  refine get4 (by rw [set_other _ _ hne3.symm, set_other _ _ hne.symm, set_same]) ?_
  refine get4 (by rw [set_other _ _ hne2.symm, set_same]) ?_
  refine with_spec (op := bitsV .and .u64) (fun m x y R k => class_And_1.ok _ _ _ _ k) ?_
  intro m' hle'
  refine ContSet.mk ?_
  refine out4 (hle' _ _ (set_same _ _ _)) ?_
  have hk := h _ (Chg.to_le (Chg.set m' b4 (.cells #[.int .u64 (bitsV .and .u64 (L f 0) (L g 0)), .int .u64 (bitsV .and .u64 (L f 1) (L g 1)), .int .u64 (bitsV .and .u64 (L f 2) (L g 2)), .int .u64 (bitsV .and .u64 (L f 3) (L g 3))] T_api_Set (0, 0))) (hle.trans hle') (fun b e => by rw [show b = b4 from e]; exact hm4))
  simp only [L_and] at hk ⊢
  exact hk

theorem ROr_spec {f g : Nat → Bool} {m : Mem} {R : Ending → Mem → Prop} (h : ∀ m', Le m m' → R (.returned (setv fun b => f b || g b)) m') : HC P eyotref8_Or.id #[setv f, setv g] m R := by
  refine eyotref8_Or.ok _ _ _ _ _ _ _ _ _ _ ?_
  intro ba hba bb hbb b4 hb4
  have hne : bb ≠ ba := fun e => by subst e; rw [set_same] at hbb; cases hbb
  have hne2 : b4 ≠ bb := fun e => by subst e; rw [set_same] at hb4; cases hb4
  have hne3 : b4 ≠ ba := fun e => by subst e; rw [set_other _ _ hne.symm, set_same] at hb4; cases hb4
  have hm4 : m b4 = none := by rw [set_other _ _ hne2, set_other _ _ hne3] at hb4; exact hb4
  have hle := ((Le.set hba (.cells (cells4 f) T_api_Set (0, 0))).trans (Le.set hbb (.cells (cells4 g) T_api_Set (0, 0)))).trans (Le.set hb4 (.cells z4 T_api_Set (0, 0)))
  have ea : (((m.set ba (.cells (cells4 f) T_api_Set (0, 0))).set bb (.cells (cells4 g) T_api_Set (0, 0))).set b4 (.cells z4 T_api_Set (0, 0))) ba = some (.cells (cells4 f) T_api_Set (0, 0)) := by rw [set_other _ _ hne3.symm, set_other _ _ hne.symm, set_same]
  have eb : (((m.set ba (.cells (cells4 f) T_api_Set (0, 0))).set bb (.cells (cells4 g) T_api_Set (0, 0))).set b4 (.cells z4 T_api_Set (0, 0))) bb = some (.cells (cells4 g) T_api_Set (0, 0)) := by rw [set_other _ _ hne2.symm, set_same]
  have e4 : (((m.set ba (.cells (cells4 f) T_api_Set (0, 0))).set bb (.cells (cells4 g) T_api_Set (0, 0))).set b4 (.cells z4 T_api_Set (0, 0))) b4 = some (.cells z4 T_api_Set (0, 0)) := set_same _ _ _
  generalize (((m.set ba (.cells (cells4 f) T_api_Set (0, 0))).set bb (.cells (cells4 g) T_api_Set (0, 0))).set b4 (.cells z4 T_api_Set (0, 0))) = ms at hle ea eb e4
  refine ⟨ms, Le.refl _, ?_⟩
  refine get4 ea ?_
  refine get4 eb ?_
  refine list_spec ?_
  intro m1 a1 l1 c1 r1
  dsimp only [Cont]
  refine UnS.mk (Lk.all r1.le ?_)
  refine list_spec ?_
  intro m2 a2 l2 c2 r2
  dsimp only [Cont]
  refine UnS.mk ?_
  have r1' := r1.mono r2.le
  have h1 := r1.len; have h2 := r2.len
  have k1 := flt_len f 256; have k2 := flt_len g 256
  refine append_own eU8 r1'.own r2.own.cells (by rw [u8s_len, Nat.mul_one]; exact h2) ?_ (by decide) (by omega) (by omega) ?_
  · intro v hv
    unfold u8s at hv
    rw [List.mem_map] at hv
    obtain ⟨x, _, rfl⟩ := hv
    rfl
  intro a' c' m' ho hg
  refine UnS.mk ?_
  have hle3 : Le ms m' := hg.1.to_le r1'.le (fun b e => r1.fr b e)
  have hcat : u8s (flt f 256) ++ u8s (flt g 256) = u8s (flt f 256 ++ flt g 256) := by simp [u8s]
  rw [hcat] at ho
  refine ROf_spec ho.cells (by rw [List.length_append]; omega) (by rw [List.length_append]; omega) ?_
  intro m4 hle4
  refine ContSet.mk ?_
  refine out4 (hle4 _ _ (hle3 _ _ e4)) ?_
  have hs : setv (inB (flt f 256 ++ flt g 256)) = setv fun b => f b || g b := setv_eq fun c hc => by
    rw [inB_app, inB_flt (Nat.le_refl _), inB_flt (Nat.le_refl _)]; simp [hc]
  show R (.returned (setv (inB (flt f 256 ++ flt g 256)))) _
  rw [hs]
  exact h _ (Chg.to_le (Chg.set m4 b4 _) ((hle.trans hle3).trans hle4) (fun b e => by rw [show b = b4 from e]; exact hm4))

theorem RAnd_spec {f g : Nat → Bool} {m : Mem} {R : Ending → Mem → Prop} (h : ∀ m', Le m m' → R (.returned (setv fun b => f b && g b)) m') : HC P eyotref8_And.id #[setv f, setv g] m R := by
  refine eyotref8_And.ok _ _ _ _ _ _ _ _ _ _ ?_
  intro ba hba bb hbb b4 hb4
  have hne : bb ≠ ba := fun e => by subst e; rw [set_same] at hbb; cases hbb
  have hne2 : b4 ≠ bb := fun e => by subst e; rw [set_same] at hb4; cases hb4
  have hne3 : b4 ≠ ba := fun e => by subst e; rw [set_other _ _ hne.symm, set_same] at hb4; cases hb4
  have hm4 : m b4 = none := by rw [set_other _ _ hne2, set_other _ _ hne3] at hb4; exact hb4
  have hle0 := ((Le.set hba (.cells (cells4 f) T_api_Set (0, 0))).trans (Le.set hbb (.cells (cells4 g) T_api_Set (0, 0)))).trans (Le.set hb4 (.cells z4 T_api_Set (0, 0)))
  have ea : (((m.set ba (.cells (cells4 f) T_api_Set (0, 0))).set bb (.cells (cells4 g) T_api_Set (0, 0))).set b4 (.cells z4 T_api_Set (0, 0))) ba = some (.cells (cells4 f) T_api_Set (0, 0)) := by rw [set_other _ _ hne3.symm, set_other _ _ hne.symm, set_same]
  have eb : (((m.set ba (.cells (cells4 f) T_api_Set (0, 0))).set bb (.cells (cells4 g) T_api_Set (0, 0))).set b4 (.cells z4 T_api_Set (0, 0))) bb = some (.cells (cells4 g) T_api_Set (0, 0)) := by rw [set_other _ _ hne2.symm, set_same]
  have e4 : (((m.set ba (.cells (cells4 f) T_api_Set (0, 0))).set bb (.cells (cells4 g) T_api_Set (0, 0))).set b4 (.cells z4 T_api_Set (0, 0))) b4 = some (.cells z4 T_api_Set (0, 0)) := set_same _ _ _
  generalize (((m.set ba (.cells (cells4 f) T_api_Set (0, 0))).set bb (.cells (cells4 g) T_api_Set (0, 0))).set b4 (.cells z4 T_api_Set (0, 0))) = ms at hle0 ea eb e4
  refine ⟨fun N a1b a1o a3b a3o x2b x2o la ll lc i mm => a1b = ba ∧ a1o = 0 ∧ a3b = bb ∧ a3o = 0 ∧ x2b = b4 ∧ x2o = 0 ∧ ∃ k : Nat, i = k ∧ N = 256 - k ∧ k ≤ 256 ∧ RwB ms mm la ll lc (flt (fun b => f b && g b) k), 256, ⟨rfl, rfl, rfl, rfl, rfl, rfl, 0, rfl, rfl, by omega, RwB.nil (Le.refl _)⟩, ?_⟩
  rintro N a1b a1o a3b a3o x2b x2o la ll lc i mm ⟨rfl, rfl, rfl, rfl, rfl, rfl, k, rfl, rfl, hk, hr⟩
  have hl := hr.len
  have hl2 := flt_len (fun b => f b && g b) k
  refine BrD (fun hlt => ?_) (fun hge => ?_)
  · have w : IntKind.i64.wrap ((k : Int) + 1) = ((k + 1 : Nat) : Int) := by rw [wi (by omega) (by omega)]; omega
    have key : ∀ (m1 : Mem) (t : Bool), t = (f k && g k) → RwB ms m1 la ll lc (flt (fun b => f b && g b) k) → eyotref8_And.k2 (fun c0 c1 c2 c3 c4 c5 c6 c7 c8 c9 m' => ∃ N', N' < 256 - k ∧ (c0 = a1b ∧ c1 = 0 ∧ c2 = a3b ∧ c3 = 0 ∧ c4 = x2b ∧ c5 = 0 ∧ ∃ k : Nat, c9 = k ∧ N' = 256 - k ∧ k ≤ 256 ∧ RwB ms m' c6 c7 c8 (flt (fun b => f b && g b) k))) a1b 0 a3b 0 x2b 0 la ll lc (k : Int) t R m1 := by
      intro m1 t ht hr1
      unfold eyotref8_And.k2
      rw [u8w (by omega), w]
      refine Br.mk (fun hb => ?_) (fun hb => ?_)
      · rw [u8n (k := k) (by omega)]
        refine hr1.push _ (by omega) ?_
        intro a' c' m' hr'
        refine UnS.mk ?_
        refine ⟨256 - (k + 1), by omega, rfl, rfl, rfl, rfl, rfl, rfl, k + 1, rfl, rfl, by omega, by rw [flt_succ, if_pos (by rw [← ht]; exact hb)]; exact hr'⟩
      · exact ⟨256 - (k + 1), by omega, rfl, rfl, rfl, rfl, rfl, rfl, k + 1, rfl, rfl, by omega, by rw [flt_succ, if_neg (by rw [← ht, hb]; simp)]; exact hr1⟩
    refine get4 (hr.le _ _ ea) ?_
    rw [u8w (by omega)]
    refine RHas_spec (by omega) ?_
    intro m1 hle1
    have hr1 := hr.mono hle1
    dsimp only [Cont]
    refine UnB.mk ?_
    refine Br.mk (fun hb => ?_) (fun hb => ?_)
    · refine get4 (hr1.le _ _ eb) ?_
      refine RHas_spec (by omega) ?_
      intro m2 hle2
      dsimp only [Cont]
      refine UnB.mk ?_
      exact key m2 _ (by rw [hb]; rfl) (hr1.mono hle2)
    · exact key m1 _ (by rw [hb]; rfl) hr1
  · have : k = 256 := by omega
    subst this
    refine ROf_spec hr.own.cells hl (by omega) ?_
    intro m' hle
    refine ContSet.mk ?_
    refine out4 (hle _ _ (hr.le _ _ e4)) ?_
    show R (.returned (setv (inB (flt (fun b => f b && g b) 256)))) _
    rw [setv_flt]
    exact h _ (Chg.to_le (Chg.set m' x2b _) ((hle0.trans hr.le).trans hle) (fun b e => by rw [show b = x2b from e]; exact hm4))
end Go.E
