/- Classes: the reference's ShowClass. -/
import Derived.Test.YtpbnhcggfgegkaaDoorKP2
set_option linter.unusedVariables false
set_option linter.unusedSimpArgs false
set_option maxRecDepth 20000
namespace Go.E
open Go.H
attribute [local irreducible] BiN MkS ConvN LookN MapUpN CallV HC limb dbTab

theorem byte_d16 {b : Nat} (hb : b < 256) : IntKind.u8.wrap (Int.tdiv (b : Int) 16) = ((b / 16 : Nat) : Int) := by
  rw [show (16 : Int) = ((16 : Nat) : Int) from rfl, ← Int.ofNat_tdiv, IntKind.wrap_u8]; omega
theorem byte_m16 {b : Nat} : Int.tmod (b : Int) 16 = ((b % 16 : Nat) : Int) := by
  rw [show (16 : Int) = ((16 : Nat) : Int) from rfl, ← Int.ofNat_tmod]
theorem hex_bt : ∀ k : Nat, k < 16 → bt hexB (k : Int) = (((hexd k).toNat : Nat) : Int) := by decide +kernel
theorem sp_rng : ∀ a, a < 256 → isSp a = true → 33 ≤ a ∧ a ≤ 126 := by decide +kernel
theorem rshown_spec {c : Nat} (hc : c < 256) {m : Mem} {R : Ending → Mem → Prop} (k : ∀ m', Le m m' → R (.returned (.string (bstr (sgT c)))) m') : HC P eyotref8_shown.id #[.int .u8 (c : Int)] m R := by
  refine eyotref8_shown.ok _ _ _ ?_
  refine in_spec hc ?_
  dsimp only [Cont]
  refine UnB.mk ?_
  have hk2 : ¬ (33 ≤ c ∧ c ≤ 126) → eyotref8_shown.k2 (c : Int) R m := by
    intro h
    unfold sgT at k
    rw [if_pos (by omega)] at k
    refine ⟨m, Le.refl _, ?_⟩
    rw [byte_d16 hc, byte_m16]
    refine ⟨by omega, by show ((c / 16 : Nat) : Int) < 16; omega, ?_⟩
    refine ⟨by omega, by show ((c % 16 : Nat) : Int) < 16; omega, ?_⟩
    have h1 := hex_bt (c / 16) (by omega)
    have h2 := hex_bt (c % 16) (by omega)
    rw [h1, h2]
    intro b hb
    refine ⟨[92, 120, hexd (c / 16), hexd (c % 16)], rfl, cells_at (set_same _ _ _) rfl, ?_⟩
    exact k _ (Le.set hb _)
  refine Br.mk (fun hsp => ?_) (fun hsp => ?_)
  · have hr : 33 ≤ c ∧ c ≤ 126 := by
      exact sp_rng c hc hsp
    unfold sgT at k
    rw [if_neg (by omega), if_pos hsp] at k
    intro b hb
    refine ⟨[92, UInt8.ofNat c], rfl, cells_at (set_same _ _ _) (by rw [u8n hc]; rfl), ?_⟩
    exact k _ (Le.set hb _)
  · have hk1 : ∀ t, t = decide (33 ≤ c ∧ c ≤ 126) → eyotref8_shown.k1 (c : Int) t R m := by
      intro t ht
      unfold eyotref8_shown.k1
      refine Br.mk (fun h1 => ?_) (fun h1 => ?_)
      · rw [ht, decide_eq_true_eq] at h1
        unfold sgT at k
        rw [if_neg (by omega), if_neg (by simp [hsp])] at k
        intro b hb
        refine ⟨[UInt8.ofNat c], rfl, cells_at (set_same _ _ _) (by rw [u8n hc]; rfl), ?_⟩
        exact k _ (Le.set hb _)
      · rw [ht, decide_eq_false_iff_not] at h1
        exact hk2 h1
    refine BrD (fun h1 => ?_) (fun h1 => ?_)
    · refine hk1 _ ?_
      rw [Bool.eq_iff_iff, decide_eq_true_eq, decide_eq_true_eq]; omega
    · refine hk1 _ ?_
      rw [eq_comm, decide_eq_false_iff_not]; omega

/-- The bytes of runs. -/
def cat (rs : List (Nat × Nat)) : List Nat := rs.flatMap fun p => List.range' p.1 (p.2 + 1 - p.1)
theorem cat_append (a b : List (Nat × Nat)) : cat (a ++ b) = cat a ++ cat b := by simp [cat]
theorem cat_one (p : Nat × Nat) : cat [p] = List.range' p.1 (p.2 + 1 - p.1) := by simp [cat]
theorem runL_succ (f : Nat → Bool) (k : Nat) : runL f (k + 1) = if f k = true then runS (runL f k) k else runL f k := rfl
theorem filter_runs (f : Nat → Bool) : ∀ k, (List.range k).filter f = cat (runL f k)
  | 0 => rfl
  | k + 1 => by
    have ih := filter_runs f k
    have hok := run_ok f k
    rw [List.range_succ, List.filter_append, ih, runL_succ]
    by_cases hf : f k = true
    · rw [if_pos hf]
      have h1 : [k].filter f = [k] := by simp [hf]
      rw [h1]
      rcases List.eq_nil_or_concat (runL f k) with h | ⟨l0, ⟨a, b⟩, h⟩
      · rw [h, runS_nil]
        rw [cat_one]
        dsimp only
        rw [show k + 1 - k = 1 by omega]; rfl
      · rw [List.concat_eq_append] at h
        rw [h] at hok ⊢
        have hab := hok (a, b) (by simp)
        dsimp only at hab
        rw [runS_snoc]
        split
        · rename_i e
          rw [cat_append, cat_append, cat_one, cat_one, List.append_assoc]
          dsimp only
          rw [show k + 1 - a = (b + 1 - a) + 1 by omega, List.range'_concat, show a + 1 * (b + 1 - a) = k by omega]
        · rw [cat_append _ [(k, k)], cat_one]
          dsimp only
          rw [show k + 1 - k = 1 by omega]; rfl
    · rw [if_neg hf]
      have h1 : [k].filter f = [] := by simp [hf]
      rw [h1, List.append_nil]
theorem run_sep (f : Nat → Bool) : ∀ k, (runL f k).Pairwise fun p q => p.2 + 1 < q.1
  | 0 => List.Pairwise.nil
  | k + 1 => by
    have ih := run_sep f k
    have hok := run_ok f k
    unfold runL
    split
    · rcases List.eq_nil_or_concat (runL f k) with h | ⟨l0, ⟨a, b⟩, h⟩
      · rw [h, runS_nil]; exact List.pairwise_singleton _ _
      · rw [List.concat_eq_append] at h
        rw [h] at hok ih ⊢
        have hab := hok (a, b) (by simp)
        dsimp only at hab
        rw [runS_snoc]
        have h2 := List.pairwise_append.mp ih
        split
        · refine List.pairwise_append.mpr ⟨h2.1, List.pairwise_singleton _ _, ?_⟩
          intro x hx y hy
          rw [List.mem_singleton] at hy; subst hy
          exact h2.2.2 x hx (a, b) (by simp)
        · refine List.pairwise_append.mpr ⟨ih, List.pairwise_singleton _ _, ?_⟩
          intro x hx y hy
          rw [List.mem_singleton] at hy; subst hy
          show x.2 + 1 < k
          rcases List.mem_append.mp hx with hx | hx
          · have h3 := h2.2.2 x hx (a, b) (by simp)
            dsimp only at h3; omega
          · rw [List.mem_singleton] at hx; subst hx
            dsimp only; omega
    · exact ih
theorem flt_cat (f : Nat → Bool) : flt f 256 = (cat (runL f 256)).map UInt8.ofNat := by unfold flt; rw [filter_runs]
theorem cat_len (rs : List (Nat × Nat)) (h : ∀ p ∈ rs, p.1 ≤ p.2) : rs.length ≤ (cat rs).length := by
  induction rs with
  | nil => simp
  | cons p rs ih =>
    have h1 := h p (by simp)
    have := ih fun q hq => h q (by simp [hq])
    rw [show p :: rs = [p] ++ rs from rfl, cat_append, cat_one]
    simp; omega
/-- What stands where, in a list of runs' bytes. -/
theorem cat_in {r1 r2 : List (Nat × Nat)} {a b t : Nat} (ht : t < b + 1 - a) : (cat (r1 ++ (a, b) :: r2))[(cat r1).length + t]? = some (a + t) := by
  rw [cat_append, show (a, b) :: r2 = [(a, b)] ++ r2 from rfl, cat_append, cat_one]
  rw [List.getElem?_append_right (by omega), show (cat r1).length + t - (cat r1).length = t by omega]
  rw [List.getElem?_append_left (by simpa using ht), List.getElem?_range' ht]
  simp
theorem cat_next {r1 r2 : List (Nat × Nat)} {a b : Nat} (hab : a ≤ b) {p : Nat × Nat} (hp : p.1 ≤ p.2) : (cat (r1 ++ (a, b) :: p :: r2))[(cat r1).length + (b + 1 - a)]? = some p.1 := by
  have h := cat_in (r1 := r1 ++ [(a, b)]) (r2 := r2) (a := p.1) (b := p.2) (t := 0) (by omega)
  rw [cat_append, cat_append, cat_one] at h
  simp only [List.length_append, List.length_range', Nat.add_zero] at h
  rw [show r1 ++ (a, b) :: p :: r2 = (r1 ++ [(a, b)]) ++ (p.1, p.2) :: r2 by simp, cat_append, cat_append, cat_one]
  exact h
end Go.E
