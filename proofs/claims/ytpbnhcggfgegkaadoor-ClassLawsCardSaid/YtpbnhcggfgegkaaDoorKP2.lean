/- Classes, plain: what is shown is read as it was. -/
import Derived.Test.YtpbnhcggfgegkaaDoorKP1
set_option linter.unusedVariables false
set_option linter.unusedSimpArgs false
set_option maxRecDepth 20000
namespace Go.E
open Go.H
attribute [local irreducible] BiN MkS ConvN LookN MapUpN CallV HC limb dbTab

def tok (p : Nat × Nat) : List Tok := if p.2 = p.1 then [(sgT p.1, p.1, p.1)] else if p.2 = p.1 + 1 then [(sgT p.1, p.1, p.1), (sgT p.2, p.2, p.2)] else [(sgT p.1 ++ ([45] ++ sgT p.2), p.1, p.2)]
def runT (rs : List (Nat × Nat)) : List Tok := rs.flatMap tok
theorem tok_PT {p : Nat × Nat} (h : p.1 ≤ p.2) (hb : p.2 < 256) : ∀ x ∈ tok p, PT x.1 x.2.1 x.2.2 := by
  intro x hx
  unfold tok at hx
  split at hx
  · simp at hx; subst hx; exact PT.sg (by omega)
  split at hx
  · simp at hx
    rcases hx with rfl | rfl
    · exact PT.sg (by omega)
    · exact PT.sg hb
  · rw [List.mem_singleton] at hx; subst hx; exact PT.sg2 h hb
theorem runT_PT {rs : List (Nat × Nat)} (h : ∀ p ∈ rs, p.1 ≤ p.2 ∧ p.2 < 256) : ∀ x ∈ runT rs, PT x.1 x.2.1 x.2.2 := by
  intro x hx
  unfold runT at hx
  rw [List.mem_flatMap] at hx
  obtain ⟨p, hp, hx⟩ := hx
  exact tok_PT (h p hp).1 (h p hp).2 x hx
theorem tokT_append (a b : List Tok) : tokT (a ++ b) = tokT a ++ tokT b := by simp [tokT]
theorem tokS_append (a b : List Tok) (c : Nat) : tokS (a ++ b) c = (tokS a c || tokS b c) := by simp [tokS]
theorem tokT_tok (p : Nat × Nat) : tokT (tok p) = shT p.1 p.2 := by
  unfold tok shT
  split
  · simp [tokT]
  split
  · simp [tokT]
  · simp [tokT]
theorem tokS_tok (p : Nat × Nat) (c : Nat) (h : p.1 ≤ p.2) : tokS (tok p) c = fromTo p.1 p.2 c := by
  unfold tok
  split
  · rename_i e; rw [e]; simp [tokS]
  split
  · rename_i _ e
    simp [tokS, fromTo]
    rw [e]
    rw [Bool.eq_iff_iff]; simp; omega
  · simp [tokS]
theorem tokT_runT (rs : List (Nat × Nat)) : tokT (runT rs) = joinR rs := by
  induction rs with
  | nil => rfl
  | cons p rs ih =>
    have : runT (p :: rs) = tok p ++ runT rs := rfl
    rw [this, tokT_append, ih, tokT_tok]; rfl
theorem tokS_runT {rs : List (Nat × Nat)} (h : ∀ p ∈ rs, p.1 ≤ p.2) (c : Nat) : tokS (runT rs) c = rs.any fun p => fromTo p.1 p.2 c := by
  induction rs with
  | nil => rfl
  | cons p rs ih =>
    have : runT (p :: rs) = tok p ++ runT rs := rfl
    rw [this, tokS_append, ih fun q hq => h q (by simp [hq]), tokS_tok p c (h p (by simp)), List.any_cons]
theorem run_any (f : Nat → Bool) (c : Nat) : ∀ k, ((runL f k).any fun p => fromTo p.1 p.2 c) = (f c && decide (c < k))
  | 0 => by simp [runL]
  | k + 1 => by
    have ih := run_any f c k
    have hok := run_ok f k
    unfold runL
    split
    · rename_i hf
      have hk : (f c && decide (c < k + 1)) = ((f c && decide (c < k)) || decide (c = k)) := by
        by_cases hc : c = k
        · subst hc; simp [hf]
        · rw [Bool.eq_iff_iff]; simp [hc]; intro _; omega
      rw [hk, ← ih]
      rcases List.eq_nil_or_concat (runL f k) with h | ⟨l0, ⟨a, b⟩, h⟩
      · rw [h, runS_nil]
        simp [fromTo]
        rw [Bool.eq_iff_iff]; simp; omega
      · rw [List.concat_eq_append] at h
        rw [h] at hok ⊢
        have hab := hok (a, b) (by simp)
        rw [runS_snoc]
        split
        · rename_i e
          simp only [List.any_append, List.any_cons, List.any_nil, Bool.or_false, Bool.or_assoc]
          congr 1
          unfold fromTo
          rw [Bool.eq_iff_iff]; simp at hab ⊢; omega
        · simp only [List.any_append, List.any_cons, List.any_nil, Bool.or_false, Bool.or_assoc]
          congr 2
          unfold fromTo
          rw [Bool.eq_iff_iff]; simp; omega
    · rename_i hf
      rw [ih]
      by_cases hc : c = k
      · subst hc; simp [hf]
      · rw [Bool.eq_iff_iff]; simp; intro _; omega
theorem empty_not {S : Nat → Bool} {c : Nat} (hc : c < 256) (h : S c = true) : ¬ emptyS S = true := by
  intro he
  have := empty_all he c hc
  rw [this] at h; cases h
/-- What is shown of a set that is not empty is read as it was, whatever stands behind. -/
theorem cls_shW {f : Nat → Bool} (hf : ¬ emptyS f = true) (more : List UInt8) : ∃ f', cls (shW f ++ more) = some (f', (shW f).length) ∧ ∀ c, c < 256 → f' c = f c := by
  obtain ⟨t, ht, hft, _⟩ := empty_ex hf
  have key : ∀ f', cls0 (shW f ++ more) = some (f', (shW f).length) → (∀ c, c < 256 → f' c = f c) → ∃ f', cls (shW f ++ more) = some (f', (shW f).length) ∧ ∀ c, c < 256 → f' c = f c := by
    intro f' h1 h2
    refine ⟨f', ?_, h2⟩
    unfold cls
    rw [h1]
    dsimp only
    rw [if_neg (empty_not ht (by rw [h2 t ht]; exact hft))]
  have hany := fun c => run_any f c 256
  have hok := run_ok f 256
  have hbrk : ∀ rs, runL f 256 = rs → shW f = brk rs → ∃ f', cls (shW f ++ more) = some (f', (shW f).length) ∧ ∀ c, c < 256 → f' c = f c := by
    intro rs hrs hs
    have hnn : runT rs ≠ [] := by
      intro hn
      have h1 := hany t
      rw [hrs, ← tokS_runT (fun p hp => (hok p (hrs ▸ hp)).1), hn] at h1
      simp [tokS, hft] at h1
      omega
    have h0 := cls_toks (more := more) (runT_PT fun p hp => hok p (hrs ▸ hp)) hnn false
    simp only [Bool.false_eq_true, if_false] at h0
    refine key (fun c => tokS (runT rs) c) ?_ ?_
    · rw [hs]
      rw [tokT_runT] at h0
      unfold brk
      rw [show ([91] ++ joinR rs ++ [93]) ++ more = [91] ++ (joinR rs ++ 93 :: more) by simp, h0]
      congr 2
      simp; omega
    · intro c hc
      show tokS (runT rs) c = f c
      rw [tokS_runT (fun p hp => (hok p (hrs ▸ hp)).1), ← hrs, hany c]
      simp [hc]
  by_cases h0 : (runL f 256).length = 0
  · exfalso
    have h1 := hany t
    rw [List.length_eq_zero_iff.mp h0] at h1
    simp [hft] at h1
    omega
  by_cases hfull : fullS f = true
  · have hs : shW f = [46] := by unfold shW; rw [if_neg h0, if_pos hfull]
    refine key (fun _ => !false) ?_ ?_
    · rw [hs]
      unfold cls0
      rw [show nx (([46] : List UInt8) ++ more) 0 = 46 from rfl, if_pos rfl]
      rfl
    · intro c hc
      have := empty_all hfull c hc
      simp at this
      rw [this]; rfl
  · cases hr : runL f 256 with
    | nil => rw [hr] at h0; simp at h0
    | cons p rs =>
      cases rs with
      | cons q rs => exact hbrk _ hr (by unfold shW; rw [if_neg h0, if_neg hfull, hr])
      | nil =>
        obtain ⟨a, b⟩ := p
        have hs : shW f = if a = b then sgT a else brk [(a, b)] := by unfold shW; rw [if_neg h0, if_neg hfull, hr]
        have hab := hok (a, b) (by rw [hr]; simp)
        dsimp only at hab
        by_cases e : a = b
        · rw [if_pos e] at hs
          subst e
          refine key (fromTo a a) ?_ ?_
          · rw [hs]
            have hf := sgT_first (c := a) hab.2 more
            unfold cls0
            rw [if_neg hf.2.2.2.1, if_neg hf.2.2.2.2, sgn_sgT hab.2]
          · intro c hc
            have h1 := hany c
            rw [hr] at h1
            simp only [List.any_cons, List.any_nil, Bool.or_false] at h1
            rw [h1]; simp [hc]
        · rw [if_neg e] at hs
          exact hbrk _ hr hs
end Go.E
