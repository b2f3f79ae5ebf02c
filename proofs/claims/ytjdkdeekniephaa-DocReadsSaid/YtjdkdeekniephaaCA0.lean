/- Plain laws of a list of keys and values, who was used last first. No program in sight. -/
set_option linter.unusedVariables false
set_option linter.unusedSimpArgs false
namespace Go.E
variable {α : Type}
/-- Where a key stands. -/
def ixF (k : Int) : List (Int × α) → Nat → Option Nat
  | [], _ => none
  | e :: r, j => if e.1 = k then some j else ixF k r (j + 1)
def ixI : Option Nat → Int
  | some j => j
  | none => -1
theorem ixF_drop {k : Int} {es : List (Int × α)} {j : Nat} {e : Int × α} (h : es[j]? = some e) : ixF k (es.drop j) j = if e.1 = k then some j else ixF k (es.drop (j + 1)) (j + 1) := by
  have hlt : j < es.length := by
    rcases Nat.lt_or_ge j es.length with h1 | h1
    · exact h1
    · rw [List.getElem?_eq_none h1] at h; cases h
  rw [List.drop_eq_getElem_cons hlt]
  rw [List.getElem?_eq_getElem hlt] at h
  cases h
  rfl
theorem ixF_some {k : Int} : ∀ {es : List (Int × α)} {o j : Nat}, ixF k es o = some j → o ≤ j ∧ j < o + es.length ∧ ∃ e, es[j - o]? = some e ∧ e.1 = k
  | [], o, j, h => by simp [ixF] at h
  | e :: r, o, j, h => by
    unfold ixF at h
    split at h
    · rename_i hk
      cases h
      exact ⟨Nat.le_refl _, by simp, e, by simp, hk⟩
    · obtain ⟨h1, h2, e', h3, h4⟩ := ixF_some h
      refine ⟨by omega, by simp; omega, e', ?_, h4⟩
      rw [show j - o = (j - (o + 1)) + 1 by omega, List.getElem?_cons_succ]
      exact h3
theorem ixF_none {k : Int} : ∀ {es : List (Int × α)} {o : Nat}, ixF k es o = none → ∀ e ∈ es, e.1 ≠ k
  | [], o, h, e, he => by cases he
  | x :: r, o, h, e, he => by
    unfold ixF at h
    split at h
    · cases h
    · rename_i hk
      rcases List.mem_cons.1 he with rfl | he
      · exact hk
      · exact ixF_none h e he
theorem ixF_shift {k : Int} : ∀ (es : List (Int × α)) (o d : Nat), ixF k es (o + d) = (ixF k es o).map (· + d)
  | [], o, d => rfl
  | e :: r, o, d => by
    unfold ixF
    split
    · rfl
    · have := ixF_shift (k := k) r (o + 1) d
      rw [show o + d + 1 = o + 1 + d by omega]; exact this
/-- The same place by keys alone. -/
theorem ixF_keys {β : Type} {k : Int} : ∀ (es : List (Int × α)) (fs : List (Int × β)) (o : Nat), es.map (·.1) = fs.map (·.1) → ixF k es o = ixF k fs o
  | [], [], o, _ => rfl
  | e :: r, f :: s, o, h => by
    simp only [List.map_cons, List.cons.injEq] at h
    unfold ixF
    rw [h.1, ixF_keys r s (o + 1) h.2]
def dropL (k : Int) (es : List (Int × α)) : List (Int × α) :=
  match ixF k es 0 with
  | some i => es.eraseIdx i
  | none => es
def putL (most k : Int) (v : α) (es : List (Int × α)) : List (Int × α) :=
  if ((((k, v) :: dropL k es).length : Nat) : Int) ≤ max most 1 then (k, v) :: dropL k es else ((k, v) :: dropL k es).dropLast
/-- Which one goes. -/
def goneL (most k : Int) (v : α) (es : List (Int × α)) : Int × Bool :=
  if ((((k, v) :: dropL k es).length : Nat) : Int) ≤ max most 1 then (0, false) else ((((k, v) :: dropL k es).getLast (by simp)).1, true)
def getL (k : Int) (es : List (Int × α)) : List (Int × α) :=
  match ixF k es 0 with
  | some i => (match es[i]? with | some e => e :: es.eraseIdx i | none => es)
  | none => es
theorem dropL_len (k : Int) (es : List (Int × α)) : (dropL k es).length ≤ es.length := by
  unfold dropL
  split
  · exact List.length_eraseIdx_le _ _
  · exact Nat.le_refl _
theorem putL_len (most k : Int) (v : α) (es : List (Int × α)) : (putL most k v es).length ≤ es.length + 1 ∧ (((putL most k v es).length : Nat) : Int) ≤ max (max most 1) (es.length : Nat) := by
  have h := dropL_len k es
  unfold putL
  split
  · rename_i hc
    simp only [List.length_cons] at hc ⊢
    omega
  · rename_i hc
    simp only [List.length_dropLast, List.length_cons, Nat.add_sub_cancel] at hc ⊢
    omega
theorem getL_len (k : Int) (es : List (Int × α)) : (getL k es).length = es.length := by
  unfold getL
  split
  · rename_i i hi
    obtain ⟨_, h2, e, h3, _⟩ := ixF_some hi
    rw [Nat.sub_zero] at h3
    rw [h3]
    simp only [List.length_cons]
    rw [List.length_eraseIdx_of_lt (by omega)]
    omega
  · rfl
end Go.E
