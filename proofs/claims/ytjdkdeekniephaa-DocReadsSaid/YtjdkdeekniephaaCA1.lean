/- Plain laws of a list of keys and values: its keys. No program in sight. -/
import Derived.Test.YtjdkdeekniephaaCA0
set_option linter.unusedVariables false
set_option linter.unusedSimpArgs false
namespace Go.E
variable {α : Type}
def keysOf (es : List (Int × α)) : List Int := es.map (·.1)
theorem ix_key {k : Int} {es : List (Int × α)} {i : Nat} (h : ixF k es 0 = some i) : (keysOf es)[i]? = some k := by
  obtain ⟨_, _, e, h1, h2⟩ := ixF_some h
  unfold keysOf
  rw [List.getElem?_map, Nat.sub_zero] at *
  rw [h1, ← h2]; rfl
theorem ix_mem {k : Int} {es : List (Int × α)} {i : Nat} (h : ixF k es 0 = some i) : k ∈ keysOf es := List.mem_of_getElem? (ix_key h)
theorem ix_not {k : Int} {es : List (Int × α)} (h : ixF k es 0 = none) : k ∉ keysOf es := by
  intro hm
  unfold keysOf at hm
  rw [List.mem_map] at hm
  obtain ⟨e, he, h1⟩ := hm
  exact ixF_none h e he h1
theorem ix_of_mem {k : Int} {es : List (Int × α)} (h : k ∈ keysOf es) : ∃ i, ixF k es 0 = some i := by
  cases hx : ixF k es 0 with
  | none => exact absurd h (ix_not hx)
  | some i => exact ⟨i, rfl⟩
theorem ix_of_not {k : Int} {es : List (Int × α)} (h : k ∉ keysOf es) : ixF k es 0 = none := by
  cases hx : ixF k es 0 with
  | none => rfl
  | some i => exact absurd (ix_mem hx) h
theorem erase_filter {l : List Int} (hn : l.Nodup) : ∀ {i : Nat} {k : Int}, l[i]? = some k → l.eraseIdx i = l.filter (fun x => decide (x ≠ k)) := by
  induction l with
  | nil => intro i k h; simp at h
  | cons x l ih =>
    intro i k h
    rw [List.nodup_cons] at hn
    cases i with
    | zero =>
      simp at h; subst h
      rw [List.eraseIdx_cons_zero, List.filter_cons]
      simp only [ne_eq, not_true, decide_false, Bool.false_eq_true, if_false]
      symm
      rw [List.filter_eq_self]
      intro y hy
      simp only [decide_eq_true_eq]
      rintro rfl; exact hn.1 hy
    | succ i =>
      have h' : l[i]? = some k := by simpa using h
      have hne : x ≠ k := by rintro rfl; exact hn.1 (List.mem_of_getElem? h')
      rw [List.eraseIdx_cons_succ, List.filter_cons, ih hn.2 h']
      simp [hne]
theorem keys_eraseIdx (es : List (Int × α)) (i : Nat) : keysOf (es.eraseIdx i) = (keysOf es).eraseIdx i := by
  unfold keysOf
  induction es generalizing i with
  | nil => simp
  | cons e es ih => cases i <;> simp [ih]
theorem keys_drop {k : Int} {es : List (Int × α)} (hn : (keysOf es).Nodup) : keysOf (dropL k es) = (keysOf es).filter (fun x => decide (x ≠ k)) := by
  unfold dropL
  cases hx : ixF k es 0 with
  | none =>
    symm
    rw [List.filter_eq_self]
    intro y hy
    simp only [decide_eq_true_eq]
    rintro rfl; exact ix_not hx hy
  | some i => simp only []; rw [keys_eraseIdx, erase_filter hn (ix_key hx)]
theorem keys_put {most k : Int} {v : α} {es : List (Int × α)} (hn : (keysOf es).Nodup) (hl : ((es.length : Nat) : Int) ≤ max most 1) :
    keysOf (putL most k v es) = (k :: (keysOf es).filter (fun x => decide (x ≠ k))).take (max most 1).toNat := by
  have hd := keys_drop (k := k) hn
  have hdl := dropL_len k es
  unfold putL
  split
  · rename_i hc
    rw [List.take_of_length_le]
    · unfold keysOf at hd ⊢; rw [List.map_cons, hd]
    · rw [← hd]; unfold keysOf; rw [List.length_cons, List.length_map]; simp only [List.length_cons] at hc; omega
  · rename_i hc
    simp only [List.length_cons] at hc
    have e : ((k, v) :: dropL k es).dropLast = ((k, v) :: dropL k es).take (max most 1).toNat := by
      rw [List.dropLast_eq_take, List.length_cons]
      congr 1; omega
    rw [e]
    unfold keysOf at hd ⊢
    rw [List.map_take, List.map_cons, hd]
theorem keys_get {k : Int} {es : List (Int × α)} {i : Nat} (hn : (keysOf es).Nodup) (h : ixF k es 0 = some i) : keysOf (getL k es) = k :: (keysOf es).filter (fun x => decide (x ≠ k)) := by
  obtain ⟨_, _, e, h1, h2⟩ := ixF_some h
  rw [Nat.sub_zero] at h1
  have : keysOf (getL k es) = e.1 :: keysOf (es.eraseIdx i) := by unfold getL; rw [h]; simp only [h1]; rfl
  rw [this, keys_eraseIdx, erase_filter hn (ix_key h), h2]
theorem front_nodup {k : Int} {ks : List Int} (hn : ks.Nodup) : (k :: ks.filter (fun x => decide (x ≠ k))).Nodup := by
  rw [List.nodup_cons]
  exact ⟨by simp, hn.filter _⟩
theorem put_nodup {most k : Int} {v : α} {es : List (Int × α)} (hn : (keysOf es).Nodup) (hl : ((es.length : Nat) : Int) ≤ max most 1) : (keysOf (putL most k v es)).Nodup := by
  rw [keys_put hn hl]
  exact (front_nodup hn).sublist (List.take_sublist _ _)
theorem get_nodup {k : Int} {es : List (Int × α)} (hn : (keysOf es).Nodup) : (keysOf (getL k es)).Nodup := by
  cases hx : ixF k es 0 with
  | none => unfold getL; rw [hx]; exact hn
  | some i => rw [keys_get hn hx]; exact front_nodup hn
theorem drop_nodup {k : Int} {es : List (Int × α)} (hn : (keysOf es).Nodup) : (keysOf (dropL k es)).Nodup := by
  rw [keys_drop hn]; exact hn.filter _
theorem keysOf_len (es : List (Int × α)) : (keysOf es).length = es.length := by simp [keysOf]

/-! ### which were used last -/
/-- Each once, the first ones. -/
def nub : List Int → List Int
  | [] => []
  | x :: r => x :: (nub r).filter (fun y => decide (y ≠ x))
theorem nub_mem : ∀ (r : List Int) (x : Int), x ∈ nub r ↔ x ∈ r
  | [], x => by simp [nub]
  | y :: r, x => by
    simp only [nub, List.mem_cons, List.mem_filter, nub_mem r x, decide_eq_true_eq]
    constructor
    · rintro (h | h)
      · exact .inl h
      · exact .inr h.1
    · rintro (h | h)
      · exact .inl h
      · by_cases e : x = y
        · exact .inl e
        · exact .inr ⟨h, e⟩
theorem nub_nodup : ∀ (r : List Int), (nub r).Nodup
  | [] => by simp [nub]
  | x :: r => by
    rw [nub]
    exact front_nodup (nub_nodup r)
theorem nub_snoc : ∀ (p : List Int) (x : Int), nub (p ++ [x]) = if x ∈ nub p then nub p else nub p ++ [x]
  | [], x => by simp [nub]
  | y :: p, x => by
    rw [List.cons_append, nub.eq_2 y (p ++ [x]), nub_snoc p x]
    by_cases hxy : x = y
    · subst hxy
      rw [if_pos (show x ∈ nub (x :: p) by simp [nub])]
      split
      · rw [nub]
      · rw [nub, List.filter_append]; simp
    · by_cases hm : x ∈ nub p
      · rw [if_pos hm, if_pos (show x ∈ nub (y :: p) by simp [nub, hm, hxy]), nub]
      · rw [if_neg hm, if_neg (show ¬ x ∈ nub (y :: p) by simp [nub, hm, hxy]), List.filter_append, nub]
        simp [hxy]
theorem filter_take_in {d : List Int} (hn : d.Nodup) : ∀ {n : Nat} {k : Int}, k ∈ d.take n → (d.take n).filter (fun x => decide (x ≠ k)) = (d.filter (fun x => decide (x ≠ k))).take (n - 1) := by
  induction d with
  | nil => intro n k h; simp at h
  | cons x d ih =>
    intro n k h
    rw [List.nodup_cons] at hn
    cases n with
    | zero => simp at h
    | succ n =>
      rw [List.take_succ_cons] at h ⊢
      rw [List.filter_cons, List.filter_cons]
      by_cases hx : x = k
      · subst hx
        simp only [ne_eq, not_true, decide_false, Bool.false_eq_true, if_false, Nat.add_sub_cancel]
        have e1 : d.filter (fun y => decide (¬ y = x)) = d := by
          rw [List.filter_eq_self]
          intro y hy
          simp only [decide_eq_true_eq]
          rintro rfl; exact hn.1 hy
        have e2 : (d.take n).filter (fun y => decide (¬ y = x)) = d.take n := by
          rw [List.filter_eq_self]
          intro y hy
          simp only [decide_eq_true_eq]
          rintro rfl; exact hn.1 (List.mem_of_mem_take hy)
        rw [e1, e2]
      · have hm : k ∈ d.take n := by
          rcases List.mem_cons.1 h with e | e
          · exact absurd e.symm hx
          · exact e
        have hn1 : 1 ≤ n := by
          rcases Nat.eq_zero_or_pos n with e | e
          · subst e; simp at hm
          · exact e
        have := ih hn.2 hm
        simp only [ne_eq, hx, not_false_iff, decide_true, if_true]
        simp only [ne_eq] at this
        rw [this, show n + 1 - 1 = (n - 1) + 1 by omega, List.take_succ_cons]
theorem filter_take_out {d : List Int} : ∀ {n : Nat} {k : Int}, k ∉ d.take n → (d.filter (fun x => decide (x ≠ k))).take n = d.take n := by
  induction d with
  | nil => intro n k h; simp
  | cons x d ih =>
    intro n k h
    cases n with
    | zero => simp
    | succ n =>
      rw [List.take_succ_cons] at h ⊢
      have h1 : x ≠ k := fun e => h (by simp [e])
      have h2 : k ∉ d.take n := fun e => h (by simp [e])
      rw [List.filter_cons, if_pos (by simpa using h1), List.take_succ_cons, ih h2]
/-- One more is used. -/
theorem use_step {n : Nat} (h1 : 1 ≤ n) (r : List Int) (k : Int) : ((nub r).take n |> fun ks => (k :: ks.filter (fun x => decide (x ≠ k))).take n) = (nub (k :: r)).take n := by
  obtain ⟨n, rfl⟩ : ∃ p, n = p + 1 := ⟨n - 1, by omega⟩
  rw [nub]
  show (k :: ((nub r).take (n + 1)).filter _).take (n + 1) = _
  rw [List.take_succ_cons, List.take_succ_cons]
  congr 1
  by_cases hk : k ∈ (nub r).take (n + 1)
  · rw [filter_take_in (nub_nodup r) hk, List.take_take]
    congr 1; omega
  · have e1 : ((nub r).take (n + 1)).filter (fun x => decide (x ≠ k)) = (nub r).take (n + 1) := by
      rw [List.filter_eq_self]
      intro y hy
      simp only [decide_eq_true_eq]
      rintro rfl; exact hk hy
    have h2 : k ∉ (nub r).take n := fun e => hk ((List.take_sublist_take_left (Nat.le_succ n)).subset e)
    rw [e1, filter_take_out h2, List.take_take]
    congr 1; omega
end Go.E
