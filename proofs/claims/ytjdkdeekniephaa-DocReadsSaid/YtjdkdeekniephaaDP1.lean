/- A text over a file, plain: which pages bytes ask for, and what they are. -/
import Derived.Test.YtjdkdeekniephaaFI4
import Derived.Test.YtjdkdeekniephaaPC0
set_option linter.unusedVariables false
set_option linter.unusedSimpArgs false
namespace Go.E
open Go.H Go.E.Pz

/-- A window on one kind of bytes. -/
def Pz.Pc.lo (p : Pc) : Nat := p.f.toNat
def Pz.Pc.hi (p : Pc) : Nat := p.t.toNat
/-- The pages of a piece. -/
def ppg (w : Nat) (p : Pc) : List Int := if p.a = true then [] else pgs w p.lo (npg w p.lo p.hi)
/-- The pages of pieces. -/
def fpg (w : Nat) (ps : List Pc) : List Int := ps.flatMap (ppg w)
/-- What a piece spells. -/
def psp (base ad : List UInt8) (p : Pc) : List UInt8 := if p.a = true then seg ad p.lo p.hi else seg base p.lo p.hi
def spP (base ad : List UInt8) (ps : List Pc) : List UInt8 := ps.flatMap (psp base ad)
theorem fpg_cons (w : Nat) (p : Pc) (ps : List Pc) : fpg w (p :: ps) = ppg w p ++ fpg w ps := by simp [fpg]
theorem spP_cons (base ad : List UInt8) (p : Pc) (ps : List Pc) : spP base ad (p :: ps) = psp base ad p ++ spP base ad ps := by simp [spP]
theorem goP_cons (f : Int → Bool) (most : Int) (i : Int) (r ks log : List Int) : goP f most (i :: r) ks log = if i ∈ ks then goP f most r (useK i ks) log else if f i = true then (ks, log ++ [i], false) else goP f most r (putK most i ks) (log ++ [i]) := rfl
theorem goP_append {f : Int → Bool} {most : Int} : ∀ (l r ks log : List Int), goP f most (l ++ r) ks log = if (goP f most l ks log).2.2 = true then goP f most r (goP f most l ks log).1 (goP f most l ks log).2.1 else goP f most l ks log
  | [], r, ks, log => by simp [goP]
  | i :: l, r, ks, log => by
    rw [List.cons_append, goP_cons, goP_cons]
    split
    · exact goP_append l r _ _
    · split
      · simp
      · exact goP_append l r _ _
/-- What is read is among what is asked for. -/
theorem goP_sub {f : Int → Bool} {most : Int} : ∀ (l ks log : List Int) (x : Int), x ∈ (goP f most l ks log).2.1 → x ∈ log ∨ x ∈ l
  | [], ks, log, x, h => .inl h
  | i :: l, ks, log, x, h => by
    unfold goP at h
    split at h
    · exact (goP_sub l _ _ x h).imp id (fun h => List.mem_cons_of_mem _ h)
    · split at h
      · rcases List.mem_append.mp h with h | h
        · exact .inl h
        · exact .inr (by rw [List.mem_singleton] at h; rw [h]; exact List.mem_cons_self)
      · rcases goP_sub l _ _ x h with h | h
        · rcases List.mem_append.mp h with h | h
          · exact .inl h
          · exact .inr (by rw [List.mem_singleton] at h; rw [h]; exact List.mem_cons_self)
        · exact .inr (List.mem_cons_of_mem _ h)
/-- No page that can't be read is kept: it fails just if one is asked for. -/
theorem goP_fails {f : Int → Bool} {most : Int} : ∀ (l ks log : List Int), (∀ k ∈ ks, f k = false) → ((goP f most l ks log).2.2 = true ↔ ∀ i ∈ l, f i = false)
  | [], ks, log, _ => by simp [goP]
  | i :: l, ks, log, h => by
    unfold goP
    have hu : ∀ k ∈ ks, f k = false := h
    split
    · rename_i hm
      have hi := h i hm
      rw [goP_fails l (useK i ks) log (fun k hk => (mem_useK.mp hk).elim (fun e => by rw [e]; exact hi) (h k))]
      simp [hi]
    · split
      · rename_i hf
        simp [hf]
      · rename_i hf
        have hf : f i = false := by simpa using hf
        rw [goP_fails l (putK most i ks) (log ++ [i]) (fun k hk => (mem_useK.mp (List.mem_of_mem_take hk)).elim (fun e => by rw [e]; exact hf) (h k))]
        simp [hf]
theorem npg_bytes {w a b : Nat} (hw : 1 ≤ w) : npg w a b ≤ b - a := by
  unfold npg
  split
  · rename_i h
    have h1 : (b - 1) / w ≤ a / w + (b - 1 - a) := by
      rw [Nat.div_le_iff_le_mul_add_pred (by omega)]
      have h2 : a < a / w * w + w := Nat.lt_div_mul_add (by omega)
      have h3 : (b - 1 - a) ≤ w * (b - 1 - a) := Nat.le_mul_of_pos_left _ (by omega)
      have h4 : w * (a / w + (b - 1 - a)) = a / w * w + w * (b - 1 - a) := by rw [Nat.mul_add, Nat.mul_comm w (a / w)]
      omega
    generalize (b - 1) / w = y at h1
    generalize a / w = z at h1
    omega
  · omega
theorem ppg_len {w : Nat} (hw : 1 ≤ w) (p : Pc) : (ppg w p).length ≤ p.hi - p.lo := by
  unfold ppg
  split
  · simp
  · rw [pgs_len]; exact npg_bytes hw
theorem pgs_mem0 {w a n : Nat} {x : Int} (h : x ∈ pgs w a n) : ∃ j, j < n ∧ x = ((a / w + j : Nat) : Int) := by
  unfold pgs at h
  rw [List.mem_map] at h
  obtain ⟨y, hy, rfl⟩ := h
  rw [List.mem_range'] at hy
  obtain ⟨i, hi, rfl⟩ := hy
  exact ⟨i, hi, by rw [Nat.one_mul]⟩
/-- Which pages are asked for: those that hold a byte. -/
theorem pgs_iff {w a b : Nat} {x : Int} (hw : 1 ≤ w) : x ∈ pgs w a (npg w a b) ↔ ∃ i : Nat, a ≤ i ∧ i < b ∧ x = ((i / w : Nat) : Int) := by
  constructor
  · intro h
    obtain ⟨j, hj, rfl⟩ := pgs_mem0 h
    obtain ⟨h1, h2⟩ := (npg_lt hw).mp hj
    by_cases h0 : (a / w + j) * w ≤ a
    · refine ⟨a, Nat.le_refl _, h1, ?_⟩
      have h3 : a / w + j ≤ a / w := (Nat.le_div_iff_mul_le (by omega)).mpr h0
      have : j = 0 := by generalize a / w = z at h3; omega
      rw [this]; rfl
    · refine ⟨(a / w + j) * w, by omega, h2, ?_⟩
      rw [Nat.mul_div_cancel _ (by omega)]
  · rintro ⟨i, h1, h2, rfl⟩
    have h3 : a / w ≤ i / w := Nat.div_le_div_right h1
    have h4 : i / w * w ≤ i := Nat.div_mul_le_self i w
    unfold pgs
    rw [List.mem_map]
    refine ⟨i / w, ?_, rfl⟩
    rw [List.mem_range']
    refine ⟨i / w - a / w, ?_, by generalize i / w = y at h3; generalize a / w = z at h3; omega⟩
    rw [npg_lt hw]
    refine ⟨by omega, ?_⟩
    rw [show a / w + (i / w - a / w) = i / w by generalize i / w = y at h3; generalize a / w = z at h3; omega]
    omega
end Go.E
