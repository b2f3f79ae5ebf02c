/- Classes, plain: what signs, parts and lists of parts read as. -/
import Derived.Test.YtpbnhcggfgegkaaDoorKL1
set_option linter.unusedVariables false
set_option linter.unusedSimpArgs false
set_option maxRecDepth 20000
namespace Go.E
open Go.H
attribute [local irreducible] BiN MkS ConvN LookN MapUpN CallV HC limb dbTab

theorem nx_drop (l : List UInt8) (i k : Nat) : nx (l.drop i) k = nx l (i + k) := by
  unfold nx
  rw [List.getD_eq_getElem?_getD, List.getD_eq_getElem?_getD, List.getElem?_drop]
theorem nx_cons0 (x : UInt8) (l : List UInt8) : nx (x :: l) 0 = x.toNat := rfl
theorem nx_cons (x : UInt8) (l : List UInt8) (i : Nat) : nx (x :: l) (i + 1) = nx l i := by unfold nx; simp
theorem sgn_drop (l : List UInt8) (i : Nat) : sgn l i = (sgn (l.drop i) 0).map fun p => (p.1, i + p.2) := by
  by_cases hi : l.length ≤ i
  · unfold sgn
    rw [if_pos hi, if_pos (by rw [List.length_drop]; omega)]; rfl
  · unfold sgn
    simp only [nx_drop, List.length_drop, Nat.zero_add, Nat.add_zero]
    have e0 : (l.length - i ≤ 0) ↔ (l.length ≤ i) := by omega
    have e1 : (l.length - i ≤ 1) ↔ (l.length ≤ i + 1) := by omega
    have e2 : (l.length - i ≤ 2) ↔ (l.length ≤ i + 2) := by omega
    have e3 : (l.length - i ≤ 3) ↔ (l.length ≤ i + 3) := by omega
    simp only [e0, e1, e2, e3, if_neg hi]
    split
    · split <;> simp
    · split
      · rfl
      · split
        · split <;> simp
        · split <;> simp
theorem sgn_at {l t rest : List UInt8} {i c n : Nat} (h : l.drop i = t ++ rest) (k : sgn (t ++ rest) 0 = some (c, n)) : sgn l i = some (c, i + n) := by
  rw [sgn_drop, h, k]; rfl
/-- A sign in sixteens. -/
def hx (c : Nat) : List UInt8 := [92, 120, hexd (c / 16), hexd (c % 16)]
theorem dig_hexd : ∀ k, k < 16 → dig (hexd k).toNat = k := by decide +kernel
theorem sgn_hx {c : Nat} (hc : c < 256) (rest : List UInt8) : sgn (hx c ++ rest) 0 = some (c, 4) := by
  unfold sgn hx
  have d1 := dig_hexd (c / 16) (by omega)
  have d2 := dig_hexd (c % 16) (by omega)
  have n0 : nx (([92, 120, hexd (c / 16), hexd (c % 16)] : List UInt8) ++ rest) 0 = 92 := rfl
  have n1 : nx (([92, 120, hexd (c / 16), hexd (c % 16)] : List UInt8) ++ rest) (0 + 1) = 120 := rfl
  have n2 : nx (([92, 120, hexd (c / 16), hexd (c % 16)] : List UInt8) ++ rest) (0 + 2) = (hexd (c / 16)).toNat := rfl
  have n3 : nx (([92, 120, hexd (c / 16), hexd (c % 16)] : List UInt8) ++ rest) (0 + 3) = (hexd (c % 16)).toNat := rfl
  rw [n0, n1, n2, n3, d1, d2]
  have hl : (([92, 120, hexd (c / 16), hexd (c % 16)] : List UInt8) ++ rest).length = rest.length + 4 := by simp
  rw [hl, if_neg (by omega), if_neg (by simp), if_neg (by omega), if_pos rfl, if_neg (by omega)]
  have : c / 16 * 16 + c % 16 = c := by omega
  rw [this]
theorem toNat_of {c : Nat} (hc : c < 256) : (UInt8.ofNat c).toNat = c := by simp [UInt8.toNat_ofNat']; omega
theorem isSp120 : isSp 120 = false := by decide
theorem isSp92 : isSp 92 = true := by decide
theorem sgn_sgT {c : Nat} (hc : c < 256) (rest : List UInt8) : sgn (sgT c ++ rest) 0 = some (c, (sgT c).length) := by
  unfold sgT
  by_cases h1 : c < 33 ∨ 126 < c
  · rw [if_pos h1]; exact sgn_hx hc rest
  rw [if_neg h1]
  by_cases h2 : isSp c = true
  · rw [if_pos h2]
    unfold sgn
    have n0 : nx (([92, UInt8.ofNat c] : List UInt8) ++ rest) 0 = 92 := rfl
    have n1 : nx (([92, UInt8.ofNat c] : List UInt8) ++ rest) (0 + 1) = c := toNat_of hc
    have hl : (([92, UInt8.ofNat c] : List UInt8) ++ rest).length = rest.length + 2 := by simp
    have hx : c ≠ 120 := by rintro rfl; rw [isSp120] at h2; cases h2
    rw [n0, n1, hl, if_neg (by omega), if_neg (by simp), if_neg (by omega), if_neg hx, if_pos h2]
    rfl
  · rw [if_neg h2]
    unfold sgn
    have n0 : nx (([UInt8.ofNat c] : List UInt8) ++ rest) 0 = c := toNat_of hc
    have hl : (([UInt8.ofNat c] : List UInt8) ++ rest).length = rest.length + 1 := by simp
    have hx : c ≠ 92 := by rintro rfl; rw [isSp92] at h2; exact h2 rfl
    have hn : ¬(c < 33 ∨ 126 < c ∨ isSp c = true) := by
      rintro (h | h | h)
      · exact h1 (.inl h)
      · exact h1 (.inr h)
      · exact h2 h
    rw [n0, hl, if_neg (by omega), if_pos hx, if_neg hn]
    rfl
theorem sgT_first {c : Nat} (hc : c < 256) (rest : List UInt8) : nx (sgT c ++ rest) 0 ≠ 45 ∧ nx (sgT c ++ rest) 0 ≠ 93 ∧ nx (sgT c ++ rest) 0 ≠ 94 ∧ nx (sgT c ++ rest) 0 ≠ 46 ∧ nx (sgT c ++ rest) 0 ≠ 91 := by
  unfold sgT
  split
  · rw [show nx (([92, 120, hexd (c / 16), hexd (c % 16)] : List UInt8) ++ rest) 0 = 92 from rfl]; omega
  split
  · rw [show nx (([92, UInt8.ofNat c] : List UInt8) ++ rest) 0 = 92 from rfl]; omega
  · rename_i h
    rw [show nx (([UInt8.ofNat c] : List UInt8) ++ rest) 0 = c from toNat_of hc]
    refine ⟨?_, ?_, ?_, ?_, ?_⟩ <;> (rintro rfl; exact h (by decide))
/-- A text that reads as a part, behind anything and ahead of all that is no stroke. -/
structure PT (t : List UInt8) (a b : Nat) : Prop where
  len : 1 ≤ t.length
  first : ∀ rest, nx (t ++ rest) 0 ≠ 45 ∧ nx (t ++ rest) 0 ≠ 93 ∧ nx (t ++ rest) 0 ≠ 94
  read : ∀ l i rest, l.drop i = t ++ rest → nx rest 0 ≠ 45 → prt l i = some ((a, b), i + t.length)
theorem drop_more {l t rest : List UInt8} {i : Nat} (h : l.drop i = t ++ rest) : l.drop (i + t.length) = rest := by
  rw [← List.drop_drop, h, List.drop_left]
theorem nx_rest {l t rest : List UInt8} {i : Nat} (h : l.drop i = t ++ rest) : nx l (i + t.length) = nx rest 0 := by
  rw [← drop_more h, nx_drop]; rfl
theorem PT.one {t : List UInt8} {c : Nat} (hl : 1 ≤ t.length) (hf : ∀ rest, nx (t ++ rest) 0 ≠ 45 ∧ nx (t ++ rest) 0 ≠ 93 ∧ nx (t ++ rest) 0 ≠ 94)
    (hr : ∀ rest, sgn (t ++ rest) 0 = some (c, t.length)) : PT t c c where
  len := hl
  first := hf
  read l i rest h hn := by
    unfold prt
    rw [sgn_at h (hr rest)]
    dsimp only
    rw [nx_rest h, if_pos hn]
theorem PT.two {t u : List UInt8} {a b : Nat} (hab : a ≤ b) (hl : 1 ≤ t.length) (hf : ∀ rest, nx (t ++ rest) 0 ≠ 45 ∧ nx (t ++ rest) 0 ≠ 93 ∧ nx (t ++ rest) 0 ≠ 94)
    (ht : ∀ rest, sgn (t ++ rest) 0 = some (a, t.length)) (hu : ∀ rest, sgn (u ++ rest) 0 = some (b, u.length)) : PT (t ++ ([45] ++ u)) a b where
  len := by simp; omega
  first rest := by rw [List.append_assoc]; exact hf _
  read l i rest h hn := by
    rw [List.append_assoc] at h
    unfold prt
    rw [sgn_at h (ht _)]
    dsimp only
    have h2 := drop_more h
    have n1 : nx l (i + t.length) = 45 := by rw [nx_rest h]; rfl
    rw [n1, if_neg (by simp)]
    have h3 : l.drop (i + t.length + 1) = u ++ rest := by rw [← List.drop_drop, h2]; rfl
    rw [sgn_at h3 (hu _)]
    dsimp only
    rw [if_neg (by omega)]
    simp only [List.length_append, List.length_cons, List.length_nil]
    congr 2
    omega
theorem hx_first (c : Nat) (rest : List UInt8) : nx (hx c ++ rest) 0 ≠ 45 ∧ nx (hx c ++ rest) 0 ≠ 93 ∧ nx (hx c ++ rest) 0 ≠ 94 := by
  rw [show nx (hx c ++ rest) 0 = 92 from rfl]; omega
theorem sgT_len1 (c : Nat) : 1 ≤ (sgT c).length := by unfold sgT; split <;> (try split) <;> simp
theorem PT.hx {c : Nat} (hc : c < 256) : PT (hx c) c c := .one (by unfold Go.E.hx; simp) (hx_first c) (sgn_hx hc)
theorem PT.hx2 {a b : Nat} (hab : a ≤ b) (hb : b < 256) : PT (Go.E.hx a ++ ([45] ++ Go.E.hx b)) a b := .two hab (by unfold Go.E.hx; simp) (hx_first a) (sgn_hx (by omega)) (sgn_hx hb)
theorem PT.sg {c : Nat} (hc : c < 256) : PT (sgT c) c c := .one (sgT_len1 c) (fun r => ⟨(sgT_first hc r).1, (sgT_first hc r).2.1, (sgT_first hc r).2.2.1⟩) (sgn_sgT hc)
theorem PT.sg2 {a b : Nat} (hab : a ≤ b) (hb : b < 256) : PT (sgT a ++ ([45] ++ sgT b)) a b :=
  have hc : a < 256 := by omega
  .two hab (sgT_len1 a) (fun r => ⟨(sgT_first hc r).1, (sgT_first hc r).2.1, (sgT_first hc r).2.2.1⟩) (sgn_sgT (by omega)) (sgn_sgT hb)

abbrev Tok := List UInt8 × Nat × Nat
def tokT (ts : List Tok) : List UInt8 := ts.flatMap (·.1)
def tokS (ts : List Tok) (c : Nat) : Bool := ts.any fun x => fromTo x.2.1 x.2.2 c
theorem tokT_first {ts : List Tok} (h : ∀ x ∈ ts, PT x.1 x.2.1 x.2.2) (more : List UInt8) : nx (tokT ts ++ 93 :: more) 0 ≠ 45 ∧ nx (tokT ts ++ 93 :: more) 0 ≠ 94 := by
  cases ts with
  | nil => rw [show nx (tokT [] ++ 93 :: more) 0 = 93 from rfl]; omega
  | cons x ts =>
    have := (h x (by simp)).first (tokT ts ++ 93 :: more)
    unfold tokT at this ⊢
    rw [List.flatMap_cons, List.append_assoc]
    exact ⟨this.1, this.2.2⟩
theorem tokT_len {ts : List Tok} (h : ∀ x ∈ ts, PT x.1 x.2.1 x.2.2) : ts.length ≤ (tokT ts).length := by
  induction ts with
  | nil => simp
  | cons x ts ih =>
    have := (h x (by simp)).len
    have := ih fun y hy => h y (by simp [hy])
    unfold tokT at this ⊢
    rw [List.flatMap_cons, List.length_append, List.length_cons]
    omega
theorem prts_toks {l more : List UInt8} : ∀ {ts : List Tok} {i N : Nat} {S : Nat → Bool}, (∀ x ∈ ts, PT x.1 x.2.1 x.2.2) → l.drop i = tokT ts ++ 93 :: more → ts.length < N →
    prts l N i S = some (fun c => S c || tokS ts c, i + (tokT ts).length + 1) := by
  intro ts
  induction ts with
  | nil =>
    intro i N S _ hd hN
    cases N with
    | zero => simp at hN
    | succ N =>
      unfold prts
      have : nx l i = 93 := by have := nx_rest (t := []) (i := i) hd; exact this
      rw [if_pos this]
      simp [tokS, tokT]
  | cons x ts ih =>
    intro i N S h hd hN
    cases N with
    | zero => simp at hN
    | succ N =>
      have hx := h x (by simp)
      have ht : ∀ y ∈ ts, PT y.1 y.2.1 y.2.2 := fun y hy => h y (by simp [hy])
      have hd' : l.drop i = x.1 ++ (tokT ts ++ 93 :: more) := by rw [hd]; unfold tokT; rw [List.flatMap_cons, List.append_assoc]
      have n0 : nx l i ≠ 93 := by
        have := (hx.first (tokT ts ++ 93 :: more)).2.1
        rw [← hd', nx_drop] at this; exact this
      unfold prts
      rw [if_neg n0, hx.read l i _ hd' (tokT_first ht more).1]
      dsimp only
      rw [ih ht (drop_more hd') (by simp at hN; omega)]
      congr 2
      · funext c
        unfold tokS
        rw [List.any_cons, Bool.or_assoc]
      · unfold tokT
        rw [List.flatMap_cons, List.length_append]; omega
theorem cls_toks {ts : List Tok} {more : List UInt8} (h : ∀ x ∈ ts, PT x.1 x.2.1 x.2.2) (hne : ts ≠ []) (other : Bool) :
    cls0 ((if other = true then [91, 94] else [91]) ++ (tokT ts ++ 93 :: more)) = some (fun c => if other = true then !(tokS ts c) else tokS ts c, (if other = true then 2 else 1) + (tokT ts).length + 1) := by
  obtain ⟨l, el⟩ : ∃ l, l = (if other = true then [91, 94] else [91]) ++ (tokT ts ++ 93 :: more) := ⟨_, rfl⟩
  rw [← el]
  have n0 : nx l 0 = 91 := by rw [el]; cases other <;> rfl
  have n1 : (nx l 1 = 94) = (other = true) := by
    rw [el]
    cases other
    · rw [if_neg (by simp), show nx (([91] : List UInt8) ++ (tokT ts ++ 93 :: more)) 1 = nx (tokT ts ++ 93 :: more) 0 from rfl]
      simp [(tokT_first h more).2]
    · simp; rfl
  have hlen : ts.length < l.length + 1 := by
    have := tokT_len h
    rw [el]; simp; omega
  cases ts with
  | nil => exact absurd rfl hne
  | cons x ts =>
    have hx := h x (by simp)
    have ht : ∀ y ∈ ts, PT y.1 y.2.1 y.2.2 := fun y hy => h y (by simp [hy])
    have hd' : l.drop (if other = true then 2 else 1) = x.1 ++ (tokT ts ++ 93 :: more) := by
      rw [el]
      have : tokT (x :: ts) ++ 93 :: more = x.1 ++ (tokT ts ++ 93 :: more) := by unfold tokT; rw [List.flatMap_cons, List.append_assoc]
      rw [this]
      cases other <;> rfl
    unfold cls0
    rw [if_neg (by omega), if_pos n0]
    simp only [n1]
    rw [hx.read l _ _ hd' (tokT_first ht more).1]
    dsimp only
    rw [prts_toks ht (drop_more hd') (by simp at hlen; omega)]
    dsimp only
    congr 2
    · funext c
      unfold tokS
      rw [List.any_cons]
      cases other <;> rfl
    · unfold tokT
      rw [List.flatMap_cons, List.length_append]; omega
end Go.E
