/- Classes: what a text reads as (plain), and Go's reader. -/
import Derived.Test.YtpbnhcggfgegkaaDoorSE5
import Derived.Test.YtpbnhcggfgegkaaDoorHD
set_option linter.unusedVariables false
set_option linter.unusedSimpArgs false
namespace Go.E
open Go.H

/-- The byte that stands there; 0: none. -/
def nx (l : List UInt8) (i : Nat) : Nat := (l.getD i 0).toNat
theorem nx_lt (l : List UInt8) (i : Nat) : nx l i < 256 := by have := UInt8.toNat_lt (l.getD i 0); unfold nx; omega
theorem nx_out {l : List UInt8} {i : Nat} (h : l.length ≤ i) : nx l i = 0 := by
  unfold nx; rw [List.getD_eq_getElem?_getD, List.getElem?_eq_none h]; rfl
theorem bt_nx {s : ByteArray} {i : Nat} (h : i < s.size) : bt s (i : Int) = ((nx s.data.toList i : Nat) : Int) := by
  rw [bt_get (by simpa using h)]
  unfold nx
  have : i < s.data.toList.length := by simpa using h
  rw [List.getD_eq_getElem?_getD, List.getElem?_eq_getElem this]
  rfl

def special : List Nat := [92, 124, 42, 43, 63, 40, 41, 91, 93, 46, 94, 45]
def isSp (c : Nat) : Bool := special.contains c
/-- a digit of sixteen; 16: none -/
def dig (c : Nat) : Nat := if 48 ≤ c ∧ c ≤ 57 then c - 48 else if 97 ≤ c ∧ c ≤ 102 then c - 87 else 16
/-- A sign: its byte, and where it ends. -/
def sgn (l : List UInt8) (i : Nat) : Option (Nat × Nat) :=
  if l.length ≤ i then none
  else if nx l i ≠ 92 then
    if nx l i < 33 ∨ 126 < nx l i ∨ isSp (nx l i) = true then none else some (nx l i, i + 1)
  else if l.length ≤ i + 1 then none
  else if nx l (i + 1) = 120 then
    if l.length ≤ i + 2 ∨ dig (nx l (i + 2)) = 16 ∨ l.length ≤ i + 3 ∨ dig (nx l (i + 3)) = 16 then none
    else some (dig (nx l (i + 2)) * 16 + dig (nx l (i + 3)), i + 4)
  else if isSp (nx l (i + 1)) = true then some (nx l (i + 1), i + 2) else none
/-- A part: its first and last byte, and where it ends. -/
def prt (l : List UInt8) (i : Nat) : Option ((Nat × Nat) × Nat) :=
  match sgn l i with
  | none => none
  | some (a, n) =>
    if nx l n ≠ 45 then some ((a, a), n)
    else match sgn l (n + 1) with
      | none => none
      | some (b, n') => if b < a then none else some ((a, b), n')
def prts (l : List UInt8) : Nat → Nat → (Nat → Bool) → Option ((Nat → Bool) × Nat)
  | 0, _, _ => none
  | k + 1, i, S =>
    if nx l i = 93 then some (S, i + 1)
    else match prt l i with
      | none => none
      | some ((a, b), n) => prts l k n fun c => S c || fromTo a b c
def full : Nat → Bool := fun _ => true
/-- A class as it is read, an empty one too. -/
def cls0 (l : List UInt8) : Option ((Nat → Bool) × Nat) :=
  if nx l 0 = 46 then some ((fun b => !false), 1)
  else if nx l 0 = 91 then
    match prt l (if nx l 1 = 94 then 2 else 1) with
    | none => none
    | some ((a, b), n) =>
      match prts l (l.length + 1) n (fromTo a b) with
      | none => none
      | some (S, e) => some (if nx l 1 = 94 then (fun c => !S c) else S, e)
  else match sgn l 0 with
    | none => none
    | some (c, n) => some (fromTo c c, n)
def emptyS (S : Nat → Bool) : Bool := (List.range 256).all fun b => !S b
def cls (l : List UInt8) : Option ((Nat → Bool) × Nat) :=
  match cls0 l with
  | none => none
  | some (S, e) => if emptyS S = true then none else some (S, e)

theorem sgn_lt {l : List UInt8} {i c n : Nat} (h : sgn l i = some (c, n)) : c < 256 ∧ i < n ∧ n ≤ l.length := by
  unfold sgn at h
  have h1 := nx_lt l i
  have h2 := nx_lt l (i + 1)
  have hd : ∀ c, dig c ≤ 16 := by intro c; unfold dig; split <;> (try split) <;> omega
  split at h; · cases h
  split at h
  · split at h; · cases h
    cases h; omega
  split at h; · cases h
  split at h
  · split at h; · cases h
    rename_i hx
    simp only [not_or] at hx
    have d1 := hd (nx l (i + 2)); have d2 := hd (nx l (i + 3))
    cases h
    omega
  split at h
  · cases h; omega
  · cases h
theorem prt_lt {l : List UInt8} {i a b n : Nat} (h : prt l i = some ((a, b), n)) : a ≤ b ∧ b < 256 ∧ i < n ∧ n ≤ l.length := by
  unfold prt at h
  cases h1 : sgn l i with
  | none => rw [h1] at h; cases h
  | some x =>
    obtain ⟨a1, n1⟩ := x
    rw [h1] at h
    have k1 := sgn_lt h1
    dsimp only at h
    split at h
    · cases h; omega
    · cases h2 : sgn l (n1 + 1) with
      | none => rw [h2] at h; cases h
      | some y =>
        obtain ⟨b1, n2⟩ := y
        rw [h2] at h
        have k2 := sgn_lt h2
        dsimp only at h
        split at h
        · cases h
        · cases h; omega
end Go.E
