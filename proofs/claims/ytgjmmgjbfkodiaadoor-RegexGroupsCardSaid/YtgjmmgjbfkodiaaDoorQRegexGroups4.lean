/- This project's own logic, printed forms and lemmas, as far as this claim needs them (part 4). -/
import Derived.Test.YtgjmmgjbfkodiaaDoorQRegexGroups3
set_option linter.unusedVariables false
set_option linter.unusedSimpArgs false
namespace Go.E
open Go.H
theorem dbTab_len : dbTab.length = 64 := by decide
attribute [local irreducible] BiN MkS ConvN LookN MapUpN CallV HC limb dbTab
/-- The first place of a byte; -1: none. -/
def ixB (s : ByteArray) (c : Nat) : Int :=
  match (List.range s.size).find? fun i => s[i]! == UInt8.ofNat c with
  | some i => (i : Int)
  | none => -1
theorem pt_index {s : ByteArray} {c : Nat} (hc : c < 256) {m : Mem} {Q : Value → Mem → Prop} {E : Value → Mem → Prop} (k : Q (.int .i64 (ixB s c)) m) :
    pt P (Extern.BytealgIndexByte.indexByte #[.string s, .int .u8 (c : Int)]) Q E m := by
  have h : (Extern.BytealgIndexByte.indexByte #[.string s, .int .u8 (c : Int)]) = (match (List.range s.size).find? fun i => s[i]! == UInt8.ofNat c with
    | some i => pure (goInt i)
    | none => pure (goInt (-1)) : Sem Value) := rfl
  rw [h]
  unfold ixB at k
  cases hx : (List.range s.size).find? fun i => s[i]! == UInt8.ofNat c with
  | some i => rw [hx] at k; exact k
  | none => rw [hx] at k; exact k
theorem Bytealg_spec {s : ByteArray} {c : Nat} (hc : c < 256) {m : Mem} {R : Ending → Mem → Prop} (k : R (.returned (.int .i64 (ixB s c))) m) :
    HC P internal_bytealg_IndexByteString.id #[.string s, .int .u8 (c : Int)] m R := by
  have hf : P.funcs[internal_bytealg_IndexByteString.id]? = some Go.Proofs.Tryd.f85 := Go.Proofs.Tryd.func85
  have hn : (Go.Proofs.Tryd.f85.name == "runtime.NumGoroutine") = false := by kernel_rfl
  have hb : Go.Proofs.Tryd.f85.body.isNone = true := by kernel_rfl
  have hx : Extern.findNext Go.Proofs.Tryd.f85 = none := by kernel_rfl
  have hy : Extern.find Go.Proofs.Tryd.f85 = some Extern.BytealgIndexByte.indexByte := by kernel_rfl
  unfold HC
  refine .inr ?_
  generalize hov : Extern.BytealgIndexByte.indexByte = ov at hy
  have key : pt P (ov #[.string s, .int .u8 (c : Int)]) (fun v m' => R (.returned v) m') (fun v m' => R (.panicked [{ v := v, recovered := false }]) m') m := by
    subst hov
    exact pt_index hc k
  unfold callFunc
  rw [pt_bind]
  show pt P (Sem.program .pure) _ _ m
  simp only [pt]
  rw [hf]
  simp only [hn, Bool.false_eq_true, if_false, hb, if_true]
  rw [pt_bind]
  show pt P (Sem.mark _ (Sem.pure ())) _ _ m
  simp only [pt, hx, hy]
  rw [pt_bind]
  exact key
theorem IndexByte_spec {s : ByteArray} {c : Nat} (hc : c < 256) {m : Mem} {R : Ending → Mem → Prop} (k : R (.returned (.int .i64 (ixB s c))) m) :
    HC P strings_IndexByte.id #[.string s, .int .u8 (c : Int)] m R := by
  refine strings_IndexByte.ok _ _ _ _ ?_
  refine internal_stringslite_IndexByte.ok _ _ _ _ ?_
  refine Bytealg_spec hc ?_
  dsimp only [Cont]
  exact UnI.mk (UnI.mk k)
/-- The package variable 'math/bits.deBruijn64tab' is laid. -/
def Glob (m : Mem) : Prop := CellsAt m (some ⟨1, 0, none⟩) (dbTab.map fun (x : Nat) => Value.int .u8 (x : Int))
theorem Glob.le {m m' : Mem} (h : Glob m) (k : Le m m') : Glob m' := CellsAt.le k h
theorem TZ_spec {n t : Nat} (hn : n < 18446744073709551616) (ht : n.testBit t = true) (hl : ∀ j, j < t → n.testBit j = false) {m : Mem} (hG : Glob m) {R : Ending → Mem → Prop}
    (k : R (.returned (.int .i64 (t : Int))) m) : HC P math_bits_TrailingZeros64.id #[.int .u64 (n : Int)] m R := by
  refine math_bits_TrailingZeros64.ok _ _ _ ?_
  have h0 : n ≠ 0 := by intro e; subst e; simp at ht
  obtain ⟨h64, hi⟩ := tz_index hn ht hl
  have hdb := db_at t h64
  unfold math_bits_TrailingZeros64.e0
  refine BrEf (by omega) ?_
  rw [hi]
  generalize 2 ^ t * 285870213051353865 % 18446744073709551616 / 288230376151711744 = j at hdb
  have hlt : j < 64 := by
    have : j < dbTab.length := by
      apply Decidable.byContradiction; intro h
      rw [List.getElem?_eq_none (by omega)] at hdb; cases hdb
    have h64 := dbTab_len
    omega
  refine ⟨by omega, by omega, ?_⟩
  have hc := hG j (.int .u8 (t : Int)) (by rw [List.getElem?_map, hdb]; rfl)
  refine LdV.mk (v := .int .u8 (t : Int)) (by rw [show 0 + (j : Int).toNat * 1 = 0 + j by omega]; exact hc) ?_
  refine UnI.mk ?_
  rw [wi (by omega) (by omega)]
  exact k
theorem Least_some {f : Nat → Bool} {t : Nat} (ht : t < 256) (hf : f t = true) (hl : ∀ j, j < t → f j = false) {m : Mem} (hG : Glob m) {R : Ending → Mem → Prop}
    (k : ∀ m', Le m m' → R (.returned (.tuple #[.int .u8 (t : Int), .bool true])) m') : HC P class_Least.id #[setv f] m R := by
  refine class_Least.ok _ _ _ _ _ _ ?_
  intro b1 hb1
  refine get4 (set_same _ _ _) ?_
  have hle := Le.set hb1 (.cells (cells4 f) T_api_Set (0, 0))
  have hG' := hG.le hle
  refine ⟨fun N x0 x1 x2 x3 i mm => x0 = L f 0 ∧ x1 = L f 1 ∧ x2 = L f 2 ∧ x3 = L f 3 ∧ mm = m.set b1 (.cells (cells4 f) T_api_Set (0, 0)) ∧ ∃ j : Nat, i = j ∧ N = 4 - j ∧ j ≤ t / 64, 4,
    ⟨rfl, rfl, rfl, rfl, rfl, 0, rfl, rfl, by omega⟩, ?_⟩
  rintro N x0 x1 x2 x3 i mm ⟨rfl, rfl, rfl, rfl, rfl, j, rfl, rfl, hj⟩
  refine BrDt (by omega) ?_
  have hget : [L f 0, L f 1, L f 2, L f 3].getD (j : Int).toNat 0 = L f j := by
    have : j = 0 ∨ j = 1 ∨ j = 2 ∨ j = 3 := by omega
    rcases this with rfl | rfl | rfl | rfl <;> rfl
  refine ⟨by omega, by show (j : Int) < 4; omega, ?_⟩
  rw [hget]
  by_cases e : j = t / 64
  · have hb : (limb f j).testBit (t % 64) = true := by rw [limb_test f j (by omega), show 64 * j + t % 64 = t by omega]; exact hf
    have hlo : ∀ i, i < t % 64 → (limb f j).testBit i = false := by
      intro i hi; rw [limb_test f j (by omega)]; exact hl _ (by omega)
    have h0 : limb f j ≠ 0 := by intro e; rw [e] at hb; simp at hb
    refine BrNt (by unfold L; omega) ?_
    refine TZ_spec (limb_lt f j) hb hlo hG' ?_
    dsimp only [Cont]
    refine UnI.mk ?_
    rw [wi (n := 64 * (j : Int)) (by omega) (by omega), wi (by omega) (by omega), IntKind.wrap_u8, show (64 * (j : Int) + ((t % 64 : Nat) : Int)) % 256 = (t : Int) by omega]
    exact k _ hle
  · have h0 : limb f j = 0 := by
      have : (0 : Nat) = limb f j := limb_ext (by omega) fun i hi => by rw [hl _ (by omega)]; simp
      exact this.symm
    refine BrNf (by unfold L; omega) ?_
    refine ⟨_, ?_, rfl, rfl, rfl, rfl, rfl, j + 1, ?_, rfl, by omega⟩
    · omega
    · rw [wi (by omega) (by omega)]; omega
theorem Least_none {f : Nat → Bool} (hf : ∀ b, b < 256 → f b = false) {m : Mem} {R : Ending → Mem → Prop}
    (k : ∀ m', Le m m' → R (.returned (.tuple #[.int .u8 0, .bool false])) m') : HC P class_Least.id #[setv f] m R := by
  refine class_Least.ok _ _ _ _ _ _ ?_
  intro b1 hb1
  refine get4 (set_same _ _ _) ?_
  have hle := Le.set hb1 (.cells (cells4 f) T_api_Set (0, 0))
  refine ⟨fun N x0 x1 x2 x3 i mm => x0 = L f 0 ∧ x1 = L f 1 ∧ x2 = L f 2 ∧ x3 = L f 3 ∧ mm = m.set b1 (.cells (cells4 f) T_api_Set (0, 0)) ∧ ∃ j : Nat, i = j ∧ N = 4 - j ∧ j ≤ 4, 4,
    ⟨rfl, rfl, rfl, rfl, rfl, 0, rfl, rfl, by omega⟩, ?_⟩
  rintro N x0 x1 x2 x3 i mm ⟨rfl, rfl, rfl, rfl, rfl, j, rfl, rfl, hj⟩
  refine BrD (fun hlt => ?_) (fun hge => k _ hle)
  have hget : [L f 0, L f 1, L f 2, L f 3].getD (j : Int).toNat 0 = L f j := by
    have : j = 0 ∨ j = 1 ∨ j = 2 ∨ j = 3 := by omega
    rcases this with rfl | rfl | rfl | rfl <;> rfl
  refine ⟨by omega, by show (j : Int) < 4; omega, ?_⟩
  rw [hget]
  have h0 : limb f j = 0 := by
    have : (0 : Nat) = limb f j := limb_ext (by omega) fun i hi => by rw [hf _ (by omega)]; simp
    exact this.symm
  refine BrNf (by unfold L; omega) ?_
  refine ⟨_, ?_, rfl, rfl, rfl, rfl, rfl, j + 1, ?_, rfl, by omega⟩
  · omega
  · rw [wi (by omega) (by omega)]; omega
end Go.E
set_option linter.unusedVariables false
set_option linter.unusedSimpArgs false
namespace Go.E
open Go.H
/-- The byte that stands there; 0: none. -/
def nx (l : List UInt8) (i : Nat) : Nat := (l.getD i 0).toNat
theorem nx_lt (l : List UInt8) (i : Nat) : nx l i < 256 := by have := UInt8.toNat_lt (l.getD i 0); unfold nx; omega
theorem nx_out {l : List UInt8} {i : Nat} (h : l.length ≤ i) : nx l i = 0 := by
  unfold nx; rw [List.getD_eq_getElem?_getD, List.getElem?_eq_none h]; rfl
theorem bt_nx {s : ByteArray} {i : Nat} (h : i < s.size) : bt s (i : Int) = ((nx s.data.toList i : Nat) : Int) := by
  rw [bt_get (by simpa using h)]
  unfold nx
  have : i < s.data.toList.length := by simpa using h
  rw [List.getD_eq_getElem?_getD, List.getElem?_eq_getElem this]
  rfl
def special : List Nat := [92, 124, 42, 43, 63, 40, 41, 91, 93, 46, 94, 45]
def isSp (c : Nat) : Bool := special.contains c
/-- a digit of sixteen; 16: none -/
def dig (c : Nat) : Nat := if 48 ≤ c ∧ c ≤ 57 then c - 48 else if 97 ≤ c ∧ c ≤ 102 then c - 87 else 16
/-- A sign: its byte, and where it ends. -/
def sgn (l : List UInt8) (i : Nat) : Option (Nat × Nat) :=
  if l.length ≤ i then none
  else if nx l i ≠ 92 then
    if nx l i < 33 ∨ 126 < nx l i ∨ isSp (nx l i) = true then none else some (nx l i, i + 1)
  else if l.length ≤ i + 1 then none
  else if nx l (i + 1) = 120 then
    if l.length ≤ i + 2 ∨ dig (nx l (i + 2)) = 16 ∨ l.length ≤ i + 3 ∨ dig (nx l (i + 3)) = 16 then none
    else some (dig (nx l (i + 2)) * 16 + dig (nx l (i + 3)), i + 4)
  else if isSp (nx l (i + 1)) = true then some (nx l (i + 1), i + 2) else none
/-- A part: its first and last byte, and where it ends. -/
def prt (l : List UInt8) (i : Nat) : Option ((Nat × Nat) × Nat) :=
  match sgn l i with
  | none => none
  | some (a, n) =>
    if nx l n ≠ 45 then some ((a, a), n)
    else match sgn l (n + 1) with
      | none => none
      | some (b, n') => if b < a then none else some ((a, b), n')
def prts (l : List UInt8) : Nat → Nat → (Nat → Bool) → Option ((Nat → Bool) × Nat)
  | 0, _, _ => none
  | k + 1, i, S =>
    if nx l i = 93 then some (S, i + 1)
    else match prt l i with
      | none => none
      | some ((a, b), n) => prts l k n fun c => S c || fromTo a b c
/-- A class as it is read, an empty one too. -/
def cls0 (l : List UInt8) : Option ((Nat → Bool) × Nat) :=
  if nx l 0 = 46 then some ((fun b => !false), 1)
  else if nx l 0 = 91 then
    match prt l (if nx l 1 = 94 then 2 else 1) with
    | none => none
    | some ((a, b), n) =>
      match prts l (l.length + 1) n (fromTo a b) with
      | none => none
      | some (S, e) => some (if nx l 1 = 94 then (fun c => !S c) else S, e)
  else match sgn l 0 with
    | none => none
    | some (c, n) => some (fromTo c c, n)
def emptyS (S : Nat → Bool) : Bool := (List.range 256).all fun b => !S b
def cls (l : List UInt8) : Option ((Nat → Bool) × Nat) :=
  match cls0 l with
  | none => none
  | some (S, e) => if emptyS S = true then none else some (S, e)
theorem sgn_lt {l : List UInt8} {i c n : Nat} (h : sgn l i = some (c, n)) : c < 256 ∧ i < n ∧ n ≤ l.length := by
  unfold sgn at h
  have h1 := nx_lt l i
  have h2 := nx_lt l (i + 1)
  have hd : ∀ c, dig c ≤ 16 := by intro c; unfold dig; split <;> (try split) <;> omega
  split at h; · cases h
  split at h
  · split at h; · cases h
    cases h; omega
  split at h; · cases h
  split at h
  · split at h; · cases h
    rename_i hx
    simp only [not_or] at hx
    have d1 := hd (nx l (i + 2)); have d2 := hd (nx l (i + 3))
    cases h
    omega
  split at h
  · cases h; omega
  · cases h
theorem prt_lt {l : List UInt8} {i a b n : Nat} (h : prt l i = some ((a, b), n)) : a ≤ b ∧ b < 256 ∧ i < n ∧ n ≤ l.length := by
  unfold prt at h
  cases h1 : sgn l i with
  | none => rw [h1] at h; cases h
  | some x =>
    obtain ⟨a1, n1⟩ := x
    rw [h1] at h
    have k1 := sgn_lt h1
    dsimp only at h
    split at h
    · cases h; omega
    · cases h2 : sgn l (n1 + 1) with
      | none => rw [h2] at h; cases h
      | some y =>
        obtain ⟨b1, n2⟩ := y
        rw [h2] at h
        have k2 := sgn_lt h2
        dsimp only at h
        split at h
        · cases h
        · cases h; omega
end Go.E
set_option linter.unusedVariables false
set_option linter.unusedSimpArgs false
namespace Go.E
open Go.H
attribute [local irreducible] BiN MkS ConvN LookN MapUpN CallV HC limb dbTab
abbrev rdr (m : Mem) (r : Nat) (s : ByteArray) (i : Nat) : Prop := m r = some (.cells #[.string s, .int .i64 (i : Int)] T_class_reader (0, 0))
abbrev refusal : Value := .iface T_class_refusal (.agg #[])
abbrev pan : Ending := .panicked [{ v := refusal, recovered := false }]
abbrev lst (s : ByteArray) : List UInt8 := s.data.toList
theorem lst_len (s : ByteArray) : (lst s).length = s.size := by simp [lst]
theorem next_spec {m : Mem} {r : Nat} {s : ByteArray} {i : Nat} (hr : rdr m r s i) {R : Ending → Mem → Prop} (k : R (.returned (.int .u8 (nx (lst s) i : Nat))) m) :
    HC P class_reader_next.id #[.pointer (some ⟨r, 0, none⟩)] m R := by
  refine class_reader_next.ok _ _ _ ?_
  refine ⟨m, Le.refl _, ?_⟩
  refine LdV.s1 hr (UnI.mk ?_)
  refine LdV.s0 hr (UnStr.mk ?_)
  refine BrD (fun hlt => ?_) (fun hge => ?_)
  · refine ⟨m, Le.refl _, ?_⟩
    refine LdV.s0 hr (UnStr.mk ?_)
    refine LdV.s1 hr (UnI.mk ?_)
    refine ⟨by omega, by omega, ?_⟩
    rw [bt_nx (by omega)]
    exact k
  · rw [nx_out (by rw [lst_len]; omega)] at k
    exact k
theorem take_spec {m : Mem} {r : Nat} {s : ByteArray} {i : Nat} (hr : rdr m r s i) (hs : s.size < 2 ^ 62) {R : Ending → Mem → Prop}
    (k : i < s.size → ∀ m', Chg (fun b => b = r) m m' → rdr m' r s (i + 1) → R (.returned (.int .u8 (nx (lst s) i : Nat))) m') (kp : s.size ≤ i → R pan m) :
    HC P class_reader_take.id #[.pointer (some ⟨r, 0, none⟩)] m R := by
  refine class_reader_take.ok _ _ _ ?_
  refine ⟨m, Le.refl _, ?_⟩
  refine LdV.s1 hr (UnI.mk ?_)
  refine LdV.s0 hr (UnStr.mk ?_)
  refine BrD (fun hge => kp (by omega)) (fun hlt => ?_)
  refine LdV.s1 hr (UnI.mk ?_)
  rw [wi (n := (i : Int) + 1) (by omega) (by omega)]
  refine St1.to #[.string s, .int .i64 ((i + 1 : Nat) : Int)] hr (by simp) rfl rfl ?_
  refine ⟨_, Le.refl _, ?_⟩
  have h2 : rdr (m.set r (.cells #[.string s, .int .i64 ((i + 1 : Nat) : Int)] T_class_reader (0, 0))) r s (i + 1) := set_same _ _ _
  refine LdV.s0 h2 (UnStr.mk ?_)
  refine LdV.s1 h2 (UnI.mk ?_)
  rw [wi (n := ((i + 1 : Nat) : Int) - 1) (by omega) (by omega), show ((i + 1 : Nat) : Int) - 1 = (i : Int) by omega]
  refine ⟨by omega, by omega, ?_⟩
  rw [bt_nx (by omega)]
  exact k (by omega) _ (Chg.set m r _) h2
theorem ix_sp : ∀ c, c < 256 → (0 ≤ ixB (ByteArray.mk #[92, 124, 42, 43, 63, 40, 41, 91, 93, 46, 94, 45]) c) = (isSp c = true) := by
  have h : ∀ c, c < 256 → (decide (0 ≤ ixB (ByteArray.mk #[92, 124, 42, 43, 63, 40, 41, 91, 93, 46, 94, 45]) c)) = isSp c := by decide +kernel
  intro c hc
  rw [← h c hc]; simp
theorem ix_hex : ∀ c, c < 256 → ixB (ByteArray.mk #[48, 49, 50, 51, 52, 53, 54, 55, 56, 57, 97, 98, 99, 100, 101, 102]) c = if dig c = 16 then -1 else (dig c : Int) := by decide +kernel
theorem dig_le (c : Nat) : dig c ≤ 16 := by unfold dig; split <;> (try split) <;> omega
theorem digit_spec {m : Mem} {r : Nat} {s : ByteArray} {i : Nat} (hr : rdr m r s i) (hs : s.size < 2 ^ 62) {R : Ending → Mem → Prop}
    (k : i < s.size → dig (nx (lst s) i) ≠ 16 → ∀ m', Chg (fun b => b = r) m m' → rdr m' r s (i + 1) → R (.returned (.int .u8 (dig (nx (lst s) i) : Nat))) m')
    (kp : (s.size ≤ i ∨ dig (nx (lst s) i) = 16) → ∀ m', Chg (fun b => b = r) m m' → R pan m') :
    HC P class_reader_digit.id #[.pointer (some ⟨r, 0, none⟩)] m R := by
  refine class_reader_digit.ok _ _ _ ?_
  refine take_spec hr hs (fun hi m' hch hr' => ?_) (fun hi => kp (.inl hi) m (Chg.refl _ _))
  dsimp only [Cont]
  refine UnI.mk ?_
  refine IndexByte_spec (nx_lt _ _) ?_
  dsimp only [Cont]
  refine UnI.mk ?_
  rw [ix_hex _ (nx_lt _ _)]
  have := dig_le (nx (lst s) i)
  by_cases h : dig (nx (lst s) i) = 16
  · rw [if_pos h]
    exact BrDt (by omega) (kp (.inr h) m' hch)
  · rw [if_neg h]
    refine BrDf (by omega) ?_
    rw [IntKind.wrap_u8, show ((dig (nx (lst s) i) : Nat) : Int) % 256 = (dig (nx (lst s) i) : Nat) by omega]
    exact k hi h m' hch hr'
theorem hex_join : ∀ a, a < 16 → ∀ b, b < 16 → bitsV .or .u8 (shlV .u8 ((a : Nat) : Int) 4) ((b : Nat) : Int) = ((a * 16 + b : Nat) : Int) := by decide +kernel
theorem sign_spec {m : Mem} {r : Nat} {s : ByteArray} {i : Nat} (hr : rdr m r s i) (hs : s.size < 2 ^ 62) {R : Ending → Mem → Prop}
    (k : ∀ c n, sgn (lst s) i = some (c, n) → ∀ m', Chg (fun b => b = r) m m' → rdr m' r s n → R (.returned (.int .u8 (c : Nat))) m')
    (kp : sgn (lst s) i = none → ∀ m', Chg (fun b => b = r) m m' → R pan m') :
    HC P class_reader_sign.id #[.pointer (some ⟨r, 0, none⟩)] m R := by
  refine class_reader_sign.ok _ _ _ ?_
  have hll := lst_len s
  unfold sgn at k kp
  refine take_spec hr hs (fun hi m1 hch1 hr1 => ?_) (fun hi => kp (by rw [if_pos (by omega)]) m (Chg.refl _ _))
  rw [if_neg (by omega)] at k kp
  dsimp only [Cont]
  refine UnI.mk ?_
  refine BrN (fun hne => ?_) (fun heq => ?_)
  · rw [if_pos (by omega)] at k kp
    refine BrD (fun h => kp (by rw [if_pos (.inl (by omega))]) m1 hch1) (fun h1 => ?_)
    refine BrD (fun h => kp (by rw [if_pos (.inr (.inl (by omega)))]) m1 hch1) (fun h2 => ?_)
    refine IndexByte_spec (nx_lt _ _) ?_
    dsimp only [Cont]
    refine UnI.mk ?_
    refine BrD (fun h => ?_) (fun h3 => ?_)
    · have h : 0 ≤ ixB _ (nx (lst s) i) := h
      rw [ix_sp _ (nx_lt _ _)] at h
      exact kp (by rw [if_pos (.inr (.inr h))]) m1 hch1
    · have h3 : ¬ (0 ≤ ixB _ (nx (lst s) i)) := h3
      rw [ix_sp _ (nx_lt _ _)] at h3
      exact k _ _ (by rw [if_neg (fun h => h.elim (fun h => by omega) (fun h => h.elim (fun h => by omega) (fun h => h3 h)))]) m1 hch1 hr1
  · rw [if_neg (by omega)] at k kp
    refine take_spec hr1 hs (fun hi2 m2 hch2 hr2 => ?_) (fun hi2 => kp (by rw [if_pos (by omega)]) m1 hch1)
    have hch2' := hch1.trans hch2 (fun _ _ e => e)
    rw [if_neg (by omega)] at k kp
    dsimp only [Cont]
    refine UnI.mk ?_
    refine BrE (fun hx => ?_) (fun hx => ?_)
    · rw [if_pos (by omega)] at k kp
      refine digit_spec hr2 hs (fun hi3 hd3 m3 hch3 hr3 => ?_) (fun h3 m3 hch3 => kp (by rw [if_pos (h3.elim (fun h => .inl (by omega)) (fun h => .inr (.inl h)))]) m3 (hch2'.trans hch3 (fun _ _ e => e)))
      dsimp only [Cont]
      refine UnI.mk ?_
      have hch3' := hch2'.trans hch3 (fun _ _ e => e)
      refine digit_spec hr3 hs (fun hi4 hd4 m4 hch4 hr4 => ?_) (fun h4 m4 hch4 => kp (by rw [if_pos (h4.elim (fun h => .inr (.inr (.inl (by omega)))) (fun h => .inr (.inr (.inr h))))]) m4 (hch3'.trans hch4 (fun _ _ e => e)))
      dsimp only [Cont]
      refine UnI.mk ?_
      have d3 := dig_le (nx (lst s) (i + 2)); have d4 := dig_le (nx (lst s) (i + 3))
      have e3 : dig (nx (lst s) (i + 2)) < 16 := by have hd3 : dig (nx (lst s) (i + 2)) ≠ 16 := hd3; omega
      have e4 : dig (nx (lst s) (i + 3)) < 16 := by have hd4 : dig (nx (lst s) (i + 3)) ≠ 16 := hd4; omega
      rw [hex_join _ e3 _ e4]
      exact k _ _ (by rw [if_neg (fun h => h.elim (fun h => by omega) (fun h => h.elim (fun h => hd3 h) (fun h => h.elim (fun h => by omega) (fun h => hd4 h))))]) m4 (hch3'.trans hch4 (fun _ _ e => e)) hr4
    · rw [if_neg (by omega)] at k kp
      refine IndexByte_spec (nx_lt _ _) ?_
      dsimp only [Cont]
      refine UnI.mk ?_
      refine BrD (fun h => ?_) (fun h3 => ?_)
      · have h : ixB _ (nx (lst s) (i + 1)) < 0 := h
        have h : ¬ (0 ≤ ixB (ByteArray.mk #[92, 124, 42, 43, 63, 40, 41, 91, 93, 46, 94, 45]) (nx (lst s) (i + 1))) := by omega
        rw [ix_sp _ (nx_lt _ _)] at h
        exact kp (by rw [if_neg h]) m2 hch2'
      · have h3 : ¬ ixB _ (nx (lst s) (i + 1)) < 0 := h3
        have h3 : (0 ≤ ixB (ByteArray.mk #[92, 124, 42, 43, 63, 40, 41, 91, 93, 46, 94, 45]) (nx (lst s) (i + 1))) := by omega
        rw [ix_sp _ (nx_lt _ _)] at h3
        exact k _ _ (by rw [if_pos h3]) m2 hch2' hr2
end Go.E
set_option linter.unusedVariables false
set_option linter.unusedSimpArgs false
namespace Go.E
open Go.H
attribute [local irreducible] BiN MkS ConvN LookN MapUpN CallV HC limb dbTab
abbrev z4 : Array Value := #[.int .u64 0, .int .u64 0, .int .u64 0, .int .u64 0]
/-- A result's own place, while the reader goes on. -/
structure Cel (m mm : Mem) (r b : Nat) (c : Array Value) : Prop where
  at_ : mm b = some (.cells c T_api_Set (0, 0))
  ne : b ≠ r
  new : m b = none
  ch : Chg (fun x => x = r) m mm
theorem Cel.mk0 {m : Mem} {r b : Nat} {c : Array Value} (hr : m r ≠ none) (hb : m b = none) : Cel m (m.set b (.cells c T_api_Set (0, 0))) r b c :=
  ⟨set_same _ _ _, fun e => hr (e ▸ hb), hb, (Le.set hb _).chg _⟩
theorem Cel.step {m mm m' : Mem} {r b : Nat} {c : Array Value} (h : Cel m mm r b c) (k : Chg (fun x => x = r) mm m') : Cel m m' r b c :=
  ⟨k.eq _ _ h.at_ h.ne, h.ne, h.new, h.ch.trans k (fun _ _ e => e)⟩
theorem Cel.le {m mm m' : Mem} {r b : Nat} {c : Array Value} (h : Cel m mm r b c) (k : Le mm m') : Cel m m' r b c := h.step (k.chg _)
theorem Cel.put {m mm : Mem} {r b : Nat} {c : Array Value} (h : Cel m mm r b c) (c' : Array Value) : Cel m (mm.set b (.cells c' T_api_Set (0, 0))) r b c' := by
  refine ⟨set_same _ _ _, h.ne, h.new, ?_⟩
  refine ⟨fun x o hx hn => ?_, fun x hx => ?_⟩
  · have : x ≠ b := fun e => by subst e; rw [h.new] at hx; cases hx
    rw [set_other _ _ this]
    exact h.ch.eq x o hx hn
  · by_cases e : x = b
    · subst e; rw [set_same]; simp
    · rw [set_other _ _ e]; exact h.ch.live x hx
theorem part_spec {m : Mem} {r : Nat} {s : ByteArray} {i : Nat} (hr : rdr m r s i) (hs : s.size < 2 ^ 62) {R : Ending → Mem → Prop}
    (k : ∀ a b n, prt (lst s) i = some ((a, b), n) → ∀ m', Chg (fun b => b = r) m m' → rdr m' r s n → R (.returned (setv (fromTo a b))) m')
    (kp : prt (lst s) i = none → ∀ m', Chg (fun b => b = r) m m' → R pan m') :
    HC P class_reader_part.id #[.pointer (some ⟨r, 0, none⟩)] m R := by
  refine class_reader_part.ok _ _ _ ?_
  intro b2 hb2
  have c0 := Cel.mk0 (r := r) (c := z4) (by rw [hr]; simp) hb2
  have hr0 : rdr (m.set b2 (.cells z4 T_api_Set (0, 0))) r s i := by show _ = _; rw [set_other _ _ c0.ne.symm]; exact hr
  unfold prt at k kp
  refine sign_spec hr0 hs (fun a n hsg m1 hch1 hr1 => ?_) (fun hsg m1 hch1 => kp (by rw [hsg]) m1 (c0.step hch1).ch)
  rw [hsg] at k kp
  dsimp only at k kp
  have ha := (sgn_lt hsg).1
  have c1 := c0.step hch1
  dsimp only [Cont]
  refine UnI.mk ?_
  refine next_spec hr1 ?_
  dsimp only [Cont]
  refine UnI.mk ?_
  refine BrN (fun hne => ?_) (fun heq => ?_)
  · rw [if_pos (by omega)] at k
    refine run_spec ha ha ?_
    intro m2 hle2
    refine ContSet.mk ?_
    refine out4 (c1.le hle2).at_ ?_
    refine k a a n rfl _ ((c1.le hle2).put _).ch ?_
    show _ = _
    rw [set_other _ _ c1.ne.symm]; exact hle2 _ _ hr1
  · rw [if_neg (by omega)] at k kp
    refine take_spec hr1 hs (fun hi m2 hch2 hr2 => ?_) (fun hi => ?_)
    rotate_left
    · rw [nx_out (by rw [lst_len]; omega)] at heq; cases heq
    have c2 := c1.step hch2
    dsimp only [Cont]
    refine UnI.mk ?_
    refine sign_spec hr2 hs (fun b n' hsg2 m3 hch3 hr3 => ?_) (fun hsg2 m3 hch3 => kp (by rw [hsg2]) m3 (c2.step hch3).ch)
    rw [hsg2] at k kp
    dsimp only at k kp
    have hb := (sgn_lt hsg2).1
    have c3 := c2.step hch3
    dsimp only [Cont]
    refine UnI.mk ?_
    refine BrD (fun hlt => kp (by rw [if_pos (by omega)]) m3 c3.ch) (fun hge => ?_)
    rw [if_neg (by omega)] at k
    refine run_spec ha hb ?_
    intro m4 hle4
    refine ContSet.mk ?_
    refine out4 (c3.le hle4).at_ ?_
    refine k a b n' rfl _ ((c3.le hle4).put _).ch ?_
    show _ = _
    rw [set_other _ _ c3.ne.symm]; exact hle4 _ _ hr3
/-- Behind the last part. -/
theorem k3_spec {m mm : Mem} {r b2 b5 : Nat} {s : ByteArray} {i : Nat} {S : Nat → Bool} {other : Bool} (hi : i < s.size) (hs : s.size < 2 ^ 62) (hr : rdr mm r s i) (c2 : Cel m mm r b2 z4) (c5 : Cel m mm r b5 (cells4 S)) (hne : b2 ≠ b5) {R : Ending → Mem → Prop}
    (k : ∀ m', Chg (fun b => b = r) m m' → rdr m' r s (i + 1) → R (.returned (setv (if other = true then (fun c => !S c) else S))) m') :
    class_reader_class.k3 (some ⟨r, 0, none⟩) b2 0 other b5 0 R mm := by
  unfold class_reader_class.k3
  refine take_spec hr hs (fun _ m1 hch1 hr1 => ?_) (fun h => by omega)
  have d2 := c2.step hch1; have d5 := c5.step hch1
  dsimp only [Cont]
  refine UnI.mk ?_
  cases other with
  | true =>
    refine Br.mk (fun _ => ?_) (fun h => by cases h)
    refine get4 d5.at_ ?_
    refine Not_spec ?_
    intro m2 hle2
    refine ContSet.mk ?_
    have e2 := d2.le hle2; have e5 := d5.le hle2
    refine put4 e5.at_ ?_
    have f5 := e5.put (cells4 fun c => !S c)
    refine get4 f5.at_ ?_
    have f2 : (m2.set b5 (.cells (cells4 fun c => !S c) T_api_Set (0, 0))) b2 = some (.cells z4 T_api_Set (0, 0)) := by rw [set_other _ _ hne]; exact e2.at_
    refine out4 f2 ?_
    refine k _ (Cel.put ⟨f2, e2.ne, e2.new, f5.ch⟩ _).ch ?_
    show _ = _
    rw [set_other _ _ e2.ne.symm, set_other _ _ e5.ne.symm]; exact hle2 _ _ hr1
  | false =>
    refine Br.mk (fun h => by cases h) (fun _ => ?_)
    refine get4 d5.at_ ?_
    refine out4 d2.at_ ?_
    refine k _ (d2.put _).ch ?_
    show _ = _
    rw [set_other _ _ d2.ne.symm]; exact hr1
theorem loop_spec {m mm : Mem} {r b2 b5 : Nat} {s : ByteArray} {n : Nat} {S : Nat → Bool} {other : Bool} (hs : s.size < 2 ^ 62) (hn : n ≤ s.size) (hr : rdr mm r s n) (c2 : Cel m mm r b2 z4) (c5 : Cel m mm r b5 (cells4 S)) (hne : b2 ≠ b5) {R : Ending → Mem → Prop}
    (k : ∀ S' e, prts (lst s) (s.size + 1) n S = some (S', e) → ∀ m', Chg (fun b => b = r) m m' → rdr m' r s e → R (.returned (setv (if other = true then (fun c => !S' c) else S'))) m')
    (kp : prts (lst s) (s.size + 1) n S = none → ∀ m', Chg (fun b => b = r) m m' → R pan m') :
    class_reader_class.l2 (some ⟨r, 0, none⟩) b2 0 other b5 0 R mm := by
  have hll := lst_len s
  refine ⟨fun N ra x2b x2o o s5b s5o mm => ra = some ⟨r, 0, none⟩ ∧ x2b = b2 ∧ x2o = 0 ∧ o = other ∧ s5b = b5 ∧ s5o = 0 ∧ ∃ n' S2, s.size < N + n' ∧ n' ≤ s.size ∧ rdr mm r s n' ∧ Cel m mm r b2 z4 ∧ Cel m mm r b5 (cells4 S2) ∧ prts (lst s) N n' S2 = prts (lst s) (s.size + 1) n S, s.size + 1,
    ⟨rfl, rfl, rfl, rfl, rfl, rfl, n, S, by omega, hn, hr, c2, c5, rfl⟩, ?_⟩
  clear hr c2 c5
  rintro N ra x2b x2o o s5b s5o mm ⟨rfl, rfl, rfl, rfl, rfl, rfl, n', S2, hN, hn', hr, c2, c5, hp⟩
  obtain ⟨N, rfl⟩ : ∃ N', N = N' + 1 := ⟨N - 1, by omega⟩
  unfold class_reader_class.l2B
  refine next_spec hr ?_
  dsimp only [Cont]
  refine UnI.mk ?_
  rw [prts] at hp
  refine BrN (fun h93 => ?_) (fun h93 => ?_)
  · rw [if_neg (by omega)] at hp
    refine ⟨mm.wo (fun b => b = r), wo_le _ _, ?_⟩
    have hw : ∀ b, b ≠ r → (mm.wo fun b => b = r) b = mm b := fun b hb => wo_in hb
    refine get4 (by rw [hw _ c5.ne]; exact c5.at_) ?_
    refine part_spec hr hs (fun a b n2 hpr m3 hch3 hr3 => ?_) (fun hpr m3 hch3 => kp (by rw [← hp, hpr]) m3 (c2.step hch3).ch)
    rw [hpr] at hp
    dsimp only at hp
    obtain ⟨hab, hb, hin, hle⟩ := prt_lt hpr
    refine ContSet.mk ?_
    refine ⟨mm.wo (fun b => b = r), Le.refl _, fun b o hb => ?_, ?_⟩
    · by_cases e : b = r
      · rw [wo_out (F := fun b => b = r) e] at hb; cases hb
      · rw [hw _ e] at hb; exact hch3.eq _ _ hb e
    refine Or_spec ?_
    intro m4 hle4
    refine ContSet.mk ?_
    have d5 := (c5.step hch3).le hle4
    refine put4 d5.at_ ?_
    have e5 := d5.put (cells4 fun c => S2 c || fromTo a b c)
    have d2 := (c2.step hch3).le hle4
    refine ⟨N, by omega, rfl, rfl, rfl, rfl, rfl, rfl, n2, fun c => S2 c || fromTo a b c, by omega, by omega, ?_, ⟨?_, d2.ne, d2.new, e5.ch⟩, e5, hp⟩
    · show _ = _
      rw [set_other _ _ d5.ne.symm]; exact hle4 _ _ hr3
    · rw [set_other _ _ hne]; exact d2.at_
  · rw [if_pos (by omega)] at hp
    have hi : n' < s.size := by
      apply Decidable.byContradiction
      intro h
      rw [nx_out (by omega)] at h93; cases h93
    exact k3_spec hi hs hr c2 c5 hne fun m' hch hr' => k S2 (n' + 1) hp.symm m' hch hr'
theorem class_spec {m : Mem} {r : Nat} {s : ByteArray} (hr : rdr m r s 0) (hs : s.size < 2 ^ 62) {R : Ending → Mem → Prop}
    (k : ∀ S e, cls0 (lst s) = some (S, e) → ∀ m', Chg (fun b => b = r) m m' → rdr m' r s e → R (.returned (setv S)) m')
    (kp : cls0 (lst s) = none → ∀ m', Chg (fun b => b = r) m m' → R pan m') :
    HC P class_reader_class.id #[.pointer (some ⟨r, 0, none⟩)] m R := by
  have hll := lst_len s
  refine class_reader_class.ok _ _ _ ?_
  intro b2 hb2
  have c0 := Cel.mk0 (r := r) (c := z4) (by rw [hr]; simp) hb2
  have hr0 : rdr (m.set b2 (.cells z4 T_api_Set (0, 0))) r s 0 := by show _ = _; rw [set_other _ _ c0.ne.symm]; exact hr
  unfold cls0 at k kp
  refine next_spec hr0 ?_
  dsimp only [Cont]
  refine UnI.mk ?_
  refine BrE (fun h46 => ?_) (fun h46 => ?_)
  · rw [if_pos (by omega)] at k
    refine take_spec hr0 hs (fun hi m1 hch1 hr1 => ?_) (fun hi => by rw [nx_out (by omega)] at h46; cases h46)
    dsimp only [Cont]
    refine UnI.mk ?_
    have hz : (.agg #[.int .u64 0, .int .u64 0, .int .u64 0, .int .u64 0] : Value) = setv fun _ => false := by
      unfold setv; rw [L_zero, L_zero, L_zero, L_zero]
    rw [hz]
    refine Not_spec ?_
    intro m2 hle2
    refine ContSet.mk ?_
    have c1 := (c0.step hch1).le hle2
    refine out4 c1.at_ ?_
    refine k _ _ rfl _ (c1.put _).ch ?_
    show _ = _
    rw [set_other _ _ c1.ne.symm]; exact hle2 _ _ hr1
  rw [if_neg (by omega)] at k kp
  refine BrE (fun h91 => ?_) (fun h91 => ?_)
  · rw [if_pos (by omega)] at k kp
    refine take_spec hr0 hs (fun hi m1 hch1 hr1 => ?_) (fun hi => by rw [nx_out (by omega)] at h91; cases h91)
    have c1 := c0.step hch1
    dsimp only [Cont]
    refine UnI.mk ?_
    refine next_spec hr1 ?_
    dsimp only [Cont]
    refine UnI.mk ?_
    have rest : ∀ (n0 : Nat) (other : Bool) (m3 : Mem), (if nx (lst s) 1 = 94 then 2 else 1) = n0 → other = decide (nx (lst s) 1 = 94) → rdr m3 r s n0 → Cel m m3 r b2 z4 →
        class_reader_class.k1 (some ⟨r, 0, none⟩) b2 0 other R m3 := by
      intro n0 other m3 hn0 hot hr3 c3
      rw [hn0] at k kp
      unfold class_reader_class.k1
      refine part_spec hr3 hs (fun a b n hpr m4 hch4 hr4 => ?_) (fun hpr m4 hch4 => kp (by rw [hpr]) m4 (c3.step hch4).ch)
      rw [hpr] at k kp
      dsimp only at k kp
      obtain ⟨hab, hb, hin, hle⟩ := prt_lt hpr
      refine ContSet.mk ?_
      intro b5 hb5
      have c4 := c3.step hch4
      have hne : b2 ≠ b5 := fun e => by subst e; rw [c4.at_] at hb5; cases hb5
      have hm5 : m b5 = none := c4.ch.new hb5
      have hr5 : b5 ≠ r := fun e => by subst e; rw [hr4] at hb5; cases hb5
      refine put4 (set_same _ _ _) ?_
      rw [set_set]
      have c5 : Cel m (m4.set b5 (.cells (cells4 (fromTo a b)) T_api_Set (0, 0))) r b5 (cells4 (fromTo a b)) :=
        ⟨set_same _ _ _, hr5, hm5, c4.ch.trans ((Le.set hb5 _).chg _) (fun _ _ e => e)⟩
      refine loop_spec (n := n) (S := fromTo a b) hs (by omega) ?_ (c4.le (Le.set hb5 _)) c5 hne (fun S' e hp m' hch hr' => ?_) (fun hp m' hch => kp (by rw [hll, hp]) m' hch)
      · show _ = _
        rw [set_other _ _ hr5.symm]; exact hr4
      · subst hot
        by_cases h : nx (lst s) 1 = 94
        · have := k (fun c => !S' c) e (by rw [hll, hp]; simp [h]) m' hch hr'
          simpa [h] using this
        · have := k S' e (by rw [hll, hp]; simp [h]) m' hch hr'
          simpa [h] using this
    have hd : (((nx (lst s) 1 : Nat) : Int) == 94) = decide (nx (lst s) 1 = 94) := by
      rw [Bool.eq_iff_iff]; simp only [beq_iff_eq, decide_eq_true_eq]; omega
    refine BrE (fun h94 => ?_) (fun h94 => ?_)
    · refine take_spec hr1 hs (fun hi m2 hch2 hr2 => ?_) (fun hi => by rw [nx_out (by omega)] at h94; cases h94)
      dsimp only [Cont]
      refine UnI.mk ?_
      exact rest 2 _ m2 (by rw [if_pos (show nx (lst s) 1 = 94 by have h94 : ((nx (lst s) 1 : Nat) : Int) = 94 := h94; omega)]) hd hr2 (c1.step hch2)
    · exact rest 1 _ m1 (by rw [if_neg (show ¬ nx (lst s) 1 = 94 by have h94 : ¬ ((nx (lst s) 1 : Nat) : Int) = 94 := h94; omega)]) hd hr1 c1
  · rw [if_neg (by omega)] at k kp
    refine sign_spec hr0 hs (fun c n hsg m1 hch1 hr1 => ?_) (fun hsg m1 hch1 => kp (by rw [hsg]) m1 (c0.step hch1).ch)
    rw [hsg] at k
    dsimp only at k
    have hc := (sgn_lt hsg).1
    dsimp only [Cont]
    refine UnI.mk ?_
    refine run_spec hc hc ?_
    intro m2 hle2
    refine ContSet.mk ?_
    have c1 := (c0.step hch1).le hle2
    refine out4 c1.at_ ?_
    refine k _ _ rfl _ (c1.put _).ch ?_
    show _ = _
    rw [set_other _ _ c1.ne.symm]; exact hle2 _ _ hr1
end Go.E
set_option linter.unusedVariables false
set_option linter.unusedSimpArgs false
namespace Go.E
open Go.H
attribute [local irreducible] BiN MkS ConvN LookN MapUpN CallV HC limb dbTab
/-- Three results under way. -/
structure PS (m mm : Mem) (b2 b3 b4 : Nat) (c2 : Array Value) (n e : Int) : Prop where
  le : Le m mm
  a2 : mm b2 = some (.cells c2 T_api_Set (0, 0))
  a3 : mm b3 = some (.cells #[.int .i64 n] T_int (0, 0))
  a4 : mm b4 = some (.cells #[.int .i64 e] T_api_Errno (0, 0))
  n23 : b2 ≠ b3
  n24 : b2 ≠ b4
  n34 : b3 ≠ b4
  w2 : m b2 = none
  w3 : m b3 = none
  w4 : m b4 = none
section
variable {m mm m' : Mem} {b2 b3 b4 : Nat} {c2 : Array Value} {n e : Int}
theorem PS.step (h : PS m mm b2 b3 b4 c2 n e) {r : Nat} (hr : m r = none) (h2 : b2 ≠ r) (h3 : b3 ≠ r) (h4 : b4 ≠ r) (k : Chg (fun b => b = r) mm m') : PS m m' b2 b3 b4 c2 n e :=
  ⟨k.to_le h.le (fun b x => by rw [show b = r from x]; exact hr), k.eq _ _ h.a2 h2, k.eq _ _ h.a3 h3, k.eq _ _ h.a4 h4, h.n23, h.n24, h.n34, h.w2, h.w3, h.w4⟩
theorem PS.mono (h : PS m mm b2 b3 b4 c2 n e) (k : Le mm m') : PS m m' b2 b3 b4 c2 n e :=
  ⟨h.le.trans k, k _ _ h.a2, k _ _ h.a3, k _ _ h.a4, h.n23, h.n24, h.n34, h.w2, h.w3, h.w4⟩
theorem PS.p2 (h : PS m mm b2 b3 b4 c2 n e) (c : Array Value) : PS m (mm.set b2 (.cells c T_api_Set (0, 0))) b2 b3 b4 c n e :=
  ⟨Chg.to_le (Chg.set mm _ _) h.le (fun b x => by rw [show b = b2 from x]; exact h.w2), set_same _ _ _, by rw [set_other _ _ h.n23.symm]; exact h.a3, by rw [set_other _ _ h.n24.symm]; exact h.a4, h.n23, h.n24, h.n34, h.w2, h.w3, h.w4⟩
theorem PS.p3 (h : PS m mm b2 b3 b4 c2 n e) (c : Int) : PS m (mm.set b3 (.cells #[.int .i64 c] T_int (0, 0))) b2 b3 b4 c2 c e :=
  ⟨Chg.to_le (Chg.set mm _ _) h.le (fun b x => by rw [show b = b3 from x]; exact h.w3), by rw [set_other _ _ h.n23]; exact h.a2, set_same _ _ _, by rw [set_other _ _ h.n34.symm]; exact h.a4, h.n23, h.n24, h.n34, h.w2, h.w3, h.w4⟩
theorem PS.p4 (h : PS m mm b2 b3 b4 c2 n e) (c : Int) : PS m (mm.set b4 (.cells #[.int .i64 c] T_api_Errno (0, 0))) b2 b3 b4 c2 n c :=
  ⟨Chg.to_le (Chg.set mm _ _) h.le (fun b x => by rw [show b = b4 from x]; exact h.w4), by rw [set_other _ _ h.n24]; exact h.a2, by rw [set_other _ _ h.n34]; exact h.a3, set_same _ _ _, h.n23, h.n24, h.n34, h.w2, h.w3, h.w4⟩
theorem PS.out {u0 u1 u2 u3 : Int} (h : PS m mm b2 b3 b4 #[.int .u64 u0, .int .u64 u1, .int .u64 u2, .int .u64 u3] n e) {R : Ending → Mem → Prop} (k : R (.returned (.tuple #[.agg #[.int .u64 u0, .int .u64 u1, .int .u64 u2, .int .u64 u3], .int .i64 n, .int .i64 e])) mm) :
    class_Parse.out b2 0 b3 0 b4 0 R mm := get4 h.a2 (LdV.s0 h.a3 (UnI.mk (LdV.s0 h.a4 (UnI.mk k))))
theorem PS.fail {x0 x1 x2 x3 : Value} (h : PS m mm b2 b3 b4 #[x0, x1, x2, x3] n e) {R : Ending → Mem → Prop} (k : ∀ m', Le m m' → R (.returned (.tuple #[setv fun _ => false, .int .i64 0, .int .i64 2])) m') :
    DefR P class_Parse_1.id #[.pointer (some ⟨b2, 0, none⟩), .pointer (some ⟨b3, 0, none⟩), .pointer (some ⟨b4, 0, none⟩)] (class_Parse.out b2 0 b3 0 b4 0 R) pan mm := by
  refine ⟨refusal, rfl, class_Parse_1.df_some _ _ _ _ _ ?_⟩
  intro b hb
  have h1 := h.mono (Le.set hb (.cells #[] T_class_refusal (0, 0)))
  refine put4 h1.a2 ?_
  have h2 := h1.p2 z4
  refine St1.to #[.int .i64 0] h2.a3 (by simp) rfl rfl ?_
  have h3 := h2.p3 0
  refine St1.to #[.int .i64 2] h3.a4 (by simp) rfl rfl ?_
  have h4 := h3.p4 2
  refine h4.out ?_
  have := k _ h4.le
  have hz : (setv fun _ => false) = .agg z4 := by unfold setv; rw [L_zero, L_zero, L_zero, L_zero]
  rw [hz] at this
  exact this
end
theorem empty_all {S : Nat → Bool} (h : emptyS S = true) : ∀ b, b < 256 → S b = false := by
  intro b hb
  unfold emptyS at h
  rw [List.all_eq_true] at h
  have := h b (by simpa using hb)
  simpa using this
theorem empty_ex {S : Nat → Bool} (h : ¬ emptyS S = true) : ∃ t, t < 256 ∧ S t = true ∧ ∀ j, j < t → S j = false := by
  have hex : ∃ t, t < 256 ∧ S t = true := by
    apply Decidable.byContradiction
    intro hn
    refine h ?_
    unfold emptyS
    rw [List.all_eq_true]
    intro b hb
    have hb : b < 256 := by simpa using hb
    cases hS : S b with
    | false => rfl
    | true => exact absurd ⟨b, hb, hS⟩ hn
  obtain ⟨t, ht⟩ := hex
  obtain ⟨k, hk, hm⟩ := least (p := fun t => t < 256 ∧ S t = true) ht
  refine ⟨k, hk.1, hk.2, fun j hj => ?_⟩
  have := hm j hj
  cases hS : S j with
  | false => rfl
  | true => exact absurd ⟨by omega, hS⟩ this
theorem ContTB.mk {a : Int} {b : Bool} {K : Int → Bool → Mem → Prop} {Pn : List PanicEntry → Mem → Prop} {m : Mem} (k : K a b m) :
    Cont (fun v m => UnTup v fun us0 => UnCons us0 fun w us1 => UnI w .u8 fun x0 => UnCons us1 fun w us2 => UnB w fun x1 => UnNil us2 (K x0 x1 m)) Pn (.returned (.tuple #[.int .u8 a, .bool b])) m := k
theorem Parse_spec {s : ByteArray} {m : Mem} (hG : Glob m) (hs : s.size < 2 ^ 62) {R : Ending → Mem → Prop}
    (k : ∀ S e, cls (lst s) = some (S, e) → ∀ m', Le m m' → R (.returned (.tuple #[setv S, .int .i64 (e : Nat), .int .i64 0])) m')
    (kp : cls (lst s) = none → ∀ m', Le m m' → R (.returned (.tuple #[setv fun _ => false, .int .i64 0, .int .i64 2])) m') :
    HC P class_Parse.id #[.string s] m R := by
  refine class_Parse.ok _ _ _ ?_
  intro b2 h2 b3 h3 b4 h4
  have n32 : b3 ≠ b2 := fun e => by subst e; rw [set_same] at h3; cases h3
  have n43 : b4 ≠ b3 := fun e => by subst e; rw [set_same] at h4; cases h4
  have n42 : b4 ≠ b2 := fun e => by subst e; rw [set_other _ _ n32.symm, set_same] at h4; cases h4
  have w3 : m b3 = none := by rw [set_other _ _ n32] at h3; exact h3
  have w4 : m b4 = none := by rw [set_other _ _ n43, set_other _ _ n42] at h4; exact h4
  have p0 : PS m (((m.set b2 (.cells z4 T_api_Set (0, 0))).set b3 (.cells #[.int .i64 0] T_int (0, 0))).set b4 (.cells #[.int .i64 0] T_api_Errno (0, 0))) b2 b3 b4 z4 0 0 :=
    ⟨((Le.set h2 _).trans (Le.set h3 _)).trans (Le.set h4 _), by rw [set_other _ _ n42.symm, set_other _ _ n32.symm, set_same], by rw [set_other _ _ n43.symm, set_same], set_same _ _ _, n32.symm, n42.symm, n43.symm, h2, w3, w4⟩
  generalize ((m.set b2 (.cells z4 T_api_Set (0, 0))).set b3 (.cells #[.int .i64 0] T_int (0, 0))).set b4 (.cells #[.int .i64 0] T_api_Errno (0, 0)) = m3 at p0
  unfold class_Parse.rest0 class_Parse.k1
  intro r hr
  have p1 := p0.mono (Le.set hr (.cells #[.string s, .int .i64 0] T_class_reader (0, 0)))
  have hrm : m r = none := p0.le.new hr
  have e2 : b2 ≠ r := fun e => by subst e; rw [p0.a2] at hr; cases hr
  have e3 : b3 ≠ r := fun e => by subst e; rw [p0.a3] at hr; cases hr
  have e4 : b4 ≠ r := fun e => by subst e; rw [p0.a4] at hr; cases hr
  unfold cls at k kp
  refine class_spec (r := r) (s := s) (set_same _ _ _) hs (fun S e hc m4 hch hr4 => ?_) (fun hc m4 hch => ?_)
  rotate_left
  · rw [hc] at kp
    exact (p1.step hrm e2 e3 e4 hch).fail (kp rfl)
  rw [hc] at k kp
  dsimp only at k kp
  have p2 := p1.step hrm e2 e3 e4 hch
  refine ContSet.mk ?_
  refine put4 p2.a2 ?_
  have p3 := p2.p2 (cells4 S)
  refine get4 p3.a2 ?_
  by_cases hem : emptyS S = true
  · rw [if_pos hem] at kp
    refine Least_none (empty_all hem) ?_
    intro m5 hle5
    refine ContTB.mk ?_
    exact (p3.mono hle5).fail (kp rfl)
  · rw [if_neg hem] at k
    obtain ⟨t, ht, hf, hl⟩ := empty_ex hem
    refine Least_some ht hf hl (hG.le p3.le) ?_
    intro m5 hle5
    have p4 := p3.mono hle5
    have hr5 : rdr m5 r s e := hle5 _ _ (by rw [set_other _ _ e2.symm]; exact hr4)
    refine ContTB.mk ?_
    refine ⟨m5, Le.refl _, ?_⟩
    refine get4 p4.a2 ?_
    refine LdV.s1 hr5 (UnI.mk ?_)
    refine put4 p4.a2 ?_
    have p5 := p4.p2 (cells4 S)
    refine ⟨_, ?_, Le.refl _, ?_⟩
    · intro b o hb
      by_cases eb : b = b2
      · subst eb; rw [p4.a2] at hb; cases hb; exact set_same _ _ _
      · rw [set_other _ _ eb]; exact hb
    refine St1.to #[.int .i64 (e : Nat)] p5.a3 (by simp) rfl rfl ?_
    have p6 := p5.p3 (e : Nat)
    refine St1.to #[.int .i64 0] p6.a4 (by simp) rfl rfl ?_
    have p7 := p6.p4 0
    refine class_Parse_1.df_none _ _ _ _ _ ?_
    intro b hb
    have p8 := p7.mono (Le.set hb (.cells #[] T_class_refusal (0, 0)))
    exact p8.out (k S e rfl _ p8.le)
end Go.E
set_option linter.unusedVariables false
set_option linter.unusedSimpArgs false
namespace Go.E
open Go.H
attribute [local irreducible] BiN MkS ConvN LookN MapUpN CallV HC limb dbTab
abbrev spB : ByteArray := ByteArray.mk #[92, 124, 42, 43, 63, 40, 41, 91, 93, 46, 94, 45]
abbrev hexB : ByteArray := ByteArray.mk #[48, 49, 50, 51, 52, 53, 54, 55, 56, 57, 97, 98, 99, 100, 101, 102]
theorem sp_in : ∀ c : Nat, c < 256 → (∃ j : Nat, j < 12 ∧ bt spB (j : Int) = (c : Int)) = (isSp c = true) := by
  have h : ∀ c : Nat, c < 256 → ((List.range 12).any fun j => bt spB (j : Int) == (c : Int)) = isSp c := by decide +kernel
  intro c hc
  rw [← h c hc, eq_iff_iff]
  simp [List.any_eq_true]
theorem in_spec {c : Nat} (hc : c < 256) {m : Mem} {R : Ending → Mem → Prop} (k : R (.returned (.bool (isSp c))) m) : HC P eyotref8_in.id #[.string spB, .int .u8 (c : Int)] m R := by
  refine eyotref8_in.ok _ _ _ _ ?_
  refine ⟨fun N s c' i mm => s = spB ∧ c' = (c : Int) ∧ mm = m ∧ ∃ j : Nat, i = j ∧ N = 12 - j ∧ j ≤ 12 ∧ ∀ j' : Nat, j' < j → bt spB (j' : Int) ≠ (c : Int), 12, ⟨rfl, rfl, rfl, 0, rfl, rfl, by omega, fun _ h => by omega⟩, ?_⟩
  rintro N s c' i mm ⟨rfl, rfl, rfl, j, rfl, rfl, hj, hno⟩
  have hsz : spB.size = 12 := rfl
  refine BrD (fun hlt => ?_) (fun hge => ?_)
  · refine ⟨by omega, hlt, ?_⟩
    rw [hsz] at hlt
    refine BrE (fun he => ?_) (fun he => ?_)
    · have : isSp c = true := (sp_in c hc).mp ⟨j, by omega, he⟩
      rw [this] at k; exact k
    · refine ⟨_, ?_, rfl, rfl, rfl, j + 1, ?_, rfl, by omega, ?_⟩
      · omega
      · rw [wi (by omega) (by omega)]; omega
      · intro j' hj'
        by_cases e : j' = j
        · subst e; exact he
        · exact hno j' (by omega)
  · rw [hsz] at hge
    have : isSp c = false := by
      cases h : isSp c with
      | false => rfl
      | true =>
        obtain ⟨j', h1, h2⟩ := (sp_in c hc).mpr h
        exact absurd h2 (hno j' (by omega))
    rw [this] at k; exact k
end Go.E
set_option linter.unusedVariables false
set_option linter.unusedSimpArgs false
set_option maxRecDepth 20000
namespace Go.E
open Go.H
attribute [local irreducible] BiN MkS ConvN LookN MapUpN CallV HC limb dbTab
/-- The bytes below k of a set. -/
def flt (f : Nat → Bool) (k : Nat) : List UInt8 := ((List.range k).filter f).map UInt8.ofNat
theorem flt_succ (f : Nat → Bool) (k : Nat) : flt f (k + 1) = if f k = true then flt f k ++ [UInt8.ofNat k] else flt f k := by
  unfold flt
  rw [List.range_succ, List.filter_append]
  cases h : f k <;> simp [h]
theorem flt_len (f : Nat → Bool) (k : Nat) : (flt f k).length ≤ k := by
  unfold flt
  rw [List.length_map]
  exact Nat.le_trans (List.length_filter_le _ _) (by simp)
theorem inB_flt {f : Nat → Bool} {k : Nat} (h : k ≤ 256) (c : Nat) : inB (flt f k) c = (decide (c < k) && f c) := by
  induction k with
  | zero => simp [flt, inB]
  | succ k ih =>
    have ih := ih (by omega)
    have hk : (UInt8.ofNat k).toNat = k := by rw [UInt8.toNat_ofNat']; omega
    rw [flt_succ]
    cases hf : f k with
    | false =>
      simp only [Bool.false_eq_true, if_false]
      rw [ih, Bool.eq_iff_iff]
      simp only [Bool.and_eq_true, decide_eq_true_eq]
      constructor
      · rintro ⟨h1, h2⟩; exact ⟨by omega, h2⟩
      · rintro ⟨h1, h2⟩
        refine ⟨?_, h2⟩
        have : c ≠ k := fun e => by subst e; rw [hf] at h2; cases h2
        omega
    | true =>
      simp only [if_true]
      have e : inB (flt f k ++ [UInt8.ofNat k]) c = (inB (flt f k) c || c == k) := by
        unfold inB
        rw [List.any_append, List.any_cons, List.any_nil, hk, Bool.or_false]
      rw [e, ih, Bool.eq_iff_iff]
      simp only [Bool.or_eq_true, Bool.and_eq_true, decide_eq_true_eq, beq_iff_eq]
      constructor
      · rintro (⟨h1, h2⟩ | rfl)
        · exact ⟨by omega, h2⟩
        · exact ⟨by omega, hf⟩
      · rintro ⟨h1, h2⟩
        by_cases e : c = k
        · exact .inr e
        · exact .inl ⟨by omega, h2⟩
theorem setv_flt (f : Nat → Bool) : setv (inB (flt f 256)) = setv f := setv_eq fun c hc => by rw [inB_flt (Nat.le_refl _)]; simp [hc]
theorem u8w {k : Nat} (h : k < 256) : IntKind.u8.wrap (k : Int) = (k : Int) := by rw [IntKind.wrap_u8]; omega
theorem u8n {k : Nat} (h : k < 256) : (k : Int) = (((UInt8.ofNat k).toNat : Nat) : Int) := by rw [UInt8.toNat_ofNat']; omega
theorem RNot_spec {f : Nat → Bool} {m : Mem} {R : Ending → Mem → Prop} (h : ∀ m', Le m m' → R (.returned (setv fun b => !f b)) m') : HC P eyotref8_Not.id #[setv f] m R := by
  refine eyotref8_Not.ok _ _ _ _ _ _ ?_
  intro ba hba b2 hb2
  have hne : b2 ≠ ba := fun e => by subst e; rw [set_same] at hb2; cases hb2
  have hm2 : m b2 = none := by rw [set_other _ _ hne] at hb2; exact hb2
  have hle0 := (Le.set hba (.cells (cells4 f) T_api_Set (0, 0))).trans (Le.set hb2 (.cells z4 T_api_Set (0, 0)))
  have ea : ((m.set ba (.cells (cells4 f) T_api_Set (0, 0))).set b2 (.cells z4 T_api_Set (0, 0))) ba = some (.cells (cells4 f) T_api_Set (0, 0)) := by rw [set_other _ _ hne.symm, set_same]
  have e2 : ((m.set ba (.cells (cells4 f) T_api_Set (0, 0))).set b2 (.cells z4 T_api_Set (0, 0))) b2 = some (.cells z4 T_api_Set (0, 0)) := set_same _ _ _
  generalize ((m.set ba (.cells (cells4 f) T_api_Set (0, 0))).set b2 (.cells z4 T_api_Set (0, 0))) = ms at hle0 ea e2
  refine ⟨fun N a1b a1o x2b x2o la ll lc i mm => a1b = ba ∧ a1o = 0 ∧ x2b = b2 ∧ x2o = 0 ∧ ∃ k : Nat, i = k ∧ N = 256 - k ∧ k ≤ 256 ∧ RwB ms mm la ll lc (flt (fun b => !f b) k), 256, ⟨rfl, rfl, rfl, rfl, 0, rfl, rfl, by omega, RwB.nil (Le.refl _)⟩, ?_⟩
  rintro N a1b a1o x2b x2o la ll lc i mm ⟨rfl, rfl, rfl, rfl, k, rfl, rfl, hk, hr⟩
  have hl := hr.len
  have hl2 := flt_len (fun b => !f b) k
  refine BrD (fun hlt => ?_) (fun hge => ?_)
  · refine get4 (hr.le _ _ ea) ?_
    rw [u8w (by omega)]
    refine RHas_spec (by omega) ?_
    intro m1 hle1
    have hr1 := hr.mono hle1
    dsimp only [Cont]
    refine UnB.mk ?_
    have w : IntKind.i64.wrap ((k : Int) + 1) = ((k + 1 : Nat) : Int) := by rw [wi (by omega) (by omega)]; omega
    refine Br.mk (fun hb => ?_) (fun hb => ?_)
    · rw [u8n (k := k) (by omega)]
      refine hr1.push _ (by omega) ?_
      intro a' c' m' hr'
      refine UnS.mk ?_
      refine ⟨_, ?_, rfl, rfl, rfl, rfl, k + 1, ?_, rfl, by omega, by rw [flt_succ, if_pos hb]; exact hr'⟩
      · omega
      · rw [← u8n (by omega), w]
    · refine ⟨_, ?_, rfl, rfl, rfl, rfl, k + 1, w, rfl, by omega, by rw [flt_succ, if_neg (by rw [hb]; simp)]; exact hr1⟩
      omega
  · have : k = 256 := by omega
    subst this
    refine ROf_spec hr.own.cells hl (by omega) ?_
    intro m' hle
    refine ContSet.mk ?_
    refine out4 (hle _ _ (hr.le _ _ e2)) ?_
    show R (.returned (setv (inB (flt (fun b => !f b) 256)))) _
    rw [setv_flt]
    exact h _ (Chg.to_le (Chg.set m' x2b _) ((hle0.trans hr.le).trans hle) (fun b e => by rw [show b = x2b from e]; exact hm2))
theorem list_spec {f : Nat → Bool} {m : Mem} {R : Ending → Mem → Prop} (h : ∀ m' a l c, RwB m m' a l c (flt f 256) → R (.returned (.slice a l c)) m') : HC P eyotref8_list.id #[setv f] m R := by
  refine eyotref8_list.ok _ _ _ _ _ _ ?_
  intro ba hba
  have hle0 := Le.set hba (.cells (cells4 f) T_api_Set (0, 0))
  have ea : (m.set ba (.cells (cells4 f) T_api_Set (0, 0))) ba = some (.cells (cells4 f) T_api_Set (0, 0)) := set_same _ _ _
  generalize (m.set ba (.cells (cells4 f) T_api_Set (0, 0))) = ms at hle0 ea
  refine ⟨fun N a1b a1o la ll lc i mm => a1b = ba ∧ a1o = 0 ∧ ∃ k : Nat, i = k ∧ N = 256 - k ∧ k ≤ 256 ∧ RwB ms mm la ll lc (flt f k), 256, ⟨rfl, rfl, 0, rfl, rfl, by omega, RwB.nil (Le.refl _)⟩, ?_⟩
  rintro N a1b a1o la ll lc i mm ⟨rfl, rfl, k, rfl, rfl, hk, hr⟩
  have hl := hr.len
  have hl2 := flt_len f k
  refine BrD (fun hlt => ?_) (fun hge => ?_)
  · refine get4 (hr.le _ _ ea) ?_
    rw [u8w (by omega)]
    refine RHas_spec (by omega) ?_
    intro m1 hle1
    have hr1 := hr.mono hle1
    dsimp only [Cont]
    refine UnB.mk ?_
    have w : IntKind.i64.wrap ((k : Int) + 1) = ((k + 1 : Nat) : Int) := by rw [wi (by omega) (by omega)]; omega
    refine Br.mk (fun hb => ?_) (fun hb => ?_)
    · rw [u8n (k := k) (by omega)]
      refine hr1.push _ (by omega) ?_
      intro a' c' m' hr'
      refine UnS.mk ?_
      refine ⟨_, ?_, rfl, rfl, k + 1, ?_, rfl, by omega, by rw [flt_succ, if_pos hb]; exact hr'⟩
      · omega
      · rw [← u8n (by omega), w]
    · refine ⟨_, ?_, rfl, rfl, k + 1, w, rfl, by omega, by rw [flt_succ, if_neg (by rw [hb]; simp)]; exact hr1⟩
      omega
  · have : k = 256 := by omega
    subst this
    exact h _ _ _ _ ⟨hle0.trans hr.le, hr.own, Fresh.le hle0 hr.fr⟩
theorem eq4 (f g : Nat → Bool) : (eqL [.int .u64 (L f 0), .int .u64 (L f 1), .int .u64 (L f 2), .int .u64 (L f 3)] [.int .u64 (L g 0), .int .u64 (L g 1), .int .u64 (L g 2), .int .u64 (L g 3)] = true) ↔ ∀ b, b < 256 → f b = g b := by
  have e : eqL [.int .u64 (L f 0), .int .u64 (L f 1), .int .u64 (L f 2), .int .u64 (L f 3)] [.int .u64 (L g 0), .int .u64 (L g 1), .int .u64 (L g 2), .int .u64 (L g 3)] =
      (L f 0 == L g 0 && (L f 1 == L g 1 && (L f 2 == L g 2 && (L f 3 == L g 3 && true)))) := rfl
  rw [e]
  simp only [Bool.and_eq_true, beq_iff_eq, and_true]
  constructor
  · rintro ⟨h0, h1, h2, h3⟩; exact L_inj h0 h1 h2 h3
  · intro h
    exact ⟨L_congr fun j hj => h _ (by omega), L_congr fun j hj => h _ (by omega), L_congr fun j hj => h _ (by omega), L_congr fun j hj => h _ (by omega)⟩
theorem eq4_zero (f : Nat → Bool) : eqL [.int .u64 (L f 0), .int .u64 (L f 1), .int .u64 (L f 2), .int .u64 (L f 3)] [.int .u64 0, .int .u64 0, .int .u64 0, .int .u64 0] = emptyS f := by
  have h := eq4 f fun _ => false
  rw [L_zero, L_zero, L_zero, L_zero] at h
  rw [Bool.eq_iff_iff, h]
  unfold emptyS
  simp
end Go.E
set_option linter.unusedVariables false
set_option linter.unusedSimpArgs false
set_option maxRecDepth 20000
namespace Go.E
open Go.H
attribute [local irreducible] BiN MkS ConvN LookN MapUpN CallV HC limb dbTab
theorem ContTI.mk {a b : Int} {K : Int → Int → Mem → Prop} {Pn : List PanicEntry → Mem → Prop} {m : Mem} (k : K a b m) :
    Cont (fun v m => UnTup v fun us0 => UnCons us0 fun w us1 => UnI w .u8 fun x0 => UnCons us1 fun w us2 => UnI w .i64 fun x1 => UnNil us2 (K x0 x1 m)) Pn (.returned (.tuple #[.int .u8 a, .int .i64 b])) m := k
end Go.E
set_option linter.unusedVariables false
set_option linter.unusedSimpArgs false
set_option maxRecDepth 20000
namespace Go.E
open Go.H
attribute [local irreducible] BiN MkS ConvN LookN MapUpN CallV HC limb dbTab
/-- A text of bytes. -/
def bstr (l : List UInt8) : ByteArray := ⟨l.toArray⟩
theorem bstr_append (a b : List UInt8) : bstr a ++ bstr b = bstr (a ++ b) := by
  apply ByteArray.ext
  rw [ByteArray.data_append]
  simp [bstr]
theorem bstr_size (a : List UInt8) : (bstr a).size = a.length := by simp [bstr, ByteArray.size]
theorem lst_bstr (a : List UInt8) : lst (bstr a) = a := by simp [bstr, lst]
theorem bstr_lst (s : ByteArray) : bstr (lst s) = s := by apply ByteArray.ext; simp [bstr, lst]
/-- a digit of sixteen -/
def hexd (k : Nat) : UInt8 := if k < 10 then UInt8.ofNat (48 + k) else UInt8.ofNat (87 + k)
/-- A byte's sign. -/
def sgT (c : Nat) : List UInt8 :=
  if c < 33 ∨ 126 < c then [92, 120, hexd (c / 16), hexd (c % 16)]
  else if isSp c = true then [92, UInt8.ofNat c] else [UInt8.ofNat c]
theorem hex_ext : ∀ k, k < 16 → (hexB.extract k (k + 1)).data.toList = [hexd k] := by decide +kernel
theorem hex_ext' {k : Nat} (h : k < 16) : hexB.extract k (k + 1) = bstr [hexd k] := by
  rw [← hex_ext k h]; exact (bstr_lst _).symm
theorem shr4 : ∀ c, c < 256 → shrV .u8 ((c : Nat) : Int) 4 = ((c / 16 : Nat) : Int) := by decide +kernel
theorem and15 : ∀ c, c < 256 → bitsV .and .u8 ((c : Nat) : Int) 15 = ((c % 16 : Nat) : Int) := by decide +kernel
theorem sgT_len (c : Nat) : (sgT c).length ≤ 4 := by unfold sgT; split <;> (try split) <;> simp
theorem SlB_hex {k : Nat} (h : k < 16) {K : ByteArray → Prop} (kk : K (bstr [hexd k])) : SlB hexB (k : Int) (IntKind.u8.wrap ((k : Int) + 1)) K := by
  have w : IntKind.u8.wrap ((k : Int) + 1) = ((k + 1 : Nat) : Int) := by rw [IntKind.wrap_u8]; omega
  rw [w]
  refine ⟨by omega, by omega, by show ((k + 1 : Nat) : Int) ≤ 16; omega, ?_⟩
  rw [Int.toNat_natCast, Int.toNat_natCast, hex_ext' h]
  exact kk
theorem CatB_bs {a b : List UInt8} (h : a.length + b.length ≤ 1000000) {A : Prop} (k : A) : CatB (bstr a) (bstr b) A := ⟨by rw [bstr_size, bstr_size]; omega, k⟩
theorem csign_spec {c : Nat} (hc : c < 256) {m : Mem} {R : Ending → Mem → Prop} (k : ∀ m', Le m m' → R (.returned (.string (bstr (sgT c)))) m') : HC P class_sign.id #[.int .u8 (c : Int)] m R := by
  refine class_sign.ok _ _ _ ?_
  have k1t : (c < 33 ∨ 126 < c) → class_sign.k1 (c : Int) true R m := by
    intro h
    unfold sgT at k
    rw [if_pos h] at k
    unfold class_sign.k1
    refine Br.mk (fun _ => ?_) (fun h => by cases h)
    refine ⟨m, Le.refl _, ?_⟩
    rw [shr4 c hc, and15 c hc]
    refine SlB_hex (by omega) ?_
    refine CatB_bs (a := [92, 120]) (by simp) ?_
    refine SlB_hex (by omega) ?_
    have e : (ByteArray.mk #[92, 120]) ++ bstr [hexd (c / 16)] = bstr [92, 120, hexd (c / 16)] := bstr_append [92, 120] _
    rw [e]
    refine CatB_bs (by simp) ?_
    rw [bstr_append]
    exact k m (Le.refl _)
  have k1f : ¬ (c < 33 ∨ 126 < c) → class_sign.k1 (c : Int) false R m := by
    intro h
    unfold sgT at k
    rw [if_neg h] at k
    unfold class_sign.k1
    refine Br.mk (fun h => by cases h) (fun _ => ?_)
    refine IndexByte_spec hc ?_
    dsimp only [Cont]
    refine UnI.mk ?_
    refine BrD (fun hg => ?_) (fun hg => ?_)
    · have hg : 0 ≤ ixB _ c := hg
      rw [ix_sp _ hc] at hg
      rw [if_pos hg] at k
      intro b hb
      refine ⟨[UInt8.ofNat c], rfl, cells_at (set_same _ _ _) (by rw [u8n hc]; rfl), ?_⟩
      refine CatB_bs (a := [92]) (b := [UInt8.ofNat c]) (by simp) ?_
      have e : (ByteArray.mk #[92]) ++ bstr [UInt8.ofNat c] = bstr [92, UInt8.ofNat c] := bstr_append [92] _
      have := k _ (Le.set hb (.cells #[.int .u8 (c : Int)] T_uint8 (0, 0)))
      rw [← e] at this
      exact this
    · have hg : ¬ 0 ≤ ixB _ c := hg
      rw [ix_sp _ hc] at hg
      rw [if_neg hg] at k
      intro b hb
      refine ⟨[UInt8.ofNat c], rfl, cells_at (set_same _ _ _) (by rw [u8n hc]; rfl), ?_⟩
      exact k _ (Le.set hb (.cells #[.int .u8 (c : Int)] T_uint8 (0, 0)))
  refine BrD (fun h => k1t (by omega)) (fun h => ?_)
  cases hd : decide ((c : Int) > 126) with
  | true => exact k1t (by have := of_decide_eq_true hd; omega)
  | false => exact k1f (by have := of_decide_eq_false hd; omega)
/-- How a run is shown. -/
def shT (a b : Nat) : List UInt8 := if b = a then sgT a else if b = a + 1 then sgT a ++ sgT b else sgT a ++ ([45] ++ sgT b)
theorem shown_spec {a b : Nat} (hab : a ≤ b) (hb : b < 256) {m : Mem} {R : Ending → Mem → Prop} (k : ∀ m', Le m m' → R (.returned (.string (bstr (shT a b)))) m') :
    HC P class_shown.id #[.agg #[.int .u8 (a : Int), .int .u8 (b : Int)]] m R := by
  refine class_shown.ok _ _ _ _ ?_
  intro b1 hb1
  have hle := Le.set hb1 (.cells #[.int .u8 (a : Int), .int .u8 (b : Int)] T_arr2_uint8 (0, 0))
  have e1 : (m.set b1 (.cells #[.int .u8 (a : Int), .int .u8 (b : Int)] T_arr2_uint8 (0, 0))) b1 = some (.cells #[.int .u8 (a : Int), .int .u8 (b : Int)] T_arr2_uint8 (0, 0)) := set_same _ _ _
  generalize (m.set b1 (.cells #[.int .u8 (a : Int), .int .u8 (b : Int)] T_arr2_uint8 (0, 0))) = m1 at hle e1
  unfold shT at k
  refine ⟨by omega, by omega, ?_⟩
  refine LdV.s1 e1 (UnI.mk ?_)
  refine ⟨by omega, by omega, ?_⟩
  refine LdV.s0 e1 (UnI.mk ?_)
  have w : IntKind.u8.wrap ((b : Int) - (a : Int)) = ((b - a : Nat) : Int) := by rw [IntKind.wrap_u8]; omega
  rw [w]
  refine BrE (fun h => ?_) (fun h => ?_)
  · rw [if_pos (by omega)] at k
    refine ⟨by omega, by omega, ?_⟩
    refine LdV.s0 e1 (UnI.mk ?_)
    refine csign_spec (by omega) ?_
    intro m2 hle2
    dsimp only [Cont]
    exact UnStr.mk (k m2 (hle.trans hle2))
  rw [if_neg (by omega)] at k
  have l1 := sgT_len a; have l2 := sgT_len b
  refine BrE (fun h => ?_) (fun h => ?_)
  · rw [if_pos (by omega)] at k
    refine ⟨m1, Le.refl _, ?_⟩
    refine ⟨by omega, by omega, ?_⟩
    refine LdV.s0 e1 (UnI.mk ?_)
    refine ⟨by omega, by omega, ?_⟩
    refine LdV.s1 e1 (UnI.mk ?_)
    refine csign_spec (by omega) ?_
    intro m2 hle2
    dsimp only [Cont]
    refine UnStr.mk (Lk.all hle2 ?_)
    refine csign_spec hb ?_
    intro m3 hle3
    dsimp only [Cont]
    refine UnStr.mk (CatB_bs (by omega) ?_)
    rw [bstr_append]
    exact k m3 ((hle.trans hle2).trans hle3)
  · rw [if_neg (by omega)] at k
    refine ⟨m1, Le.refl _, ?_⟩
    refine ⟨by omega, by omega, ?_⟩
    refine LdV.s0 e1 (UnI.mk ?_)
    refine ⟨by omega, by omega, ?_⟩
    refine LdV.s1 e1 (UnI.mk ?_)
    refine csign_spec (by omega) ?_
    intro m2 hle2
    dsimp only [Cont]
    refine UnStr.mk (Lk.all hle2 ?_)
    refine CatB_bs (b := [45]) (by simp; omega) ?_
    refine csign_spec hb ?_
    intro m3 hle3
    dsimp only [Cont]
    refine UnStr.mk ?_
    have e : bstr (sgT a) ++ ByteArray.mk #[45] = bstr (sgT a ++ [45]) := bstr_append _ [45]
    rw [e]
    refine CatB_bs (by simp; omega) ?_
    rw [bstr_append, List.append_assoc]
    exact k m3 ((hle.trans hle2).trans hle3)
end Go.E
set_option linter.unusedVariables false
set_option linter.unusedSimpArgs false
set_option maxRecDepth 20000
namespace Go.E
open Go.H
attribute [local irreducible] BiN MkS ConvN LookN MapUpN CallV HC limb dbTab
/-- One more byte. -/
def runS (l : List (Nat × Nat)) (k : Nat) : List (Nat × Nat) :=
  match l.getLast? with
  | some (a, b) => if b + 1 = k then l.dropLast ++ [(a, k)] else l ++ [(k, k)]
  | none => [(k, k)]
def runL (f : Nat → Bool) : Nat → List (Nat × Nat)
  | 0 => []
  | k + 1 => if f k = true then runS (runL f k) k else runL f k
theorem runS_nil (k : Nat) : runS [] k = [(k, k)] := rfl
theorem runS_snoc (l : List (Nat × Nat)) (a b k : Nat) : runS (l ++ [(a, b)]) k = if b + 1 = k then l ++ [(a, k)] else (l ++ [(a, b)]) ++ [(k, k)] := by
  unfold runS
  rw [List.getLast?_append]
  simp
theorem run_len (f : Nat → Bool) : ∀ k, (runL f k).length ≤ k
  | 0 => by simp [runL]
  | k + 1 => by
    have ih := run_len f k
    unfold runL
    split
    · rcases List.eq_nil_or_concat (runL f k) with h | ⟨l0, ⟨a, b⟩, h⟩
      · rw [h, runS_nil]; simp
      · rw [h] at ih ⊢
        rw [List.concat_eq_append] at ih ⊢
        rw [runS_snoc]
        split <;> simp at ih ⊢ <;> omega
    · omega
theorem run_ok (f : Nat → Bool) : ∀ k, ∀ p ∈ runL f k, p.1 ≤ p.2 ∧ p.2 < k
  | 0 => by simp [runL]
  | k + 1 => by
    have ih := run_ok f k
    intro p hp
    unfold runL at hp
    split at hp
    · rcases List.eq_nil_or_concat (runL f k) with h | ⟨l0, ⟨a, b⟩, h⟩
      · rw [h, runS_nil] at hp
        simp at hp; subst hp; simp
      · rw [List.concat_eq_append] at h
        rw [h] at hp ih
        rw [runS_snoc] at hp
        have hab := ih (a, b) (by simp)
        split at hp
        · rcases List.mem_append.mp hp with h1 | h1
          · have := ih p (by simp [h1]); omega
          · simp at h1; subst h1; simp; simp at hab; omega
        · rcases List.mem_append.mp hp with h1 | h1
          · have := ih p h1; omega
          · simp at h1; subst h1; simp
    · have := ih p hp; omega
def rv (p : Nat × Nat) : List Value := [.int .u8 (p.1 : Int), .int .u8 (p.2 : Int)]
theorem rv_len (p : Nat × Nat) : (rv p).length = 2 := rfl
theorem eA2 : ElemOK P T_sl_arr2_uint8 T_arr2_uint8 (.agg #[.int .u8 0, .int .u8 0]) 2 2 := .of (by kernel_rfl) (by kernel_rfl) rfl
/-- A row of runs under way, new over ms. -/
structure RwR (ms mm : Mem) (a : Option Addr) (l c : Nat) (rs : List (Nat × Nat)) : Prop where
  le : Le ms mm
  own : Own mm T_arr2_uint8 2 a l c (rs.flatMap rv)
  fr : Fresh ms a
theorem RwR.len {ms mm : Mem} {a : Option Addr} {l c : Nat} {rs : List (Nat × Nat)} (h : RwR ms mm a l c rs) : rs.length = l := by
  have := h.own.1
  rw [rows_len rv_len] at this
  omega
theorem runs_spec {f : Nat → Bool} {m : Mem} {R : Ending → Mem → Prop} (h : ∀ m' a l c, RwR m m' a l c (runL f 256) → R (.returned (.slice a l c)) m') : HC P class_runs.id #[setv f] m R := by
  refine class_runs.ok _ _ _ _ _ _ ?_
  intro ba hba
  have hle0 := Le.set hba (.cells (cells4 f) T_api_Set (0, 0))
  have ea : (m.set ba (.cells (cells4 f) T_api_Set (0, 0))) ba = some (.cells (cells4 f) T_api_Set (0, 0)) := set_same _ _ _
  generalize (m.set ba (.cells (cells4 f) T_api_Set (0, 0))) = ms at hle0 ea
  refine ⟨fun N a1b a1o la ll lc i mm => a1b = ba ∧ a1o = 0 ∧ ∃ k : Nat, i = k ∧ N = 256 - k ∧ k ≤ 256 ∧ RwR ms mm la ll lc (runL f k), 256, ⟨rfl, rfl, 0, rfl, rfl, by omega, ⟨Le.refl _, Own.nil _ _ _, Fresh.none _⟩⟩, ?_⟩
  rintro N a1b a1o la ll lc i mm ⟨rfl, rfl, k, rfl, rfl, hk, hr⟩
  have hl := hr.len
  have hl2 := run_len f k
  refine BrD (fun hlt => ?_) (fun hge => ?_)
  rotate_left
  · have : k = 256 := by omega
    subst this
    exact h _ _ _ _ ⟨hle0.trans hr.le, hr.own, Fresh.le hle0 hr.fr⟩
  refine get4 (hr.le _ _ ea) ?_
  rw [u8w (by omega)]
  refine Has_spec (by omega) ?_
  intro m1 hle1
  have hr1 : RwR ms m1 la ll lc (runL f k) := ⟨hr.le.trans hle1, Own.le hle1 hr.own, hr.fr⟩
  dsimp only [Cont]
  refine UnB.mk ?_
  have w : IntKind.i64.wrap ((k : Int) + 1) = ((k + 1 : Nat) : Int) := by rw [wi (by omega) (by omega)]; omega
  refine Br.mk (fun hb => ?_) (fun hb => ?_)
  · have hb : f k = false := by simpa using hb
    refine ⟨_, ?_, rfl, rfl, k + 1, w, rfl, by omega, by unfold runL; rw [if_neg (by rw [hb]; simp)]; exact hr1⟩
    omega
  have hb : f k = true := by simpa using hb
  have wl : IntKind.i64.wrap (((ll : Nat) : Int) - 1) = (ll : Int) - 1 := wi (by omega) (by omega)
  rw [wl]
  -- a new run
  have fresh : runL f (k + 1) = runL f k ++ [(k, k)] → class_runs.k2 (fun s_1b s_1o xa xl xc x6 m => ∃ N1, N1 < 256 - k ∧ (fun N b1 b1o la ll lc i mm => b1 = a1b ∧ b1o = 0 ∧ ∃ k : Nat, i = (k : Int) ∧ N = 256 - k ∧ k ≤ 256 ∧ RwR ms mm la ll lc (runL f k)) N1 s_1b s_1o xa xl xc x6 m)
      a1b 0 la ll lc (k : Int) ((ll : Int) - 1) (k : Int) false R m1 := by
    intro hrun
    unfold class_runs.k2
    refine Br.mk (fun h => by cases h) (fun _ => ?_)
    rw [u8w (k := k) (by omega)]
    refine push_row eA2 (by omega) hr1.own rfl (by intro v hv; simp at hv; rcases hv with rfl | rfl <;> rfl) (by omega) (by omega) ?_
    intro a' c' m' hch ho hbk
    refine UnS.mk ?_
    refine ⟨256 - (k + 1), by omega, rfl, rfl, k + 1, w, rfl, by omega, ?_⟩
    refine ⟨hch.to_le hr1.le (fun b e => hr1.fr b e), ?_, ?_⟩
    · rw [hrun, List.flatMap_append]
      exact ho
    · rcases hbk with e | e
      · intro b eb; exact hr1.fr b (e ▸ eb)
      · exact Fresh.le hr1.le e
  have grow : ∀ l0 a b, runL f k = l0 ++ [(a, b)] → runL f (k + 1) = l0 ++ [(a, k)] → class_runs.k2 (fun s_1b s_1o xa xl xc x6 m => ∃ N1, N1 < 256 - k ∧ (fun N b1 b1o la ll lc i mm => b1 = a1b ∧ b1o = 0 ∧ ∃ k : Nat, i = (k : Int) ∧ N = 256 - k ∧ k ≤ 256 ∧ RwR ms mm la ll lc (runL f k)) N1 s_1b s_1o xa xl xc x6 m)
      a1b 0 la ll lc (k : Int) ((ll : Int) - 1) (k : Int) true R m1 := by
    intro l0 a b h1 h2
    have hll : ll = l0.length + 1 := by rw [← hl, h1]; simp
    unfold class_runs.k2
    refine Br.mk (fun _ => ?_) (fun h => by cases h)
    rw [u8w (k := k) (by omega)]
    have : IxS la ll ((ll : Int) - 1) 2 (fun b o => St1 m1 b (o + 1) (.int .u8 (k : Int)) fun m1 => ∃ N1, N1 < 256 - k ∧ (fun N b1 b1o la ll lc i mm => b1 = a1b ∧ b1o = 0 ∧ ∃ k : Nat, i = (k : Int) ∧ N = 256 - k ∧ k ≤ 256 ∧ RwR ms mm la ll lc (runL f k)) N1 a1b 0 la ll lc (IntKind.i64.wrap ((k : Int) + 1)) m1) := by
      refine hr1.own.stN (by omega) (by omega) (by omega) rfl ?_
      intro m' hch ho
      refine ⟨256 - (k + 1), by omega, rfl, rfl, k + 1, w, rfl, by omega, hch.to_le hr1.le (fun b e => hr1.fr b e), ?_, hr1.fr⟩
      have e : ((ll : Int) - 1).toNat = l0.length := by omega
      rw [e, h1, List.flatMap_append] at ho
      rw [h2, List.flatMap_append]
      have hln : (l0.flatMap rv).length = l0.length * 2 := rows_len rv_len l0
      rw [List.set_append, if_neg (by omega)] at ho
      rw [show l0.length * 2 + 1 - (l0.flatMap rv).length = 1 by omega] at ho
      exact ho
    obtain ⟨t0, t1, t2⟩ := this
    refine ⟨t0, t1, ?_⟩
    revert t2
    cases la with
    | none => exact fun h => h
    | some ad =>
      obtain ⟨bb, oo, ee⟩ := ad
      cases ee with
      | none => exact fun h => ⟨by omega, by omega, h⟩
      | some _ => exact fun h => h
  rcases List.eq_nil_or_concat (runL f k) with hnil | ⟨l0, ⟨a, b⟩, hcon⟩
  · refine BrDf (by rw [hnil] at hl; simp at hl; omega) ?_
    exact fresh (by rw [runL, if_pos hb, hnil, runS_nil]; rfl)
  · rw [List.concat_eq_append] at hcon
    have hll : ll = l0.length + 1 := by rw [← hl, hcon]; simp
    refine BrDt (by omega) ?_
    have hab := run_ok f k (a, b) (by rw [hcon]; simp)
    simp only at hab
    refine IxS.rows rv_len (by omega) hr1.own.cells hl (by omega) (by omega) ?_
    intro bb oo x hx hcell
    have e : ((ll : Int) - 1).toNat = l0.length := by omega
    rw [e, hcon, List.getElem?_append_right (Nat.le_refl _)] at hx
    simp at hx
    subst hx
    refine ⟨by omega, by omega, ?_⟩
    refine LdV.mk (v := .int .u8 (b : Int)) (hcell 1 _ rfl) ?_
    refine UnI.mk ?_
    rw [wi (n := (b : Int)) (by omega) (by omega), wi (n := (k : Int) - 1) (by omega) (by omega)]
    have hrun : runL f (k + 1) = if b + 1 = k then l0 ++ [(a, k)] else (l0 ++ [(a, b)]) ++ [(k, k)] := by
      rw [runL, if_pos hb, hcon, runS_snoc]
    cases hd : (((b : Int)) == ((k : Int) - 1)) with
    | true =>
      have hd := beq_iff_eq.mp hd
      rw [if_pos (by omega)] at hrun
      exact grow l0 a b hcon hrun
    | false =>
      have hd := beq_eq_false_iff_ne.mp hd
      rw [if_neg (by omega), ← hcon] at hrun
      exact fresh hrun
end Go.E
set_option linter.unusedVariables false
set_option linter.unusedSimpArgs false
set_option maxRecDepth 20000
namespace Go.E
open Go.H
attribute [local irreducible] BiN MkS ConvN LookN MapUpN CallV HC limb dbTab
def joinR (rs : List (Nat × Nat)) : List UInt8 := rs.flatMap fun p => shT p.1 p.2
def fullS (f : Nat → Bool) : Bool := emptyS fun b => !f b
def brk (rs : List (Nat × Nat)) : List UInt8 := ([91] ++ joinR rs) ++ [93]
/-- How a set is shown. -/
def shW (f : Nat → Bool) : List UInt8 :=
  if (runL f 256).length = 0 then []
  else if fullS f = true then [46]
  else match runL f 256 with
    | [(a, b)] => if a = b then sgT a else brk [(a, b)]
    | rs => brk rs
theorem shT_len (a b : Nat) : (shT a b).length ≤ 9 := by
  have h1 := sgT_len a; have h2 := sgT_len b
  unfold shT
  split
  · omega
  · split <;> simp <;> omega
theorem joinR_len : ∀ rs : List (Nat × Nat), (joinR rs).length ≤ 9 * rs.length
  | [] => by simp [joinR]
  | p :: rs => by
    have h := joinR_len rs
    have h2 := shT_len p.1 p.2
    unfold joinR at h ⊢
    rw [List.flatMap_cons, List.length_append, List.length_cons]
    omega
theorem joinR_take {rs : List (Nat × Nat)} {i : Nat} {p : Nat × Nat} (h : rs[i]? = some p) : joinR (rs.take (i + 1)) = joinR (rs.take i) ++ shT p.1 p.2 := by
  unfold joinR
  rw [List.take_add_one, h, List.flatMap_append]
  simp
theorem l3_spec {m mm : Mem} {a : Option Addr} {l c : Nat} {rs : List (Nat × Nat)} (hle : Le m mm) (hc : CellsAt mm a (rs.flatMap rv)) (hl : rs.length = l) (hlen : l ≤ 256) (hok : ∀ p ∈ rs, p.1 ≤ p.2 ∧ p.2 < 256) {R : Ending → Mem → Prop}
    (k : ∀ m', Le m m' → R (.returned (.string (bstr (brk rs)))) m') : class_Show.k2 a l c R mm := by
  unfold class_Show.k2
  refine ⟨fun N out xa xl xc n i m3 => xa = a ∧ xl = l ∧ xc = c ∧ n = (l : Int) ∧ ∃ j : Nat, i = j ∧ N = l - j ∧ j ≤ l ∧ out = bstr ([91] ++ joinR (rs.take j)) ∧ Le mm m3, l, ⟨rfl, rfl, rfl, rfl, 0, rfl, rfl, by omega, rfl, Le.refl _⟩, ?_⟩
  rintro N out xa xl xc n i m3 ⟨rfl, rfl, rfl, rfl, j, rfl, rfl, hj, rfl, hle3⟩
  have hjl := joinR_len (rs.take j)
  have htl : (rs.take j).length ≤ j := by rw [List.length_take]; omega
  refine BrD (fun hlt => ?_) (fun hge => ?_)
  · refine IxS.rows rv_len (by omega) (hc.le hle3) hl (by omega) (by omega) ?_
    intro bb oo p hp hcell
    rw [Int.toNat_natCast] at hp
    have hpm : p ∈ rs := List.mem_of_getElem? hp
    obtain ⟨h1, h2⟩ := hok p hpm
    refine LdV.mk (v := .int .u8 (p.1 : Int)) (by have := hcell 0 _ rfl; exact this) ?_
    refine UnI.mk ?_
    refine LdV.mk (v := .int .u8 (p.2 : Int)) (hcell 1 _ rfl) ?_
    refine UnI.mk ?_
    intro b6 hb6
    refine St1.two (u := .int .u8 (p.1 : Int)) (v := .int .u8 (p.2 : Int)) (set_same _ _ _) rfl rfl ?_
    rw [set_set]
    refine LdV.s0 (set_same _ _ _) (UnI.mk ?_)
    refine LdV.s1 (set_same _ _ _) (UnI.mk ?_)
    refine shown_spec h1 h2 ?_
    intro m5 hle5
    dsimp only [Cont]
    have hs9 := shT_len p.1 p.2
    refine UnStr.mk (CatB_bs (by simp; omega) ?_)
    refine ⟨xl - (j + 1), by omega, rfl, rfl, rfl, rfl, j + 1, ?_, rfl, by omega, ?_, (hle3.trans (Le.set hb6 _)).trans hle5⟩
    · rw [wi (by omega) (by omega)]; omega
    · rw [bstr_append, joinR_take hp, List.append_assoc]
  · have : j = rs.length := by omega
    subst this
    rw [List.take_length] at hjl ⊢
    have e : bstr ([91] ++ joinR rs) ++ ByteArray.mk #[93] = bstr (brk rs) := bstr_append _ [93]
    rw [e]
    refine ⟨?_, k _ (hle.trans hle3)⟩
    rw [bstr_size]
    show _ + 1 ≤ _
    simp; omega
theorem Show_spec {f : Nat → Bool} {m : Mem} {R : Ending → Mem → Prop} (k : ∀ m', Le m m' → R (.returned (.string (bstr (shW f)))) m') : HC P class_Show.id #[setv f] m R := by
  refine class_Show.ok _ _ _ _ _ _ ?_
  intro b1 hb1
  have hle0 := Le.set hb1 (.cells (cells4 f) T_api_Set (0, 0))
  have ea : (m.set b1 (.cells (cells4 f) T_api_Set (0, 0))) b1 = some (.cells (cells4 f) T_api_Set (0, 0)) := set_same _ _ _
  generalize (m.set b1 (.cells (cells4 f) T_api_Set (0, 0))) = ms at hle0 ea
  refine get4 ea ?_
  refine runs_spec ?_
  intro m2 a l c hr
  have hl := hr.len
  have hl2 := run_len f 256
  have hok := run_ok f 256
  unfold shW at k
  generalize runL f 256 = rs at hr hl hl2 hok k
  dsimp only [Cont]
  refine UnS.mk ?_
  refine BrE (fun h0 => ?_) (fun h0 => ?_)
  · rw [if_pos (by omega)] at k
    exact k _ (hle0.trans hr.le)
  rw [if_neg (by omega)] at k
  refine ⟨m2, Le.refl _, ?_⟩
  refine get4 (hr.le _ _ ea) ?_
  have hz : (.agg #[.int .u64 0, .int .u64 0, .int .u64 0, .int .u64 0] : Value) = setv fun _ => false := by
    unfold setv; rw [L_zero, L_zero, L_zero, L_zero]
  rw [hz]
  refine Not_spec ?_
  intro m4 hle4
  refine ContSet.mk ?_
  refine Lk.all hle4 ?_
  have hfull := eq4 f fun b => !(fun _ => false) b
  have hfe : (fullS f = true) ↔ ∀ b, b < 256 → f b = true := by
    unfold fullS emptyS
    simp
  refine Br.mk (fun h => ?_) (fun h => ?_)
  · have := hfe.mpr (fun b hb => by have := hfull.mp h b hb; simpa using this)
    rw [if_pos this] at k
    exact k _ ((hle0.trans hr.le).trans hle4)
  · have hnf : ¬ fullS f = true := fun h2 => by
      have := hfull.mpr (fun b hb => by simpa using hfe.mp h2 b hb)
      rw [this] at h; cases h
    rw [if_neg hnf] at k
    have hcm : CellsAt m4 a (rs.flatMap rv) := hr.own.cells.le hle4
    refine ⟨m4, Le.refl _, ?_⟩
    have tail : (∀ m', Le m m' → R (.returned (.string (bstr (brk rs)))) m') → class_Show.k1 a l c false R m4 := fun kk => by
      unfold class_Show.k1
      refine Br.mk (fun h => by cases h) (fun _ => ?_)
      exact l3_spec ((hle0.trans hr.le).trans hle4) hcm hl (by omega) hok kk
    refine BrE (fun h1 => ?_) (fun h1 => ?_)
    · obtain ⟨⟨p, q⟩, rfl⟩ : ∃ x, rs = [x] := List.length_eq_one_iff.mp (by omega)
      have hpq := hok (p, q) (by simp)
      simp only at hpq k
      refine IxS.rows rv_len (by omega) hcm hl (by omega) (by omega) ?_
      intro bb oo x hx hcell
      have hx : [(p, q)][0]? = some x := hx
      simp at hx; subst hx
      refine ⟨by omega, by omega, ?_⟩
      refine LdV.mk (v := .int .u8 (p : Int)) (by have := hcell 0 _ rfl; exact this) ?_
      refine UnI.mk ?_
      refine IxS.rows rv_len (by omega) hcm hl (by omega) (by omega) ?_
      intro bb2 oo2 x hx hcell2
      have hx : [(p, q)][0]? = some x := hx
      simp at hx; subst hx
      refine ⟨by omega, by omega, ?_⟩
      refine LdV.mk (v := .int .u8 (q : Int)) (hcell2 1 _ rfl) ?_
      refine UnI.mk ?_
      cases hd : ((p : Int) == (q : Int)) with
      | false =>
        have hd := beq_eq_false_iff_ne.mp hd
        rw [if_neg (by omega)] at k
        exact tail k
      | true =>
        have hd := beq_iff_eq.mp hd
        rw [if_pos (by omega)] at k
        unfold class_Show.k1
        refine Br.mk (fun _ => ?_) (fun h => by cases h)
        refine IxS.rows rv_len (by omega) hcm hl (by omega) (by omega) ?_
        intro bb oo x hx hcell
        have hx : [(p, q)][0]? = some x := hx
        simp at hx; subst hx
        refine ⟨by omega, by omega, ?_⟩
        refine LdV.mk (v := .int .u8 (p : Int)) (by have := hcell 0 _ rfl; exact this) ?_
        refine UnI.mk ?_
        refine csign_spec (by omega) ?_
        intro m5 hle5
        dsimp only [Cont]
        exact UnStr.mk (k _ (((hle0.trans hr.le).trans hle4).trans hle5))
    · refine tail ?_
      match rs, k with
      | [], _ => exact absurd (show (l : Int) = 0 by simp at hl; omega) h0
      | [_], _ => exact absurd (show (l : Int) = 1 by simp at hl; omega) h1
      | x :: y :: r, k => exact k
end Go.E
set_option linter.unusedVariables false
set_option linter.unusedSimpArgs false
set_option maxRecDepth 20000
namespace Go.E.Rg
open Go.H Go.E
inductive Rx where
  | mk (k : Int) (S : Nat → Bool) (ps : List Rx)
def Rx.k : Rx → Int | .mk k _ _ => k
def Rx.S : Rx → Nat → Bool | .mk _ S _ => S
def Rx.ps : Rx → List Rx | .mk _ _ ps => ps
theorem Rx.ind {C : Rx → Prop} (h : ∀ k S ps, (∀ a ∈ ps, C a) → C (.mk k S ps)) (r : Rx) : C r :=
  Rx.rec (motive_1 := C) (motive_2 := fun ps => ∀ a ∈ ps, C a) (fun k S ps ih => h k S ps ih) (fun a h => by cases h)
    (fun r rs h1 h2 a ha => by rcases List.mem_cons.mp ha with e | e; exact e ▸ h1; exact h2 a e) r
def noS : Nat → Bool := fun _ => false
def rx0 : Rx := .mk 0 noS []
def sgK (k : Int) : Bool := decide (4 ≤ k) && decide (k ≤ 6)
mutual
def form : Rx → Bool
  | .mk k S ps =>
    if k = 1 then ps.isEmpty && !emptyS S
    else if emptyS S = false then false
    else if k = 2 ∨ k = 3 then decide (2 ≤ ps.length) && formL k ps
    else if sgK k = true then decide (ps.length = 1) && !(ps.any fun a => sgK a.k) && formL k ps
    else false
def formL (k : Int) : List Rx → Bool
  | [] => true
  | r :: rs => (decide (r.k ≠ k) && form r) && formL k rs
end
mutual
def nodes : Rx → Nat
  | .mk _ _ ps => nodesL ps + 1
def nodesL : List Rx → Nat
  | [] => 0
  | r :: rs => nodes r + nodesL rs
end
mutual
def depth : Rx → Nat
  | .mk _ _ ps => depthL ps + 1
def depthL : List Rx → Nat
  | [] => 0
  | r :: rs => max (depth r) (depthL rs)
end
def may (r : Rx) : Int := if form r = true then (if 40 < nodes r ∨ 12 < depth r then 6 else 0) else 2
def rank (k : Int) : Int := if k = 3 then 0 else if k = 2 then 1 else if k = 1 then 3 else 2
def joinBar : List (List UInt8) → List UInt8
  | [] => []
  | [x] => x
  | x :: y :: r => x ++ 124 :: joinBar (y :: r)
def sgB (k : Int) : UInt8 := if k = 4 then 42 else if k = 5 then 43 else 63
mutual
def shw : Rx → List UInt8
  | .mk k S ps =>
    if k = 1 then shW S
    else if k = 3 then joinBar (shwL (rank k + 1) ps)
    else if sgK k = true then (shwL (rank k + 1) ps).flatten ++ [sgB k]
    else (shwL (rank k + 1) ps).flatten
def shwL (least : Int) : List Rx → List (List UInt8)
  | [] => []
  | r :: rs => (if rank r.k < least then 40 :: shw r ++ [41] else shw r) :: shwL least rs
end
mutual
def null : Rx → Bool
  | .mk k _ ps =>
    if k = 4 ∨ k = 6 then true
    else if k = 2 ∨ k = 5 then nullA ps
    else if k = 3 then nullE ps
    else false
def nullA : List Rx → Bool
  | [] => true
  | r :: rs => null r && nullA rs
def nullE : List Rx → Bool
  | [] => false
  | r :: rs => null r || nullE rs
end
def orL (a b : List Bool) : List Bool := List.zipWith (fun x y => x || y) a b
def newL (out l : List Bool) : Bool := (List.zipWith (fun x y => y && !x) out l).any id
def setE (S : Nat → Bool) (w : List UInt8) (at_ : List Bool) : List Bool := false :: List.zipWith (fun a (c : UInt8) => a && S c.toNat) at_ w
def manyE (f : List Bool → List Bool) : Nat → List Bool → List Bool → List Bool
  | 0, out, _ => out
  | n + 1, out, more => if newL out more = true then manyE f n (orL out more) (f more) else orL out more
mutual
def ends (w : List UInt8) : Rx → List Bool → List Bool
  | .mk k S ps, at_ =>
    if k = 1 then setE S w at_
    else if k = 2 then endsC w ps at_
    else if k = 3 then endsA w ps at_ (List.replicate (w.length + 1) false)
    else if k = 6 then orL (orL (List.replicate (w.length + 1) false) at_) (ends1 w ps at_)
    else manyE (ends1 w ps) (w.length + 1) (if k = 4 then orL (List.replicate (w.length + 1) false) at_ else List.replicate (w.length + 1) false) (ends1 w ps at_)
def endsC (w : List UInt8) : List Rx → List Bool → List Bool
  | [], at_ => at_
  | r :: rs, at_ => endsC w rs (ends w r at_)
def endsA (w : List UInt8) : List Rx → List Bool → List Bool → List Bool
  | [], _, out => out
  | r :: rs, at_, out => endsA w rs at_ (orL out (ends w r at_))
def ends1 (w : List UInt8) : List Rx → List Bool → List Bool
  | [], at_ => at_
  | r :: _, at_ => ends w r at_
end
def isIn (r : Rx) (w : List UInt8) : Bool := decide (may r = 0) && (ends w r (true :: List.replicate w.length false)).getD w.length false
abbrev Res := Except Int (Rx × List UInt8)
def one (k : Int) (l : List Rx) : Rx := match l with | [x] => x | _ => .mk k noS l
def sgI (c : UInt8) : Option Int := if c = 42 then some 4 else if c = 43 then some 5 else if c = 63 then some 6 else none
def atomF (alt : Nat → List UInt8 → Res) (d : Nat) (s : List UInt8) : Res :=
  match s with
  | 40 :: s' => if 13 ≤ d then .error 6 else match alt (d + 1) s' with
    | .ok (x, 41 :: s'') => .ok (x, s'')
    | .ok _ => .error 2
    | .error e => .error e
  | s => match cls s with
    | some (S, n) => .ok (.mk 1 S [], s.drop n)
    | none => .error 2
def repF (alt : Nat → List UInt8 → Res) (d : Nat) (s : List UInt8) : Res :=
  match atomF alt d s with
  | .ok (x, c :: s') => match sgI c with
    | some k => .ok (.mk k noS [x], s')
    | none => .ok (x, c :: s')
  | r => r
def catL (alt : Nat → List UInt8 → Res) (d : Nat) : Nat → List Rx → List UInt8 → Except Int (List Rx × List UInt8)
  | 0, l, s => .error 0
  | n + 1, l, s => match s with
    | [] => .ok (l, s)
    | c :: _ => if c = 124 ∨ c = 41 then .ok (l, s) else match repF alt d s with
      | .ok (x, s') => catL alt d n (l ++ [x]) s'
      | .error e => .error e
def catF (alt : Nat → List UInt8 → Res) (d : Nat) (s : List UInt8) : Res :=
  match repF alt d s with
  | .ok (x, s') => match catL alt d (s'.length + 1) [x] s' with
    | .ok (l, s'') => .ok (one 2 l, s'')
    | .error e => .error e
  | .error e => .error e
def altL (alt : Nat → List UInt8 → Res) (d : Nat) : Nat → List Rx → List UInt8 → Except Int (List Rx × List UInt8)
  | 0, l, s => .error 0
  | n + 1, l, s => match s with
    | 124 :: s' => match catF alt d s' with
      | .ok (x, s'') => altL alt d n (l ++ [x]) s''
      | .error e => .error e
    | s => .ok (l, s)
def altF (alt : Nat → List UInt8 → Res) (d : Nat) (s : List UInt8) : Res :=
  match catF alt d s with
  | .ok (x, s') => match altL alt d (s'.length + 1) [x] s' with
    | .ok (l, s'') => .ok (one 3 l, s'')
    | .error e => .error e
  | .error e => .error e
def pAlt : Nat → Nat → List UInt8 → Res
  | 0 => fun _ _ => .error 6
  | n + 1 => altF (pAlt n)
def parse (s : List UInt8) : Except Int Rx :=
  match pAlt 14 0 s with
  | .ok (x, []) => if may x = 0 then .ok x else .error (may x)
  | .ok _ => .error 2
  | .error e => .error e
end Go.E.Rg
set_option linter.unusedVariables false
set_option linter.unusedSimpArgs false
set_option maxRecDepth 20000
namespace Go.E
open Go.H
attribute [local irreducible] BiN MkS ConvN LookN MapUpN CallV HC limb dbTab
/-- A law's end: true, and nothing turned. -/
def Fine (m : Mem) : Ending → Mem → Prop := fun e m' => e = .returned (.bool true) ∧ Le m m'
theorem ContP.mk {u0 u1 u2 u3 n e : Int} {K : Int → Int → Int → Int → Int → Int → Mem → Prop} {Pn : List PanicEntry → Mem → Prop} {m : Mem} (k : K u0 u1 u2 u3 n e m) :
    Cont (fun v m => UnTup v fun us0 => UnCons us0 fun w us1 => UnAgg w fun l => UnCons l fun v l => UnI v .u64 fun x0 => UnCons l fun v l => UnI v .u64 fun x1 => UnCons l fun v l => UnI v .u64 fun x2 => UnCons l fun v l => UnI v .u64 fun x3 => UnNil l (
      UnCons us1 fun w us2 => UnI w .i64 fun n => UnCons us2 fun w us3 => UnI w .i64 fun e => UnNil us3 (K x0 x1 x2 x3 n e m))) Pn
      (.returned (.tuple #[.agg #[.int .u64 u0, .int .u64 u1, .int .u64 u2, .int .u64 u3], .int .i64 n, .int .i64 e])) m := k
/-- A set in a place of its own. -/
theorem own4 {m : Mem} {t : TypeId} {u0 u1 u2 u3 : Int} {x0 x1 x2 x3 : Value} {K : Nat → Mem → Prop}
    (k : ∀ b m', Le m m' → m b = none → m' b = some (.cells #[.int .u64 u0, .int .u64 u1, .int .u64 u2, .int .u64 u3] t (0, 0)) → K b m') :
    NewC m #[x0, x1, x2, x3] t fun b m1 => St1 m1 b 0 (.int .u64 u0) fun m2 => St1 m2 b 1 (.int .u64 u1) fun m3 => St1 m3 b 2 (.int .u64 u2) fun m4 => St1 m4 b 3 (.int .u64 u3) fun m5 => K b m5 := by
  intro b hb
  refine put4 (set_same _ _ _) ?_
  rw [set_set]
  exact k b _ (Le.set hb _) hb (set_same _ _ _)
theorem Glob.of_cells {W : World} (h : ∀ r (hr : r < dbTab.length), W.cell? ⟨1, r, none⟩ = some (.int .u8 ((dbTab[r] : Nat) : Int))) : Glob (heapM W) := by
  refine CellsAt.given (a := ⟨1, 0, none⟩) fun j u hu => ?_
  rw [List.getElem?_map] at hu
  by_cases hj : j < dbTab.length
  · rw [List.getElem?_eq_getElem hj] at hu
    cases hu
    have := h j hj
    have e : (⟨1, 0, none⟩ : Addr).add j = ⟨1, j, none⟩ := by cases j with | zero => rfl | succ j => simp [Addr.add]
    rw [e]; exact this
  · rw [List.getElem?_eq_none (by omega)] at hu
    cases hu
end Go.E
set_option linter.unusedVariables false
set_option linter.unusedSimpArgs false
set_option maxRecDepth 20000
namespace Go.E
open Go.H
attribute [local irreducible] BiN MkS ConvN LookN MapUpN CallV HC limb dbTab
theorem nx_drop (l : List UInt8) (i k : Nat) : nx (l.drop i) k = nx l (i + k) := by
  unfold nx
  rw [List.getD_eq_getElem?_getD, List.getD_eq_getElem?_getD, List.getElem?_drop]
theorem nx_cons0 (x : UInt8) (l : List UInt8) : nx (x :: l) 0 = x.toNat := rfl
theorem sgn_drop (l : List UInt8) (i : Nat) : sgn l i = (sgn (l.drop i) 0).map fun p => (p.1, i + p.2) := by
  by_cases hi : l.length ≤ i
  · unfold sgn
    rw [if_pos hi, if_pos (by rw [List.length_drop]; omega)]; rfl
  · unfold sgn
    simp only [nx_drop, List.length_drop, Nat.zero_add, Nat.add_zero]
    have e0 : (l.length - i ≤ 0) ↔ (l.length ≤ i) := by omega
    have e1 : (l.length - i ≤ 1) ↔ (l.length ≤ i + 1) := by omega
    have e2 : (l.length - i ≤ 2) ↔ (l.length ≤ i + 2) := by omega
    have e3 : (l.length - i ≤ 3) ↔ (l.length ≤ i + 3) := by omega
    simp only [e0, e1, e2, e3, if_neg hi]
    split
    · split <;> simp
    · split
      · rfl
      · split
        · split <;> simp
        · split <;> simp
theorem sgn_at {l t rest : List UInt8} {i c n : Nat} (h : l.drop i = t ++ rest) (k : sgn (t ++ rest) 0 = some (c, n)) : sgn l i = some (c, i + n) := by
  rw [sgn_drop, h, k]; rfl
/-- A sign in sixteens. -/
def hx (c : Nat) : List UInt8 := [92, 120, hexd (c / 16), hexd (c % 16)]
theorem dig_hexd : ∀ k, k < 16 → dig (hexd k).toNat = k := by decide +kernel
theorem sgn_hx {c : Nat} (hc : c < 256) (rest : List UInt8) : sgn (hx c ++ rest) 0 = some (c, 4) := by
  unfold sgn hx
  have d1 := dig_hexd (c / 16) (by omega)
  have d2 := dig_hexd (c % 16) (by omega)
  have n0 : nx (([92, 120, hexd (c / 16), hexd (c % 16)] : List UInt8) ++ rest) 0 = 92 := rfl
  have n1 : nx (([92, 120, hexd (c / 16), hexd (c % 16)] : List UInt8) ++ rest) (0 + 1) = 120 := rfl
  have n2 : nx (([92, 120, hexd (c / 16), hexd (c % 16)] : List UInt8) ++ rest) (0 + 2) = (hexd (c / 16)).toNat := rfl
  have n3 : nx (([92, 120, hexd (c / 16), hexd (c % 16)] : List UInt8) ++ rest) (0 + 3) = (hexd (c % 16)).toNat := rfl
  rw [n0, n1, n2, n3, d1, d2]
  have hl : (([92, 120, hexd (c / 16), hexd (c % 16)] : List UInt8) ++ rest).length = rest.length + 4 := by simp
  rw [hl, if_neg (by omega), if_neg (by simp), if_neg (by omega), if_pos rfl, if_neg (by omega)]
  have : c / 16 * 16 + c % 16 = c := by omega
  rw [this]
theorem toNat_of {c : Nat} (hc : c < 256) : (UInt8.ofNat c).toNat = c := by simp [UInt8.toNat_ofNat']; omega
theorem isSp120 : isSp 120 = false := by decide
theorem isSp92 : isSp 92 = true := by decide
theorem sgn_sgT {c : Nat} (hc : c < 256) (rest : List UInt8) : sgn (sgT c ++ rest) 0 = some (c, (sgT c).length) := by
  unfold sgT
  by_cases h1 : c < 33 ∨ 126 < c
  · rw [if_pos h1]; exact sgn_hx hc rest
  rw [if_neg h1]
  by_cases h2 : isSp c = true
  · rw [if_pos h2]
    unfold sgn
    have n0 : nx (([92, UInt8.ofNat c] : List UInt8) ++ rest) 0 = 92 := rfl
    have n1 : nx (([92, UInt8.ofNat c] : List UInt8) ++ rest) (0 + 1) = c := toNat_of hc
    have hl : (([92, UInt8.ofNat c] : List UInt8) ++ rest).length = rest.length + 2 := by simp
    have hx : c ≠ 120 := by rintro rfl; rw [isSp120] at h2; cases h2
    rw [n0, n1, hl, if_neg (by omega), if_neg (by simp), if_neg (by omega), if_neg hx, if_pos h2]
    rfl
  · rw [if_neg h2]
    unfold sgn
    have n0 : nx (([UInt8.ofNat c] : List UInt8) ++ rest) 0 = c := toNat_of hc
    have hl : (([UInt8.ofNat c] : List UInt8) ++ rest).length = rest.length + 1 := by simp
    have hx : c ≠ 92 := by rintro rfl; rw [isSp92] at h2; exact h2 rfl
    have hn : ¬(c < 33 ∨ 126 < c ∨ isSp c = true) := by
      rintro (h | h | h)
      · exact h1 (.inl h)
      · exact h1 (.inr h)
      · exact h2 h
    rw [n0, hl, if_neg (by omega), if_pos hx, if_neg hn]
    rfl
theorem sgT_first {c : Nat} (hc : c < 256) (rest : List UInt8) : nx (sgT c ++ rest) 0 ≠ 45 ∧ nx (sgT c ++ rest) 0 ≠ 93 ∧ nx (sgT c ++ rest) 0 ≠ 94 ∧ nx (sgT c ++ rest) 0 ≠ 46 ∧ nx (sgT c ++ rest) 0 ≠ 91 := by
  unfold sgT
  split
  · rw [show nx (([92, 120, hexd (c / 16), hexd (c % 16)] : List UInt8) ++ rest) 0 = 92 from rfl]; omega
  split
  · rw [show nx (([92, UInt8.ofNat c] : List UInt8) ++ rest) 0 = 92 from rfl]; omega
  · rename_i h
    rw [show nx (([UInt8.ofNat c] : List UInt8) ++ rest) 0 = c from toNat_of hc]
    refine ⟨?_, ?_, ?_, ?_, ?_⟩ <;> (rintro rfl; exact h (by decide))
/-- A text that reads as a part, behind anything and ahead of all that is no stroke. -/
structure PT (t : List UInt8) (a b : Nat) : Prop where
  len : 1 ≤ t.length
  first : ∀ rest, nx (t ++ rest) 0 ≠ 45 ∧ nx (t ++ rest) 0 ≠ 93 ∧ nx (t ++ rest) 0 ≠ 94
  read : ∀ l i rest, l.drop i = t ++ rest → nx rest 0 ≠ 45 → prt l i = some ((a, b), i + t.length)
theorem drop_more {l t rest : List UInt8} {i : Nat} (h : l.drop i = t ++ rest) : l.drop (i + t.length) = rest := by
  rw [← List.drop_drop, h, List.drop_left]
theorem nx_rest {l t rest : List UInt8} {i : Nat} (h : l.drop i = t ++ rest) : nx l (i + t.length) = nx rest 0 := by
  rw [← drop_more h, nx_drop]; rfl
theorem PT.one {t : List UInt8} {c : Nat} (hl : 1 ≤ t.length) (hf : ∀ rest, nx (t ++ rest) 0 ≠ 45 ∧ nx (t ++ rest) 0 ≠ 93 ∧ nx (t ++ rest) 0 ≠ 94)
    (hr : ∀ rest, sgn (t ++ rest) 0 = some (c, t.length)) : PT t c c where
  len := hl
  first := hf
  read l i rest h hn := by
    unfold prt
    rw [sgn_at h (hr rest)]
    dsimp only
    rw [nx_rest h, if_pos hn]
theorem PT.two {t u : List UInt8} {a b : Nat} (hab : a ≤ b) (hl : 1 ≤ t.length) (hf : ∀ rest, nx (t ++ rest) 0 ≠ 45 ∧ nx (t ++ rest) 0 ≠ 93 ∧ nx (t ++ rest) 0 ≠ 94)
    (ht : ∀ rest, sgn (t ++ rest) 0 = some (a, t.length)) (hu : ∀ rest, sgn (u ++ rest) 0 = some (b, u.length)) : PT (t ++ ([45] ++ u)) a b where
  len := by simp; omega
  first rest := by rw [List.append_assoc]; exact hf _
  read l i rest h hn := by
    rw [List.append_assoc] at h
    unfold prt
    rw [sgn_at h (ht _)]
    dsimp only
    have h2 := drop_more h
    have n1 : nx l (i + t.length) = 45 := by rw [nx_rest h]; rfl
    rw [n1, if_neg (by simp)]
    have h3 : l.drop (i + t.length + 1) = u ++ rest := by rw [← List.drop_drop, h2]; rfl
    rw [sgn_at h3 (hu _)]
    dsimp only
    rw [if_neg (by omega)]
    simp only [List.length_append, List.length_cons, List.length_nil]
    congr 2
    omega
theorem hx_first (c : Nat) (rest : List UInt8) : nx (hx c ++ rest) 0 ≠ 45 ∧ nx (hx c ++ rest) 0 ≠ 93 ∧ nx (hx c ++ rest) 0 ≠ 94 := by
  rw [show nx (hx c ++ rest) 0 = 92 from rfl]; omega
theorem sgT_len1 (c : Nat) : 1 ≤ (sgT c).length := by unfold sgT; split <;> (try split) <;> simp
theorem PT.hx {c : Nat} (hc : c < 256) : PT (hx c) c c := .one (by unfold Go.E.hx; simp) (hx_first c) (sgn_hx hc)
theorem PT.hx2 {a b : Nat} (hab : a ≤ b) (hb : b < 256) : PT (Go.E.hx a ++ ([45] ++ Go.E.hx b)) a b := .two hab (by unfold Go.E.hx; simp) (hx_first a) (sgn_hx (by omega)) (sgn_hx hb)
theorem PT.sg {c : Nat} (hc : c < 256) : PT (sgT c) c c := .one (sgT_len1 c) (fun r => ⟨(sgT_first hc r).1, (sgT_first hc r).2.1, (sgT_first hc r).2.2.1⟩) (sgn_sgT hc)
theorem PT.sg2 {a b : Nat} (hab : a ≤ b) (hb : b < 256) : PT (sgT a ++ ([45] ++ sgT b)) a b :=
  have hc : a < 256 := by omega
  .two hab (sgT_len1 a) (fun r => ⟨(sgT_first hc r).1, (sgT_first hc r).2.1, (sgT_first hc r).2.2.1⟩) (sgn_sgT (by omega)) (sgn_sgT hb)
abbrev Tok := List UInt8 × Nat × Nat
def tokT (ts : List Tok) : List UInt8 := ts.flatMap (·.1)
def tokS (ts : List Tok) (c : Nat) : Bool := ts.any fun x => fromTo x.2.1 x.2.2 c
theorem tokT_first {ts : List Tok} (h : ∀ x ∈ ts, PT x.1 x.2.1 x.2.2) (more : List UInt8) : nx (tokT ts ++ 93 :: more) 0 ≠ 45 ∧ nx (tokT ts ++ 93 :: more) 0 ≠ 94 := by
  cases ts with
  | nil => rw [show nx (tokT [] ++ 93 :: more) 0 = 93 from rfl]; omega
  | cons x ts =>
    have := (h x (by simp)).first (tokT ts ++ 93 :: more)
    unfold tokT at this ⊢
    rw [List.flatMap_cons, List.append_assoc]
    exact ⟨this.1, this.2.2⟩
theorem tokT_len {ts : List Tok} (h : ∀ x ∈ ts, PT x.1 x.2.1 x.2.2) : ts.length ≤ (tokT ts).length := by
  induction ts with
  | nil => simp
  | cons x ts ih =>
    have := (h x (by simp)).len
    have := ih fun y hy => h y (by simp [hy])
    unfold tokT at this ⊢
    rw [List.flatMap_cons, List.length_append, List.length_cons]
    omega
theorem prts_toks {l more : List UInt8} : ∀ {ts : List Tok} {i N : Nat} {S : Nat → Bool}, (∀ x ∈ ts, PT x.1 x.2.1 x.2.2) → l.drop i = tokT ts ++ 93 :: more → ts.length < N →
    prts l N i S = some (fun c => S c || tokS ts c, i + (tokT ts).length + 1) := by
  intro ts
  induction ts with
  | nil =>
    intro i N S _ hd hN
    cases N with
    | zero => simp at hN
    | succ N =>
      unfold prts
      have : nx l i = 93 := by have := nx_rest (t := []) (i := i) hd; exact this
      rw [if_pos this]
      simp [tokS, tokT]
  | cons x ts ih =>
    intro i N S h hd hN
    cases N with
    | zero => simp at hN
    | succ N =>
      have hx := h x (by simp)
      have ht : ∀ y ∈ ts, PT y.1 y.2.1 y.2.2 := fun y hy => h y (by simp [hy])
      have hd' : l.drop i = x.1 ++ (tokT ts ++ 93 :: more) := by rw [hd]; unfold tokT; rw [List.flatMap_cons, List.append_assoc]
      have n0 : nx l i ≠ 93 := by
        have := (hx.first (tokT ts ++ 93 :: more)).2.1
        rw [← hd', nx_drop] at this; exact this
      unfold prts
      rw [if_neg n0, hx.read l i _ hd' (tokT_first ht more).1]
      dsimp only
      rw [ih ht (drop_more hd') (by simp at hN; omega)]
      congr 2
      · funext c
        unfold tokS
        rw [List.any_cons, Bool.or_assoc]
      · unfold tokT
        rw [List.flatMap_cons, List.length_append]; omega
theorem cls_toks {ts : List Tok} {more : List UInt8} (h : ∀ x ∈ ts, PT x.1 x.2.1 x.2.2) (hne : ts ≠ []) (other : Bool) :
    cls0 ((if other = true then [91, 94] else [91]) ++ (tokT ts ++ 93 :: more)) = some (fun c => if other = true then !(tokS ts c) else tokS ts c, (if other = true then 2 else 1) + (tokT ts).length + 1) := by
  obtain ⟨l, el⟩ : ∃ l, l = (if other = true then [91, 94] else [91]) ++ (tokT ts ++ 93 :: more) := ⟨_, rfl⟩
  rw [← el]
  have n0 : nx l 0 = 91 := by rw [el]; cases other <;> rfl
  have n1 : (nx l 1 = 94) = (other = true) := by
    rw [el]
    cases other
    · rw [if_neg (by simp), show nx (([91] : List UInt8) ++ (tokT ts ++ 93 :: more)) 1 = nx (tokT ts ++ 93 :: more) 0 from rfl]
      simp [(tokT_first h more).2]
    · simp; rfl
  have hlen : ts.length < l.length + 1 := by
    have := tokT_len h
    rw [el]; simp; omega
  cases ts with
  | nil => exact absurd rfl hne
  | cons x ts =>
    have hx := h x (by simp)
    have ht : ∀ y ∈ ts, PT y.1 y.2.1 y.2.2 := fun y hy => h y (by simp [hy])
    have hd' : l.drop (if other = true then 2 else 1) = x.1 ++ (tokT ts ++ 93 :: more) := by
      rw [el]
      have : tokT (x :: ts) ++ 93 :: more = x.1 ++ (tokT ts ++ 93 :: more) := by unfold tokT; rw [List.flatMap_cons, List.append_assoc]
      rw [this]
      cases other <;> rfl
    unfold cls0
    rw [if_neg (by omega), if_pos n0]
    simp only [n1]
    rw [hx.read l _ _ hd' (tokT_first ht more).1]
    dsimp only
    rw [prts_toks ht (drop_more hd') (by simp at hlen; omega)]
    dsimp only
    congr 2
    · funext c
      unfold tokS
      rw [List.any_cons]
      cases other <;> rfl
    · unfold tokT
      rw [List.flatMap_cons, List.length_append]; omega
end Go.E
set_option linter.unusedVariables false
set_option linter.unusedSimpArgs false
set_option maxRecDepth 20000
namespace Go.E
open Go.H
attribute [local irreducible] BiN MkS ConvN LookN MapUpN CallV HC limb dbTab
def tok (p : Nat × Nat) : List Tok := if p.2 = p.1 then [(sgT p.1, p.1, p.1)] else if p.2 = p.1 + 1 then [(sgT p.1, p.1, p.1), (sgT p.2, p.2, p.2)] else [(sgT p.1 ++ ([45] ++ sgT p.2), p.1, p.2)]
def runT (rs : List (Nat × Nat)) : List Tok := rs.flatMap tok
theorem tok_PT {p : Nat × Nat} (h : p.1 ≤ p.2) (hb : p.2 < 256) : ∀ x ∈ tok p, PT x.1 x.2.1 x.2.2 := by
  intro x hx
  unfold tok at hx
  split at hx
  · simp at hx; subst hx; exact PT.sg (by omega)
  split at hx
  · simp at hx
    rcases hx with rfl | rfl
    · exact PT.sg (by omega)
    · exact PT.sg hb
  · rw [List.mem_singleton] at hx; subst hx; exact PT.sg2 h hb
theorem runT_PT {rs : List (Nat × Nat)} (h : ∀ p ∈ rs, p.1 ≤ p.2 ∧ p.2 < 256) : ∀ x ∈ runT rs, PT x.1 x.2.1 x.2.2 := by
  intro x hx
  unfold runT at hx
  rw [List.mem_flatMap] at hx
  obtain ⟨p, hp, hx⟩ := hx
  exact tok_PT (h p hp).1 (h p hp).2 x hx
theorem tokT_append (a b : List Tok) : tokT (a ++ b) = tokT a ++ tokT b := by simp [tokT]
theorem tokS_append (a b : List Tok) (c : Nat) : tokS (a ++ b) c = (tokS a c || tokS b c) := by simp [tokS]
theorem tokT_tok (p : Nat × Nat) : tokT (tok p) = shT p.1 p.2 := by
  unfold tok shT
  split
  · simp [tokT]
  split
  · simp [tokT]
  · simp [tokT]
theorem tokS_tok (p : Nat × Nat) (c : Nat) (h : p.1 ≤ p.2) : tokS (tok p) c = fromTo p.1 p.2 c := by
  unfold tok
  split
  · rename_i e; rw [e]; simp [tokS]
  split
  · rename_i _ e
    simp [tokS, fromTo]
    rw [e]
    rw [Bool.eq_iff_iff]; simp; omega
  · simp [tokS]
theorem tokT_runT (rs : List (Nat × Nat)) : tokT (runT rs) = joinR rs := by
  induction rs with
  | nil => rfl
  | cons p rs ih =>
    have : runT (p :: rs) = tok p ++ runT rs := rfl
    rw [this, tokT_append, ih, tokT_tok]; rfl
theorem tokS_runT {rs : List (Nat × Nat)} (h : ∀ p ∈ rs, p.1 ≤ p.2) (c : Nat) : tokS (runT rs) c = rs.any fun p => fromTo p.1 p.2 c := by
  induction rs with
  | nil => rfl
  | cons p rs ih =>
    have : runT (p :: rs) = tok p ++ runT rs := rfl
    rw [this, tokS_append, ih fun q hq => h q (by simp [hq]), tokS_tok p c (h p (by simp)), List.any_cons]
theorem run_any (f : Nat → Bool) (c : Nat) : ∀ k, ((runL f k).any fun p => fromTo p.1 p.2 c) = (f c && decide (c < k))
  | 0 => by simp [runL]
  | k + 1 => by
    have ih := run_any f c k
    have hok := run_ok f k
    unfold runL
    split
    · rename_i hf
      have hk : (f c && decide (c < k + 1)) = ((f c && decide (c < k)) || decide (c = k)) := by
        by_cases hc : c = k
        · subst hc; simp [hf]
        · rw [Bool.eq_iff_iff]; simp [hc]; intro _; omega
      rw [hk, ← ih]
      rcases List.eq_nil_or_concat (runL f k) with h | ⟨l0, ⟨a, b⟩, h⟩
      · rw [h, runS_nil]
        simp [fromTo]
        rw [Bool.eq_iff_iff]; simp; omega
      · rw [List.concat_eq_append] at h
        rw [h] at hok ⊢
        have hab := hok (a, b) (by simp)
        rw [runS_snoc]
        split
        · rename_i e
          simp only [List.any_append, List.any_cons, List.any_nil, Bool.or_false, Bool.or_assoc]
          congr 1
          unfold fromTo
          rw [Bool.eq_iff_iff]; simp at hab ⊢; omega
        · simp only [List.any_append, List.any_cons, List.any_nil, Bool.or_false, Bool.or_assoc]
          congr 2
          unfold fromTo
          rw [Bool.eq_iff_iff]; simp; omega
    · rename_i hf
      rw [ih]
      by_cases hc : c = k
      · subst hc; simp [hf]
      · rw [Bool.eq_iff_iff]; simp; intro _; omega
theorem empty_not {S : Nat → Bool} {c : Nat} (hc : c < 256) (h : S c = true) : ¬ emptyS S = true := by
  intro he
  have := empty_all he c hc
  rw [this] at h; cases h
/-- What is shown of a set that is not empty is read as it was, whatever stands behind. -/
theorem cls_shW {f : Nat → Bool} (hf : ¬ emptyS f = true) (more : List UInt8) : ∃ f', cls (shW f ++ more) = some (f', (shW f).length) ∧ ∀ c, c < 256 → f' c = f c := by
  obtain ⟨t, ht, hft, _⟩ := empty_ex hf
  have key : ∀ f', cls0 (shW f ++ more) = some (f', (shW f).length) → (∀ c, c < 256 → f' c = f c) → ∃ f', cls (shW f ++ more) = some (f', (shW f).length) ∧ ∀ c, c < 256 → f' c = f c := by
    intro f' h1 h2
    refine ⟨f', ?_, h2⟩
    unfold cls
    rw [h1]
    dsimp only
    rw [if_neg (empty_not ht (by rw [h2 t ht]; exact hft))]
  have hany := fun c => run_any f c 256
  have hok := run_ok f 256
  have hbrk : ∀ rs, runL f 256 = rs → shW f = brk rs → ∃ f', cls (shW f ++ more) = some (f', (shW f).length) ∧ ∀ c, c < 256 → f' c = f c := by
    intro rs hrs hs
    have hnn : runT rs ≠ [] := by
      intro hn
      have h1 := hany t
      rw [hrs, ← tokS_runT (fun p hp => (hok p (hrs ▸ hp)).1), hn] at h1
      simp [tokS, hft] at h1
      omega
    have h0 := cls_toks (more := more) (runT_PT fun p hp => hok p (hrs ▸ hp)) hnn false
    simp only [Bool.false_eq_true, if_false] at h0
    refine key (fun c => tokS (runT rs) c) ?_ ?_
    · rw [hs]
      rw [tokT_runT] at h0
      unfold brk
      rw [show ([91] ++ joinR rs ++ [93]) ++ more = [91] ++ (joinR rs ++ 93 :: more) by simp, h0]
      congr 2
      simp; omega
    · intro c hc
      show tokS (runT rs) c = f c
      rw [tokS_runT (fun p hp => (hok p (hrs ▸ hp)).1), ← hrs, hany c]
      simp [hc]
  by_cases h0 : (runL f 256).length = 0
  · exfalso
    have h1 := hany t
    rw [List.length_eq_zero_iff.mp h0] at h1
    simp [hft] at h1
    omega
  by_cases hfull : fullS f = true
  · have hs : shW f = [46] := by unfold shW; rw [if_neg h0, if_pos hfull]
    refine key (fun _ => !false) ?_ ?_
    · rw [hs]
      unfold cls0
      rw [show nx (([46] : List UInt8) ++ more) 0 = 46 from rfl, if_pos rfl]
      rfl
    · intro c hc
      have := empty_all hfull c hc
      simp at this
      rw [this]; rfl
  · cases hr : runL f 256 with
    | nil => rw [hr] at h0; simp at h0
    | cons p rs =>
      cases rs with
      | cons q rs => exact hbrk _ hr (by unfold shW; rw [if_neg h0, if_neg hfull, hr])
      | nil =>
        obtain ⟨a, b⟩ := p
        have hs : shW f = if a = b then sgT a else brk [(a, b)] := by unfold shW; rw [if_neg h0, if_neg hfull, hr]
        have hab := hok (a, b) (by rw [hr]; simp)
        dsimp only at hab
        by_cases e : a = b
        · rw [if_pos e] at hs
          subst e
          refine key (fromTo a a) ?_ ?_
          · rw [hs]
            have hf := sgT_first (c := a) hab.2 more
            unfold cls0
            rw [if_neg hf.2.2.2.1, if_neg hf.2.2.2.2, sgn_sgT hab.2]
          · intro c hc
            have h1 := hany c
            rw [hr] at h1
            simp only [List.any_cons, List.any_nil, Bool.or_false] at h1
            rw [h1]; simp [hc]
        · rw [if_neg e] at hs
          exact hbrk _ hr hs
end Go.E
set_option linter.unusedVariables false
set_option linter.unusedSimpArgs false
set_option maxRecDepth 20000
namespace Go.E.Rg
open Go.H Go.E
mutual
def same : Rx → Rx → Prop
  | .mk k S ps, .mk k' S' qs => k = k' ∧ (∀ c, c < 256 → S c = S' c) ∧ sameL ps qs
def sameL : List Rx → List Rx → Prop
  | [], [] => True
  | r :: rs, q :: qs => same r q ∧ sameL rs qs
  | _, _ => False
end
theorem sameL_len : ∀ {ps qs : List Rx}, sameL ps qs → ps.length = qs.length
  | [], [], _ => rfl
  | r :: rs, q :: qs, h => by unfold sameL at h; rw [List.length_cons, List.length_cons, sameL_len h.2]
  | [], _ :: _, h => by unfold sameL at h; exact h.elim
  | _ :: _, [], h => by unfold sameL at h; exact h.elim
theorem sameL_one {r q : Rx} (h : same r q) : sameL [r] [q] := by unfold sameL; exact ⟨h, by unfold sameL; trivial⟩
theorem same_k {r q : Rx} (h : same r q) : r.k = q.k := by
  cases r; cases q; unfold same at h; exact h.1
theorem emptyS_eq {f g : Nat → Bool} (h : ∀ b, b < 256 → f b = g b) : emptyS f = emptyS g := by
  unfold emptyS
  rw [Bool.eq_iff_iff, List.all_eq_true, List.all_eq_true]
  constructor
  · intro k b hb; rw [← h b (by simpa using hb)]; exact k b hb
  · intro k b hb; rw [h b (by simpa using hb)]; exact k b hb
theorem emptyS_no : emptyS noS = true := by unfold emptyS noS; simp
theorem same_no {k : Int} {S : Nat → Bool} {ps qs : List Rx} (hS : emptyS S = true) (h : sameL ps qs) : same (.mk k noS ps) (.mk k S qs) := by
  unfold same
  exact ⟨rfl, fun c hc => (empty_all hS c hc).symm, h⟩
/-- What is the same is as it may be, and as great. -/
theorem same_all (r : Rx) : ∀ q, same r q → form r = form q ∧ nodes r = nodes q ∧ depth r = depth q ∧ null r = null q := by
  refine Rx.rec (motive_1 := fun r => ∀ q, same r q → form r = form q ∧ nodes r = nodes q ∧ depth r = depth q ∧ null r = null q)
    (motive_2 := fun ps => ∀ qs, sameL ps qs → (∀ k, formL k ps = formL k qs) ∧ nodesL ps = nodesL qs ∧ depthL ps = depthL qs ∧ nullA ps = nullA qs ∧ nullE ps = nullE qs ∧ (ps.any fun a => sgK a.k) = qs.any fun a => sgK a.k) ?_ ?_ ?_ r
  · intro k S ps ih q h
    cases q with
    | mk k' S' qs =>
    unfold same at h
    obtain ⟨rfl, hS, hl⟩ := h
    obtain ⟨h1, h2, h3, h4, h5, h6⟩ := ih qs hl
    have hlen := sameL_len hl
    unfold form nodes depth null
    rw [emptyS_eq hS, h1, h2, h3, h4, h5, h6, hlen]
    have : ps.isEmpty = qs.isEmpty := by cases ps <;> cases qs <;> simp_all
    rw [this]
    exact ⟨rfl, rfl, rfl, rfl⟩
  · intro qs h
    cases qs with
    | nil => exact ⟨fun _ => rfl, rfl, rfl, rfl, rfl, rfl⟩
    | cons q qs => unfold sameL at h; exact h.elim
  · intro r rs h1 h2 qs h
    cases qs with
    | nil => unfold sameL at h; exact h.elim
    | cons q qs =>
      unfold sameL at h
      obtain ⟨a1, a2, a3, a4⟩ := h1 q h.1
      obtain ⟨b1, b2, b3, b4, b5, b6⟩ := h2 qs h.2
      have hk := same_k h.1
      unfold formL nodesL depthL nullA nullE
      rw [a1, a2, a3, a4, b2, b3, b4, b5, hk]
      refine ⟨fun k => by rw [b1 k], rfl, rfl, rfl, rfl, ?_⟩
      rw [List.any_cons, List.any_cons, b6, hk]
theorem same_may {r q : Rx} (h : same r q) : may r = may q := by
  obtain ⟨h1, h2, h3, _⟩ := same_all r q h
  unfold may; rw [h1, h2, h3]
theorem formL_iff {k : Int} : ∀ {ps : List Rx}, formL k ps = true ↔ ∀ a ∈ ps, a.k ≠ k ∧ form a = true
  | [] => by unfold formL; simp
  | r :: rs => by
    unfold formL
    rw [Bool.and_eq_true, Bool.and_eq_true, formL_iff (ps := rs), decide_eq_true_eq]
    simp [List.forall_mem_cons]
theorem sgK_iff {k : Int} : sgK k = true ↔ 4 ≤ k ∧ k ≤ 6 := by unfold sgK; simp
theorem form_cases {k : Int} {S : Nat → Bool} {ps : List Rx} (h : form (.mk k S ps) = true) :
    (k = 1 ∧ ps = [] ∧ emptyS S = false) ∨ (emptyS S = true ∧ (∀ a ∈ ps, a.k ≠ k ∧ form a = true) ∧ (((k = 2 ∨ k = 3) ∧ 2 ≤ ps.length) ∨ (4 ≤ k ∧ k ≤ 6 ∧ ∃ x, ps = [x] ∧ sgK x.k = false))) := by
  unfold form at h
  split at h
  · rename_i hk
    rw [Bool.and_eq_true] at h
    exact .inl ⟨hk, by cases ps <;> simp_all, by simpa using h.2⟩
  · split at h
    · cases h
    · rename_i hS
      have hS : emptyS S = true := by simpa using hS
      refine .inr ⟨hS, ?_⟩
      split at h
      · rename_i hk
        rw [Bool.and_eq_true, decide_eq_true_eq, formL_iff] at h
        exact ⟨h.2, .inl ⟨hk, h.1⟩⟩
      · split at h
        · rename_i hk
          rw [Bool.and_eq_true, Bool.and_eq_true, decide_eq_true_eq, formL_iff] at h
          refine ⟨h.2, .inr ⟨(sgK_iff.mp hk).1, (sgK_iff.mp hk).2, ?_⟩⟩
          obtain ⟨x, rfl⟩ := List.length_eq_one_iff.mp h.1.1
          exact ⟨x, rfl, by simpa using h.1.2⟩
        · cases h
/-- Bytes that begin no part. -/
def badH (c : UInt8) : Prop := c = 42 ∨ c = 43 ∨ c = 63 ∨ c = 124 ∨ c = 41
def good (s : List UInt8) : Prop := ∃ c t, s = c :: t ∧ ¬ badH c
theorem sgT_good {c : Nat} (hc : c < 256) : ∃ x t, sgT c = x :: t ∧ ¬ badH x ∧ x ≠ 40 := by
  unfold sgT
  split
  · exact ⟨_, _, rfl, by unfold badH; decide, by decide⟩
  · split
    · exact ⟨_, _, rfl, by unfold badH; decide, by decide⟩
    · rename_i h
      refine ⟨_, _, rfl, ?_, ?_⟩
      · have key : ∀ k : Nat, k < 256 → isSp k = true → UInt8.ofNat c ≠ UInt8.ofNat k := by
          intro k hk hs e
          have := congrArg UInt8.toNat e
          rw [toNat_of hc, toNat_of hk] at this
          subst this; exact h hs
        rintro (e | e | e | e | e)
        · exact key 42 (by decide) (by decide) e
        · exact key 43 (by decide) (by decide) e
        · exact key 63 (by decide) (by decide) e
        · exact key 124 (by decide) (by decide) e
        · exact key 41 (by decide) (by decide) e
      · intro e
        have := congrArg UInt8.toNat e
        rw [toNat_of hc] at this
        have e2 : c = 40 := this
        subst e2; exact h (by decide)
theorem shW_good {f : Nat → Bool} (hf : emptyS f = false) : ∃ x t, shW f = x :: t ∧ ¬ badH x ∧ x ≠ 40 := by
  have hb : ∀ rs, ∃ x t, brk rs = x :: t ∧ ¬ badH x ∧ x ≠ 40 := fun rs => ⟨91, _, rfl, by unfold badH; decide, by decide⟩
  have hok := run_ok f 256
  have hany := fun c => run_any f c 256
  unfold shW
  split
  · rename_i h0
    exfalso
    obtain ⟨t, ht, hft, _⟩ := empty_ex (S := f) (by rw [hf]; decide)
    have h1 := hany t
    rw [List.length_eq_zero_iff.mp h0] at h1
    simp [hft] at h1
    omega
  · split
    · exact ⟨46, [], rfl, by unfold badH; decide, by decide⟩
    · split
      · rename_i a b hr
        have hab := hok (a, b) (by rw [hr]; simp)
        split
        · exact sgT_good (by have := hab.1; have := hab.2; simp only at *; omega)
        · exact hb _
      · exact hb _
theorem atom_set {alt : Nat → List UInt8 → Res} {d : Nat} {f : Nat → Bool} (hf : emptyS f = false) (more : List UInt8) : ∃ f', (∀ c, c < 256 → f' c = f c) ∧ atomF alt d (shW f ++ more) = .ok (.mk 1 f' [], more) := by
  obtain ⟨f', h1, h2⟩ := cls_shW (f := f) (by rw [hf]; decide) more
  obtain ⟨x, t, h3, _, h4⟩ := shW_good hf
  refine ⟨f', h2, ?_⟩
  have e : ∀ s, s = shW f ++ more → atomF alt d s = .ok (.mk 1 f' [], more) := by
    intro s hs
    unfold atomF
    split
    · rename_i s' _
      rw [h3] at hs
      cases hs
      exact absurd rfl h4
    · rw [hs, h1]
      simp
  exact e _ rfl
theorem atom_brk {alt : Nat → List UInt8 → Res} {d : Nat} (hd : d < 13) {s more : List UInt8} {x : Rx} (h : alt (d + 1) (s ++ 41 :: more) = .ok (x, 41 :: more)) : atomF alt d (40 :: s ++ [41] ++ more) = .ok (x, more) := by
  have e : (40 :: s ++ [41] ++ more : List UInt8) = 40 :: (s ++ 41 :: more) := by simp
  rw [e]
  unfold atomF
  simp only
  rw [if_neg (by omega), h]
  rfl
def notSg (s : List UInt8) : Prop := ∀ c t, s = c :: t → sgI c = none
theorem rep_plain {alt : Nat → List UInt8 → Res} {d : Nat} {s more : List UInt8} {x : Rx} (h : atomF alt d s = .ok (x, more)) (hn : notSg more) : repF alt d s = .ok (x, more) := by
  unfold repF
  rw [h]
  cases more with
  | nil => rfl
  | cons c t => simp only; rw [hn c t rfl]
theorem rep_sign {alt : Nat → List UInt8 → Res} {d : Nat} {s more : List UInt8} {x : Rx} {c : UInt8} {k : Int} (h : atomF alt d s = .ok (x, c :: more)) (hn : sgI c = some k) : repF alt d s = .ok (.mk k noS [x], more) := by
  unfold repF
  rw [h]
  simp only
  rw [hn]
/-- Where a part ends. -/
def stopC (s : List UInt8) : Prop := ∀ c t, s = c :: t → c = 124 ∨ c = 41
def stopA (s : List UInt8) : Prop := ∀ c t, s = c :: t → c = 41
theorem stopA.c {s : List UInt8} (h : stopA s) : stopC s := fun c t e => .inr (h c t e)
theorem stopC.n {s : List UInt8} (h : stopC s) : notSg s := fun c t e => by rcases h c t e with rfl | rfl <;> rfl
theorem good.n {s : List UInt8} (h : good s) : notSg s := by
  rintro c t rfl
  obtain ⟨c', t', e, hb⟩ := h
  cases e
  unfold sgI
  unfold badH at hb
  rw [if_neg (fun e => hb (.inl e)), if_neg (fun e => hb (.inr (.inl e))), if_neg (fun e => hb (.inr (.inr (.inl e))))]
theorem good.app {s more : List UInt8} (h : good s) : good (s ++ more) := by
  obtain ⟨c, t, rfl, hb⟩ := h
  exact ⟨c, t ++ more, rfl, hb⟩
/-- Parts side by side, each of which is read as it was. -/
theorem catL_items {alt : Nat → List UInt8 → Res} {d : Nat} {more : List UInt8} (hm : stopC more) : ∀ (its : List (List UInt8 × Rx)) (l : List Rx) (n : Nat), its.length < n → (∀ x ∈ its, good x.1 ∧ ∀ m, notSg m → ∃ r', same r' x.2 ∧ repF alt d (x.1 ++ m) = .ok (r', m)) →
    ∃ l', sameL l' (its.map (·.2)) ∧ catL alt d n l ((its.map (·.1)).flatten ++ more) = .ok (l ++ l', more)
  | [], l, n + 1, _, _ => by
    refine ⟨[], by unfold sameL; trivial, ?_⟩
    simp only [List.map_nil, List.flatten_nil, List.nil_append, List.append_nil]
    unfold catL
    cases more with
    | nil => rfl
    | cons c t => simp only; rw [if_pos (hm c t rfl)]
  | x :: its, l, n + 1, hn, h => by
    obtain ⟨hg, hx⟩ := h x (by simp)
    have hrest : notSg ((its.map (·.1)).flatten ++ more) := by
      cases its with
      | nil => simpa using hm.n
      | cons y its =>
        have := (h y (by simp)).1
        rw [List.map_cons, List.flatten_cons, List.append_assoc]
        exact this.app.n
    obtain ⟨r', h1, h2⟩ := hx _ hrest
    obtain ⟨l', h3, h4⟩ := catL_items hm its (l ++ [r']) n (by simp at hn; omega) (fun y hy => h y (by simp [hy]))
    refine ⟨r' :: l', by rw [List.map_cons]; unfold sameL; exact ⟨h1, h3⟩, ?_⟩
    rw [List.map_cons, List.flatten_cons, List.append_assoc]
    obtain ⟨c, t, e, hb⟩ := hg
    rw [e] at h2 ⊢
    unfold catL
    simp only [List.cons_append] at h2 ⊢
    unfold badH at hb
    rw [if_neg (fun e => hb (by rcases e with e | e; exact .inr (.inr (.inr (.inl e))); exact .inr (.inr (.inr (.inr e)))))]
    rw [h2]
    simp only
    rw [h4]
    simp
theorem altL_items {alt : Nat → List UInt8 → Res} {d : Nat} {more : List UInt8} (hm : stopA more) : ∀ (its : List (List UInt8 × Rx)) (l : List Rx) (n : Nat), its.length < n → (∀ x ∈ its, ∀ m, stopC m → ∃ r', same r' x.2 ∧ catF alt d (x.1 ++ m) = .ok (r', m)) →
    ∃ l', sameL l' (its.map (·.2)) ∧ altL alt d n l ((its.map fun x => 124 :: x.1).flatten ++ more) = .ok (l ++ l', more)
  | [], l, n + 1, _, _ => by
    refine ⟨[], by unfold sameL; trivial, ?_⟩
    simp only [List.map_nil, List.flatten_nil, List.nil_append, List.append_nil]
    unfold altL
    cases more with
    | nil => rfl
    | cons c t =>
      have := hm c t rfl
      subst this
      rfl
  | x :: its, l, n + 1, hn, h => by
    have hx := h x (by simp)
    have hrest : stopC ((its.map fun x => 124 :: x.1).flatten ++ more) := by
      cases its with
      | nil => simpa using hm.c
      | cons y its =>
        rw [List.map_cons, List.flatten_cons]
        intro c t e
        simp at e
        exact .inl e.1.symm
    obtain ⟨r', h1, h2⟩ := hx _ hrest
    obtain ⟨l', h3, h4⟩ := altL_items hm its (l ++ [r']) n (by simp at hn; omega) (fun y hy => h y (by simp [hy]))
    refine ⟨r' :: l', by rw [List.map_cons]; unfold sameL; exact ⟨h1, h3⟩, ?_⟩
    rw [List.map_cons, List.flatten_cons, List.append_assoc, List.cons_append]
    unfold altL
    simp only
    rw [h2]
    simp only
    rw [h4]
    simp
/-- How a part is shown within what binds so much. -/
def wt (least : Int) (a : Rx) : List UInt8 := if rank a.k < least then 40 :: shw a ++ [41] else shw a
theorem shwL_map (least : Int) : ∀ ps : List Rx, shwL least ps = ps.map (wt least)
  | [] => by unfold shwL; rfl
  | r :: rs => by unfold shwL; rw [shwL_map least rs]; rfl
theorem joinBar_flat : ∀ (x : List UInt8) (l : List (List UInt8)), joinBar (x :: l) = x ++ (l.map fun y => 124 :: y).flatten
  | x, [] => by simp [joinBar]
  | x, y :: r => by
    unfold joinBar
    rw [joinBar_flat y r, List.map_cons, List.flatten_cons]; simp
theorem wt_good {least : Int} {a : Rx} (h : good (shw a)) : good (wt least a) := by
  unfold wt
  split
  · exact ⟨40, _, rfl, by unfold badH; decide⟩
  · exact h
theorem shw_good (r : Rx) : form r = true → good (shw r) := by
  refine Rx.ind (C := fun r => form r = true → good (shw r)) ?_ r
  intro k S ps ih hf
  have hc := form_cases hf
  have first : ∀ least, ps ≠ [] → (∀ a ∈ ps, form a = true) → ∃ a qs, ps = a :: qs ∧ good (wt least a) := by
    intro least hne hall
    cases ps with
    | nil => exact absurd rfl hne
    | cons a qs => exact ⟨a, qs, rfl, wt_good (ih a (by simp) (hall a (by simp)))⟩
  unfold shw
  rcases hc with ⟨hk, rfl, hS⟩ | ⟨hS, hall, hsh⟩
  · rw [if_pos hk]
    obtain ⟨x, t, e, h1, _⟩ := shW_good hS
    exact ⟨x, t, e, h1⟩
  · have hne : ps ≠ [] := by
      rcases hsh with ⟨_, h2⟩ | ⟨_, _, x, rfl, _⟩
      · intro e; rw [e] at h2; simp at h2
      · simp
    have hk1 : k ≠ 1 := by rcases hsh with ⟨h1 | h1, _⟩ | ⟨h1, _⟩ <;> omega
    rw [if_neg hk1]
    obtain ⟨a, qs, rfl, hg⟩ := first (rank k + 1) hne (fun a ha => (hall a ha).2)
    rw [shwL_map, List.map_cons]
    split
    · rw [joinBar_flat]; exact hg.app
    · split
      · rw [List.flatten_cons, List.append_assoc]; exact hg.app
      · rw [List.flatten_cons]; exact hg.app
end Go.E.Rg
set_option linter.unusedVariables false
set_option linter.unusedSimpArgs false
set_option maxRecDepth 20000
namespace Go.E.Rg
open Go.H Go.E
theorem depthL_le : ∀ {ps : List Rx} {a : Rx}, a ∈ ps → depth a ≤ depthL ps
  | r :: rs, a, h => by
    unfold depthL
    rcases List.mem_cons.mp h with rfl | h
    · omega
    · have := depthL_le h; omega
theorem depth_mk (k : Int) (S : Nat → Bool) (ps : List Rx) : depth (.mk k S ps) = depthL ps + 1 := by conv => lhs; unfold depth
theorem depth_sub {r a : Rx} (h : a ∈ r.ps) : depth a + 1 ≤ depth r := by
  obtain ⟨k, S, ps⟩ := r
  rw [depth_mk]
  have := depthL_le (show a ∈ ps from h); omega
theorem depth_pos (r : Rx) : 1 ≤ depth r := by cases r; unfold depth; omega
def BK (r : Rx) : Prop := ∀ n d more, d + depth r ≤ 13 → 14 ≤ n + d → stopA more → ∃ r', same r' r ∧ pAlt n d (shw r ++ more) = .ok (r', more)
theorem brk_of {x : Rx} (hx : BK x) {n d : Nat} (h1 : d + 1 + depth x ≤ 13) (h2 : 14 ≤ n + 1 + d) (m : List UInt8) : ∃ x', same x' x ∧ atomF (pAlt n) d (40 :: shw x ++ [41] ++ m) = .ok (x', m) := by
  obtain ⟨x', h3, h4⟩ := hx n (d + 1) (41 :: m) (by omega) (by omega) (fun c t e => by cases e; rfl)
  have := depth_pos x
  exact ⟨x', h3, atom_brk (by omega) h4⟩
theorem sgI_sgB {k : Int} (h1 : 4 ≤ k) (h2 : k ≤ 6) : sgI (sgB k) = some k := by
  rcases (by omega : k = 4 ∨ k = 5 ∨ k = 6) with rfl | rfl | rfl <;> rfl
theorem shw_sign {k : Int} {S : Nat → Bool} {x : Rx} (h1 : 4 ≤ k) (h2 : k ≤ 6) : shw (.mk k S [x]) = wt 3 x ++ [sgB k] := by
  unfold shw
  rw [if_neg (by omega), if_neg (by omega), if_pos (sgK_iff.mpr ⟨h1, h2⟩)]
  have : rank k = 2 := by unfold rank; rw [if_neg (by omega), if_neg (by omega), if_neg (by omega)]
  rw [this, shwL_map]; simp
theorem rep_of {x : Rx} (hf : form x = true) (hk2 : x.k ≠ 2) (hk3 : x.k ≠ 3) (hb : ∀ y ∈ x.ps, BK y) {n d : Nat} (h1 : d + depth x ≤ 13) (h2 : 14 ≤ n + 1 + d) {m : List UInt8} (hm : notSg m) : ∃ x', same x' x ∧ repF (pAlt n) d (shw x ++ m) = .ok (x', m) := by
  obtain ⟨k, S, ps⟩ := x
  unfold Rx.k at hk2 hk3
  unfold Rx.ps at hb
  simp only at hk2 hk3 hb
  rcases form_cases hf with ⟨hk, rfl, hS⟩ | ⟨hS, hall, hsh⟩
  · obtain ⟨f', h3, h4⟩ := atom_set (alt := pAlt n) (d := d) hS m
    refine ⟨.mk 1 f' [], by unfold same; exact ⟨hk.symm, h3, by unfold sameL; trivial⟩, ?_⟩
    unfold shw
    rw [if_pos hk]
    exact rep_plain h4 hm
  · rcases hsh with ⟨h3 | h3, _⟩ | ⟨h3, h4, y, rfl, hy⟩
    · exact absurd h3 hk2
    · exact absurd h3 hk3
    · have hyf := (hall y (by simp)).2
      have hd : depth y + 1 ≤ depth (Rx.mk k S [y]) := depth_sub (show y ∈ (Rx.mk k S [y]).ps from List.mem_singleton.mpr rfl)
      rw [shw_sign h3 h4, List.append_assoc]
      have key : ∃ y', same y' y ∧ atomF (pAlt n) d (wt 3 y ++ ([sgB k] ++ m)) = .ok (y', sgB k :: m) := by
        unfold wt
        split
        · exact brk_of (hb y (by simp)) (by omega) h2 (sgB k :: m)
        · rename_i hr
          obtain ⟨k', S', ps'⟩ := y
          have hk1 : k' = 1 := by
            unfold rank Rx.k at hr
            simp only at hr
            split at hr
            · omega
            · split at hr
              · omega
              · split at hr
                · assumption
                · omega
          rcases form_cases hyf with ⟨_, rfl, hS'⟩ | ⟨_, _, ⟨h5 | h5, _⟩ | ⟨h5, _⟩⟩
          · obtain ⟨f', h6, h7⟩ := atom_set (alt := pAlt n) (d := d) hS' (sgB k :: m)
            refine ⟨.mk 1 f' [], by unfold same; exact ⟨hk1.symm, h6, by unfold sameL; trivial⟩, ?_⟩
            unfold shw
            rw [if_pos hk1]
            exact h7
          · omega
          · omega
          · omega
      obtain ⟨y', h5, h6⟩ := key
      exact ⟨.mk k noS [y'], same_no hS (sameL_one h5), rep_sign h6 (sgI_sgB h3 h4)⟩
theorem rank_lt2 {k : Int} (h : rank k < 2) : k = 2 ∨ k = 3 := by
  unfold rank at h
  split at h
  · exact .inr ‹_›
  · split at h
    · exact .inl ‹_›
    · split at h <;> omega
theorem fuel_ge : ∀ {its : List (List UInt8 × Rx)}, (∀ x ∈ its, good x.1) → its.length ≤ ((its.map (·.1)).flatten).length
  | [], _ => by simp
  | x :: its, h => by
    have ih := fuel_ge (its := its) (fun y hy => h y (by simp [hy]))
    obtain ⟨c, t, e, _⟩ := h x (by simp)
    rw [List.map_cons, List.flatten_cons, List.length_append, e]
    simp; simp at ih; omega
theorem cat_of {x : Rx} (hf : form x = true) (hk3 : x.k ≠ 3) (hb : ∀ y ∈ x.ps, BK y ∧ ∀ z ∈ y.ps, BK z) {n d : Nat} (h1 : d + depth x ≤ 13) (h2 : 14 ≤ n + 1 + d) {m : List UInt8} (hm : stopC m) : ∃ x', same x' x ∧ catF (pAlt n) d (shw x ++ m) = .ok (x', m) := by
  by_cases hk2 : x.k = 2
  · obtain ⟨k, S, ps⟩ := x
    have hk2 : k = 2 := hk2
    subst hk2
    unfold Rx.ps at hb
    simp only at hb
    rcases form_cases hf with ⟨hk, _⟩ | ⟨hS, hall, ⟨_, hl⟩ | ⟨h3, _⟩⟩
    · omega
    · have hd : ∀ y ∈ ps, d + 1 + depth y ≤ 13 := by
        intro y hy
        have := depthL_le hy
        unfold depth at h1
        omega
      have item : ∀ y ∈ ps, ∀ m', notSg m' → ∃ y', same y' y ∧ repF (pAlt n) d (wt 2 y ++ m') = .ok (y', m') := by
        intro y hy m' hm'
        unfold wt
        have hyy := hall y hy
        split
        · obtain ⟨y', h3, h4⟩ := brk_of (hb y hy).1 (hd y hy) h2 m'
          exact ⟨y', h3, rep_plain h4 hm'⟩
        · rename_i hr
          refine rep_of hyy.2 hyy.1 ?_ (hb y hy).2 (by have := hd y hy; omega) h2 hm'
          intro e
          rw [e] at hr
          exact hr (by decide)
      have gd : ∀ y ∈ ps, good (wt 2 y) := fun y hy => wt_good (shw_good y (hall y hy).2)
      have hshow : shw (.mk 2 S ps) = (ps.map (wt 2)).flatten := by
        unfold shw
        rw [if_neg (by decide), if_neg (by decide), if_neg (by decide), show rank 2 + 1 = 2 from rfl, shwL_map]
      rw [hshow]
      match ps, hl, hall, hd, item, gd with
      | p :: qs, hl, hall, hd, item, gd =>
        rw [List.map_cons, List.flatten_cons, List.append_assoc]
        have hrest : notSg ((qs.map (wt 2)).flatten ++ m) := by
          cases qs with
          | nil => simp at hl
          | cons q qs =>
            rw [List.map_cons, List.flatten_cons, List.append_assoc]
            exact (gd q (by simp)).app.n
        obtain ⟨p', h3, h4⟩ := item p (by simp) _ hrest
        have hmap1 : (qs.map fun q => (wt 2 q, q)).map (·.1) = qs.map (wt 2) := by rw [List.map_map]; rfl
        have hmap2 : (qs.map fun q => (wt 2 q, q)).map (·.2) = qs := by rw [List.map_map]; exact List.map_id _
        have hits : ∀ x ∈ qs.map fun q => (wt 2 q, q), good x.1 ∧ ∀ m, notSg m → ∃ r', same r' x.2 ∧ repF (pAlt n) d (x.1 ++ m) = .ok (r', m) := by
          intro x hx
          rw [List.mem_map] at hx
          obtain ⟨q, hq, rfl⟩ := hx
          exact ⟨gd q (by simp [hq]), fun m' hm' => item q (by simp [hq]) m' hm'⟩
        have hfu := fuel_ge (fun x hx => (hits x hx).1)
        obtain ⟨l', h5, h6⟩ := catL_items (alt := pAlt n) (d := d) hm (qs.map fun q => (wt 2 q, q)) [p'] (((qs.map (wt 2)).flatten ++ m).length + 1) (by rw [hmap1] at hfu; rw [List.length_append]; omega) hits
        rw [hmap1] at h6
        rw [hmap2] at h5
        refine ⟨.mk 2 noS (p' :: l'), same_no hS (by unfold sameL; exact ⟨h3, h5⟩), ?_⟩
        unfold catF
        rw [h4]
        simp only
        rw [h6]
        have hl' : l'.length = qs.length := sameL_len h5
        cases l' with
        | nil => simp at hl hl'; omega
        | cons y ys => rfl
    · omega
  · obtain ⟨x', h3, h4⟩ := rep_of hf hk2 hk3 (fun y hy => (hb y hy).1) h1 h2 hm.n
    refine ⟨x', h3, ?_⟩
    unfold catF
    rw [h4]
    simp only
    obtain ⟨l', h5, h6⟩ := catL_items (alt := pAlt n) (d := d) hm [] [x'] (m.length + 1) (by simp) (fun x hx => by cases hx)
    simp only [List.map_nil, List.flatten_nil, List.nil_append] at h6 h5
    have : l' = [] := by cases l' with
      | nil => rfl
      | cons y ys => unfold sameL at h5; exact h5.elim
    subst this
    rw [h6]; rfl
theorem bars_len : ∀ (l : List Rx), l.length ≤ ((l.map ((fun y => 124 :: y) ∘ wt 1)).flatten).length
  | [] => by simp
  | q :: qs => by
    have ih := bars_len qs
    rw [List.map_cons, List.flatten_cons, List.length_append]
    have : 1 ≤ (((fun y => 124 :: y) ∘ wt 1) q).length := by simp
    rw [List.length_cons]; omega
theorem back : ∀ (N : Nat) (r : Rx), depth r ≤ N → form r = true → BK r
  | 0, r, h, _ => by have := depth_pos r; omega
  | N + 1, r, hN, hf => by
    intro n d more h1 h2 hm
    have hp := depth_pos r
    obtain ⟨n', rfl⟩ : ∃ n', n = n' + 1 := ⟨n - 1, by omega⟩
    have sub : ∀ y ∈ r.ps, form y = true ∧ depth y + 1 ≤ depth r := by
      obtain ⟨k, S, ps⟩ := r
      intro y hy
      have hy : y ∈ ps := hy
      refine ⟨?_, depth_sub (show y ∈ (Rx.mk k S ps).ps from hy)⟩
      rcases form_cases hf with ⟨_, rfl, _⟩ | ⟨_, hall, _⟩
      · cases hy
      · exact (hall y hy).2
    have hb : ∀ y ∈ r.ps, BK y := fun y hy => back N y (by have := (sub y hy).2; omega) (sub y hy).1
    have hb2 : ∀ y ∈ r.ps, ∀ z ∈ y.ps, BK z := by
      intro y hy z hz
      obtain ⟨k, S, ps⟩ := y
      have hz : z ∈ ps := hz
      have h3 := depth_sub (show z ∈ (Rx.mk k S ps).ps from hz)
      have h4 := (sub _ hy).2
      have hff : form z = true := by
        rcases form_cases (sub _ hy).1 with ⟨_, rfl, _⟩ | ⟨_, hall, _⟩
        · cases hz
        · exact (hall z hz).2
      refine back N z ?_ hff
      omega
    show ∃ r', same r' r ∧ altF (pAlt n') d (shw r ++ more) = .ok (r', more)
    by_cases hk3 : r.k = 3
    · obtain ⟨k, S, ps⟩ := r
      have hk3 : k = 3 := hk3
      subst hk3
      have hb : ∀ y ∈ ps, BK y := hb
      have hb2 : ∀ y ∈ ps, ∀ z ∈ y.ps, BK z := hb2
      have sub : ∀ y ∈ ps, form y = true ∧ depth y + 1 ≤ depth (.mk 3 S ps) := sub
      rcases form_cases hf with ⟨hk, _⟩ | ⟨hS, hall, ⟨_, hl⟩ | ⟨h3, _⟩⟩
      · omega
      · have item : ∀ y ∈ ps, ∀ m', stopC m' → ∃ y', same y' y ∧ catF (pAlt n') d (wt 1 y ++ m') = .ok (y', m') := by
          intro y hy m' hm'
          have hyy := hall y hy
          have hw : wt 1 y = shw y := by
            unfold wt
            rw [if_neg]
            intro hr
            rcases rank_lt2 (k := y.k) (by omega) with e | e
            · rw [e] at hr; exact absurd hr (by decide)
            · exact hyy.1 e
          rw [hw]
          exact cat_of hyy.2 hyy.1 (fun z hz => ⟨hb2 y hy z hz, by
            intro u hu
            obtain ⟨k2, S2, ps2⟩ := z
            have hu : u ∈ ps2 := hu
            have h5 := depthL_le hu
            obtain ⟨k1, S1, ps1⟩ := y
            have hz : Rx.mk k2 S2 ps2 ∈ ps1 := hz
            have h6 := depthL_le hz
            have h7 := (sub _ hy).2
            have hfz : form (.mk k2 S2 ps2) = true := by
              rcases form_cases hyy.2 with ⟨_, rfl, _⟩ | ⟨_, hall', _⟩
              · cases hz
              · exact (hall' _ hz).2
            have hfu : form u = true := by
              rcases form_cases hfz with ⟨_, rfl, _⟩ | ⟨_, hall', _⟩
              · cases hu
              · exact (hall' _ hu).2
            refine back N u ?_ hfu
            have h8 : depth (Rx.mk k2 S2 ps2) = depthL ps2 + 1 := by conv => lhs; unfold depth
            have h9 : depth (Rx.mk k1 S1 ps1) = depthL ps1 + 1 := by conv => lhs; unfold depth
            omega⟩) (by have := (sub y hy).2; omega) (by omega) hm'
        have hshow : shw (.mk 3 S ps) = joinBar (ps.map (wt 1)) := by
          unfold shw
          rw [if_neg (by decide), if_pos rfl, show rank 3 + 1 = 1 from rfl, shwL_map]
        rw [hshow]
        match ps, hl, item with
        | p :: qs, hl, item =>
          rw [List.map_cons, joinBar_flat, List.append_assoc, List.map_map]
          have hrest : stopC ((qs.map ((fun y => 124 :: y) ∘ wt 1)).flatten ++ more) := by
            cases qs with
            | nil => simp at hl
            | cons q qs =>
              rw [List.map_cons, List.flatten_cons]
              intro c t e
              simp at e
              exact .inl e.1.symm
          obtain ⟨p', h3, h4⟩ := item p (by simp) _ hrest
          have hmap2 : (qs.map fun q => (wt 1 q, q)).map (·.2) = qs := by rw [List.map_map]; exact List.map_id _
          have hmap1 : ((qs.map fun q => (wt 1 q, q)).map fun x => 124 :: x.1) = qs.map ((fun y => 124 :: y) ∘ wt 1) := by rw [List.map_map]; rfl
          have hlen : qs.length ≤ ((qs.map ((fun y => 124 :: y) ∘ wt 1)).flatten).length := by
            exact bars_len qs
          obtain ⟨l', h5, h6⟩ := altL_items (alt := pAlt n') (d := d) hm (qs.map fun q => (wt 1 q, q)) [p'] (((qs.map ((fun y => 124 :: y) ∘ wt 1)).flatten ++ more).length + 1) (by rw [List.length_append, List.length_map]; exact Nat.lt_succ_of_le (Nat.le_trans hlen (Nat.le_add_right _ _))) (by
            intro x hx
            rw [List.mem_map] at hx
            obtain ⟨q, hq, rfl⟩ := hx
            exact fun m' hm' => item q (by simp [hq]) m' hm')
          rw [hmap1] at h6
          rw [hmap2] at h5
          refine ⟨.mk 3 noS (p' :: l'), same_no hS (by unfold sameL; exact ⟨h3, h5⟩), ?_⟩
          unfold altF
          rw [h4]
          simp only
          rw [h6]
          have hl' : l'.length = qs.length := sameL_len h5
          cases l' with
          | nil => simp at hl hl'; omega
          | cons y ys => rfl
      · omega
    · obtain ⟨x', h3, h4⟩ := cat_of hf hk3 (fun y hy => ⟨hb y hy, hb2 y hy⟩) h1 (by omega) hm.c
      refine ⟨x', h3, ?_⟩
      unfold altF
      rw [h4]
      simp only
      obtain ⟨l', h5, h6⟩ := altL_items (alt := pAlt n') (d := d) hm [] [x'] (more.length + 1) (by simp) (fun x hx => by cases hx)
      simp only [List.map_nil, List.flatten_nil, List.nil_append] at h6 h5
      have : l' = [] := by cases l' with
        | nil => rfl
        | cons y ys => unfold sameL at h5; exact h5.elim
      subst this
      rw [h6]; rfl
end Go.E.Rg
set_option linter.unusedVariables false
set_option linter.unusedSimpArgs false
set_option maxRecDepth 20000
namespace Go.E.Rg
open Go.H Go.E
inductive Star (R : Nat → Nat → Prop) : Nat → Nat → Prop where
  | refl (i : Nat) : Star R i i
  | step {i x j : Nat} : R i x → Star R x j → Star R i j
theorem Star.one {R : Nat → Nat → Prop} {i j : Nat} (h : R i j) : Star R i j := .step h (.refl j)
theorem Star.trans {R : Nat → Nat → Prop} {i x j : Nat} (h : Star R i x) (k : Star R x j) : Star R i j := by
  induction h with
  | refl => exact k
  | step a _ ih => exact .step a (ih k)
theorem Star.tail {R : Nat → Nat → Prop} {i x j : Nat} (h : Star R i x) (k : R x j) : Star R i j := h.trans (.one k)
mutual
def M (w : List UInt8) : Rx → Nat → Nat → Prop
  | .mk k S ps, i, j =>
    if k = 1 then j = i + 1 ∧ ∃ c : UInt8, w[i]? = some c ∧ S c.toNat = true
    else if k = 2 then MC w ps i j
    else if k = 3 then MA w ps i j
    else if k = 6 then i = j ∨ M1 w ps i j
    else if k = 4 then Star (M1 w ps) i j
    else ∃ x, M1 w ps i x ∧ Star (M1 w ps) x j
def MC (w : List UInt8) : List Rx → Nat → Nat → Prop
  | [], i, j => i = j
  | r :: rs, i, j => ∃ x, M w r i x ∧ MC w rs x j
def MA (w : List UInt8) : List Rx → Nat → Nat → Prop
  | [], i, j => False
  | r :: rs, i, j => M w r i j ∨ MA w rs i j
def M1 (w : List UInt8) : List Rx → Nat → Nat → Prop
  | [], i, j => i = j
  | r :: _, i, j => M w r i j
end
/-- Matches go to the right, and stay within. -/
theorem Star.le {R : Nat → Nat → Prop} {n : Nat} (h : ∀ i j, R i j → i ≤ j ∧ (i ≤ n → j ≤ n)) {i j : Nat} (k : Star R i j) : i ≤ j ∧ (i ≤ n → j ≤ n) := by
  induction k with
  | refl => exact ⟨Nat.le_refl _, id⟩
  | step a _ ih => have := h _ _ a; exact ⟨by omega, fun hi => ih.2 (this.2 hi)⟩
def has (l : List Bool) (j : Nat) : Prop := l.getD j false = true
theorem has_iff {l : List Bool} {j : Nat} : has l j ↔ l[j]? = some true := by
  unfold has
  rw [List.getD_eq_getElem?_getD]
  cases h : l[j]? with
  | none => simp
  | some b => simp
theorem has_lt {l : List Bool} {j : Nat} (h : has l j) : j < l.length := by
  rw [has_iff] at h
  rcases Nat.lt_or_ge j l.length with h' | h'
  · exact h'
  · rw [List.getElem?_eq_none h'] at h; cases h
theorem has_rep {n j : Nat} : ¬ has (List.replicate n false) j := by
  rw [has_iff, List.getElem?_replicate]
  split <;> simp
theorem orL_len {a b : List Bool} (h : a.length = b.length) : (orL a b).length = a.length := by unfold orL; simp; omega
theorem orL_rep {n : Nat} {a : List Bool} (h : a.length = n) : orL (List.replicate n false) a = a := by
  subst h
  unfold orL
  induction a with
  | nil => rfl
  | cons x a ih => rw [List.length_cons, List.replicate_succ, List.zipWith_cons_cons, ih]; simp
theorem has_or {a b : List Bool} (h : a.length = b.length) {j : Nat} : has (orL a b) j ↔ has a j ∨ has b j := by
  rw [has_iff, has_iff, has_iff]
  unfold orL
  rw [List.getElem?_zipWith]
  rcases Nat.lt_or_ge j a.length with hj | hj
  · rw [List.getElem?_eq_getElem hj, List.getElem?_eq_getElem (h ▸ hj)]; simp
  · rw [List.getElem?_eq_none hj, List.getElem?_eq_none (h ▸ hj)]; simp
theorem new_iff {a b : List Bool} (h : a.length = b.length) : newL a b = true ↔ ∃ j, has b j ∧ ¬ has a j := by
  unfold newL
  rw [List.any_eq_true]
  constructor
  · rintro ⟨x, hx, he⟩
    obtain ⟨j, hj, rfl⟩ := List.getElem_of_mem hx
    have hj' : j < a.length := by simp at hj; omega
    have hb' : j < b.length := by omega
    simp only [List.getElem_zipWith, id, Bool.and_eq_true, Bool.not_eq_true'] at he
    refine ⟨j, has_iff.mpr (by rw [List.getElem?_eq_getElem hb', he.1]), fun hh => ?_⟩
    rw [has_iff, List.getElem?_eq_getElem hj', he.2] at hh
    cases hh
  · rintro ⟨j, h1, h2⟩
    have hb' := has_lt h1
    have hj' : j < a.length := by omega
    refine ⟨(List.zipWith (fun x y => y && !x) a b)[j]'(by simp; omega), List.getElem_mem _, ?_⟩
    rw [has_iff, List.getElem?_eq_getElem hb'] at h1
    rw [has_iff, List.getElem?_eq_getElem hj'] at h2
    simp at h1 h2
    simp [h1, h2]
/-- How many places are still free. -/
def free (l : List Bool) : Nat := l.countP fun b => !b
theorem free_le (l : List Bool) : free l ≤ l.length := List.countP_le_length
theorem free_or : ∀ {a b : List Bool}, a.length = b.length → free (orL a b) ≤ free a ∧ (newL a b = true → free (orL a b) < free a)
  | [], [], _ => by simp [orL, free, newL]
  | x :: a, y :: b, h => by
    have ih := free_or (a := a) (b := b) (by simpa using h)
    unfold orL free newL at *
    rw [List.zipWith_cons_cons, List.zipWith_cons_cons, List.countP_cons, List.countP_cons, List.any_cons]
    obtain ⟨i1, i2⟩ := ih
    cases x <;> cases y
    · refine ⟨by simp; omega, fun h => ?_⟩
      simp at h ⊢
      have := i2 (by simpa using h); omega
    · refine ⟨by simp; omega, fun h => by simp; omega⟩
    · refine ⟨by simp; omega, fun h => ?_⟩
      simp at h ⊢
      have := i2 (by simpa using h); omega
    · refine ⟨by simp; omega, fun h => ?_⟩
      simp at h ⊢
      have := i2 (by simpa using h); omega
theorem free_zero {a b : List Bool} (h : a.length = b.length) (h0 : free a = 0) : newL a b = false ∧ orL a b = a := by
  have hall : ∀ x ∈ a, x = true := by
    intro x hx
    unfold free at h0
    rw [List.countP_eq_zero] at h0
    have := h0 x hx
    simpa using this
  constructor
  · cases hn : newL a b with
    | false => rfl
    | true => exact absurd ((free_or h).2 hn) (by omega)
  · apply List.ext_getElem?
    intro j
    unfold orL
    rw [List.getElem?_zipWith]
    rcases Nat.lt_or_ge j a.length with hj | hj
    · rw [List.getElem?_eq_getElem hj, List.getElem?_eq_getElem (h ▸ hj)]
      simp [hall _ (List.getElem_mem hj)]
    · rw [List.getElem?_eq_none hj]
/-- All that is reached. -/
theorem many_iff {f : List Bool → List Bool} {R : Nat → Nat → Prop} {N : Nat} (hl : ∀ a, a.length = N → (f a).length = N) (hf : ∀ a, a.length = N → ∀ j, has (f a) j ↔ ∃ i, has a i ∧ R i j) {at_ out0 : List Bool} :
    ∀ (n : Nat) (out more : List Bool), out.length = N → more.length = N → free out ≤ n → (∀ j, has out j → has out0 j ∨ ∃ i x, has at_ i ∧ R i x ∧ Star R x j) → (∀ j, has more j → ∃ i x, has at_ i ∧ R i x ∧ Star R x j) →
      (∀ j, has out0 j → has out j) → (∀ i j, has out i → R i j → has out j ∨ has more j) → (∀ i j, has at_ i → R i j → has out j ∨ has more j) →
      (manyE f n out more).length = N ∧ ∀ j, has (manyE f n out more) j ↔ has out0 j ∨ ∃ i x, has at_ i ∧ R i x ∧ Star R x j
  | n, out, more, h1, h2, h3, s1, s2, s3, s4, s5 => by
    have fin : newL out more = false → (orL out more).length = N ∧ ∀ j, has (orL out more) j ↔ has out0 j ∨ ∃ i x, has at_ i ∧ R i x ∧ Star R x j := by
      intro hn
      have hsub : ∀ j, has more j → has out j := by
        intro j hj
        apply Classical.byContradiction
        intro hc
        have := (new_iff (h1.trans h2.symm)).mpr ⟨j, hj, hc⟩
        rw [hn] at this; cases this
      have hclo : ∀ x j, Star R x j → has out x → has out j := by
        intro x j h
        induction h with
        | refl => exact id
        | step a _ ih => exact fun hx => ih ((s4 _ _ hx a).elim id (hsub _))
      refine ⟨by rw [orL_len (h1.trans h2.symm)]; exact h1, fun j => ?_⟩
      rw [has_or (h1.trans h2.symm)]
      constructor
      · rintro (h | h)
        · exact s1 j h
        · exact .inr (s2 j h)
      · rintro (h | ⟨i, x, h4, h5, h6⟩)
        · exact .inl (s3 j h)
        · exact .inl (hclo x j h6 ((s5 i x h4 h5).elim id (hsub _)))
    cases n with
    | zero =>
      have hz := free_zero (h1.trans h2.symm) (by omega)
      have := fin hz.1
      rw [hz.2] at this
      unfold manyE; exact this
    | succ n =>
      unfold manyE
      split
      · rename_i hn
        have hlt := (free_or (h1.trans h2.symm)).2 hn
        have hor := fun j => has_or (h1.trans h2.symm) (j := j)
        refine many_iff hl hf n _ _ (by rw [orL_len (h1.trans h2.symm)]; exact h1) (hl _ h2) (by omega) ?_ ?_ ?_ ?_ ?_
        · intro j hj
          rcases (hor j).mp hj with h | h
          · exact s1 j h
          · exact .inr (s2 j h)
        · intro j hj
          obtain ⟨i, h4, h5⟩ := (hf _ h2 j).mp hj
          obtain ⟨i', x, h6, h7, h8⟩ := s2 i h4
          exact ⟨i', x, h6, h7, h8.tail h5⟩
        · exact fun j hj => (hor j).mpr (.inl (s3 j hj))
        · intro i j hi hr
          rcases (hor i).mp hi with h | h
          · exact .inl ((hor j).mpr (s4 i j h hr))
          · exact .inr ((hf _ h2 j).mpr ⟨i, h, hr⟩)
        · exact fun i j hi hr => .inl ((hor j).mpr (s5 i j hi hr))
      · rename_i hn
        exact fin (by simpa using hn)
/-- Where matches end. -/
theorem ends_iff (w : List UInt8) (r : Rx) : ∀ at_ : List Bool, at_.length = w.length + 1 → (ends w r at_).length = w.length + 1 ∧ ∀ j, has (ends w r at_) j ↔ ∃ i, has at_ i ∧ M w r i j := by
  refine Rx.rec (motive_1 := fun r => ∀ at_ : List Bool, at_.length = w.length + 1 → (ends w r at_).length = w.length + 1 ∧ ∀ j, has (ends w r at_) j ↔ ∃ i, has at_ i ∧ M w r i j)
    (motive_2 := fun ps => (∀ at_ : List Bool, at_.length = w.length + 1 → (endsC w ps at_).length = w.length + 1 ∧ ∀ j, has (endsC w ps at_) j ↔ ∃ i, has at_ i ∧ MC w ps i j) ∧
      (∀ at_ out : List Bool, at_.length = w.length + 1 → out.length = w.length + 1 → (endsA w ps at_ out).length = w.length + 1 ∧ ∀ j, has (endsA w ps at_ out) j ↔ has out j ∨ ∃ i, has at_ i ∧ MA w ps i j) ∧
      (∀ at_ : List Bool, at_.length = w.length + 1 → (ends1 w ps at_).length = w.length + 1 ∧ ∀ j, has (ends1 w ps at_) j ↔ ∃ i, has at_ i ∧ M1 w ps i j)) ?_ ?_ ?_ r
  · intro k S ps ⟨hC, hA, h1⟩ at_ hat
    have hr : (List.replicate (w.length + 1) false).length = w.length + 1 := by simp
    unfold ends M
    split
    · unfold setE
      refine ⟨by simp; omega, fun j => ?_⟩
      rw [has_iff]
      cases j with
      | zero => simp
      | succ j =>
        rw [List.getElem?_cons_succ, List.getElem?_zipWith]
        constructor
        · intro h
          cases ha : at_[j]? with
          | none => rw [ha] at h; cases h
          | some b =>
            cases hw : w[j]? with
            | none => rw [ha, hw] at h; cases h
            | some c =>
              rw [ha, hw] at h
              simp at h
              exact ⟨j, has_iff.mpr (by rw [ha, h.1]), rfl, c, hw, h.2⟩
        · rintro ⟨i, h3, h4, c, h5, h6⟩
          have : i = j := by omega
          subst this
          rw [has_iff] at h3
          rw [h3, h5]; simp [h6]
    · split
      · exact hC at_ hat
      · split
        · obtain ⟨h3, h4⟩ := hA at_ _ hat hr
          refine ⟨h3, fun j => ?_⟩
          rw [h4 j]
          exact ⟨fun h => h.elim (fun h => absurd h has_rep) id, .inr⟩
        · obtain ⟨h3, h4⟩ := h1 at_ hat
          rw [orL_rep hat]
          split
          · refine ⟨by rw [orL_len (by omega)]; exact hat, fun j => ?_⟩
            rw [has_or (by omega), h4 j]
            constructor
            · rintro (h | ⟨i, h5, h6⟩)
              · exact ⟨j, h, .inl rfl⟩
              · exact ⟨i, h5, .inr h6⟩
            · rintro ⟨i, h5, rfl | h6⟩
              · exact .inl h5
              · exact .inr ⟨i, h5, h6⟩
          · have hst : ∀ j, has (ends1 w ps at_) j → ∃ i x, has at_ i ∧ M1 w ps i x ∧ Star (M1 w ps) x j := by
              intro j hj
              obtain ⟨i, h5, h6⟩ := (h4 j).mp hj
              exact ⟨i, j, h5, h6, .refl j⟩
            have hsucc : ∀ i j, has at_ i → M1 w ps i j → has (ends1 w ps at_) j := fun i j hi hm => (h4 j).mpr ⟨i, hi, hm⟩
            by_cases hk : k = 4
            · simp only [if_pos hk]
              obtain ⟨h5, h6⟩ := many_iff (f := ends1 w ps) (R := M1 w ps) (N := w.length + 1) (fun a ha => (h1 a ha).1) (fun a ha => (h1 a ha).2) (at_ := at_) (out0 := at_) (w.length + 1) at_ (ends1 w ps at_) hat h3 (by have := free_le at_; omega) (fun j hj => .inl hj) hst (fun j hj => hj) (fun i j hi hm => .inr (hsucc i j hi hm)) (fun i j hi hm => .inr (hsucc i j hi hm))
              refine ⟨h5, fun j => ?_⟩
              rw [h6 j]
              constructor
              · rintro (h | ⟨i, x, h7, h8, h9⟩)
                · exact ⟨j, h, .refl j⟩
                · exact ⟨i, h7, .step h8 h9⟩
              · rintro ⟨i, h7, h8⟩
                cases h8 with
                | refl => exact .inl h7
                | step a b => exact .inr ⟨i, _, h7, a, b⟩
            · simp only [if_neg hk]
              obtain ⟨h5, h6⟩ := many_iff (f := ends1 w ps) (R := M1 w ps) (N := w.length + 1) (fun a ha => (h1 a ha).1) (fun a ha => (h1 a ha).2) (at_ := at_) (out0 := List.replicate (w.length + 1) false) (w.length + 1) (List.replicate (w.length + 1) false) (ends1 w ps at_) hr h3 (by have := free_le (List.replicate (w.length + 1) false); omega) (fun j hj => .inl hj) hst (fun j hj => hj) (fun i j hi hm => absurd hi has_rep) (fun i j hi hm => .inr (hsucc i j hi hm))
              refine ⟨h5, fun j => ?_⟩
              rw [h6 j]
              constructor
              · rintro (h | ⟨i, x, h7, h8, h9⟩)
                · exact absurd h has_rep
                · exact ⟨i, h7, x, h8, h9⟩
              · rintro ⟨i, h7, x, h8, h9⟩
                exact .inr ⟨i, x, h7, h8, h9⟩
  · refine ⟨fun at_ h => ?_, fun at_ out h1 h2 => ?_, fun at_ h => ?_⟩
    · unfold endsC MC
      exact ⟨h, fun j => ⟨fun k => ⟨j, k, rfl⟩, fun ⟨i, k, e⟩ => e ▸ k⟩⟩
    · unfold endsA MA
      exact ⟨h2, fun j => ⟨.inl, fun k => k.elim id (fun ⟨_, _, f⟩ => f.elim)⟩⟩
    · unfold ends1 M1
      exact ⟨h, fun j => ⟨fun k => ⟨j, k, rfl⟩, fun ⟨i, k, e⟩ => e ▸ k⟩⟩
  · intro r rs hr ⟨hC, hA, h1⟩
    refine ⟨fun at_ h => ?_, fun at_ out h2 h3 => ?_, fun at_ h => ?_⟩
    · unfold endsC MC
      obtain ⟨h4, h5⟩ := hr at_ h
      obtain ⟨h6, h7⟩ := hC _ h4
      refine ⟨h6, fun j => ?_⟩
      rw [h7 j]
      constructor
      · rintro ⟨x, h8, h9⟩
        obtain ⟨i, h10, h11⟩ := (h5 x).mp h8
        exact ⟨i, h10, x, h11, h9⟩
      · rintro ⟨i, h10, x, h11, h9⟩
        exact ⟨x, (h5 x).mpr ⟨i, h10, h11⟩, h9⟩
    · unfold endsA MA
      obtain ⟨h4, h5⟩ := hr at_ h2
      obtain ⟨h6, h7⟩ := hA at_ (orL out (ends w r at_)) h2 (by rw [orL_len (by omega)]; exact h3)
      refine ⟨h6, fun j => ?_⟩
      rw [h7 j, has_or (by omega), h5 j]
      constructor
      · rintro ((h | ⟨i, h8, h9⟩) | ⟨i, h8, h9⟩)
        · exact .inl h
        · exact .inr ⟨i, h8, .inl h9⟩
        · exact .inr ⟨i, h8, .inr h9⟩
      · rintro (h | ⟨i, h8, h9 | h9⟩)
        · exact .inl (.inl h)
        · exact .inl (.inr ⟨i, h8, h9⟩)
        · exact .inr ⟨i, h8, h9⟩
    · unfold ends1 M1
      exact hr at_ h
end Go.E.Rg
set_option linter.unusedVariables false
set_option linter.unusedSimpArgs false
set_option maxRecDepth 20000
namespace Go.E.Rg
open Go.H Go.E
theorem null_mk (k : Int) (S : Nat → Bool) (ps : List Rx) : null (.mk k S ps) = (if k = 4 ∨ k = 6 then true else if k = 2 ∨ k = 5 then nullA ps else if k = 3 then nullE ps else false) := by conv => lhs; unfold null
theorem may_form {r : Rx} (h : may r = 0) : form r = true ∧ nodes r ≤ 40 ∧ depth r ≤ 12 := by
  unfold may at h
  split at h
  · rename_i hf
    split at h
    · cases h
    · exact ⟨hf, by omega, by omega⟩
  · cases h
/-- One byte of a set. -/
def st (S : Nat → Bool) : Rx := .mk 1 S []
end Go.E.Rg
set_option linter.unusedVariables false
set_option linter.unusedSimpArgs false
set_option maxRecDepth 20000
namespace Go.E
open Go.H
attribute [local irreducible] BiN MkS ConvN LookN MapUpN CallV HC limb dbTab
/-- What Parse answers: a set, how long, a fault. -/
def res (o : Option ((Nat → Bool) × Nat)) : (Nat → Bool) × Nat × Nat := match o with | some (S, e) => (S, e, 0) | none => (fun _ => false, 0, 2)
theorem Parse_any {s : ByteArray} {m : Mem} (hG : Glob m) (hs : s.size < 2 ^ 62) {R : Ending → Mem → Prop}
    (k : ∀ m', Le m m' → R (.returned (.tuple #[setv (res (cls (lst s))).1, .int .i64 ((res (cls (lst s))).2.1 : Nat), .int .i64 ((res (cls (lst s))).2.2 : Nat)])) m') : HC P class_Parse.id #[.string s] m R := by
  refine Parse_spec hG hs (fun S e hc m1 hle1 => ?_) (fun hc m1 hle1 => ?_)
  · have := k m1 hle1; rw [hc] at this; exact this
  · have := k m1 hle1; rw [hc] at this; exact this
end Go.E
set_option linter.unusedVariables false
set_option linter.unusedSimpArgs false
set_option maxRecDepth 20000
namespace Go.E.Rg
open Go.H Go.E
theorem kids_form {r y : Rx} (hf : form r = true) (h : y ∈ r.ps) : form y = true := by
  obtain ⟨k, S, ps⟩ := r
  rcases form_cases hf with ⟨_, rfl, _⟩ | ⟨_, hall, _⟩
  · cases h
  · exact (hall y h).2
theorem bk_all {r : Rx} (hf : form r = true) : BK r := back (depth r) r (Nat.le_refl _) hf
theorem cat_all {y : Rx} (hf : form y = true) (hk : y.k ≠ 3) {n d : Nat} (h1 : d + depth y ≤ 13) (h2 : 14 ≤ n + 1 + d) {m : List UInt8} (hm : stopC m) : ∃ y', same y' y ∧ catF (pAlt n) d (shw y ++ m) = .ok (y', m) :=
  cat_of hf hk (fun z hz => ⟨bk_all (kids_form hf hz), fun u hu => bk_all (kids_form (kids_form hf hz) hu)⟩) h1 h2 hm
theorem lift_ok {n d : Nat} {s more : List UInt8} {x : Rx} (h : atomF (pAlt n) d s = .ok (x, more)) (hm : stopA more) : pAlt (n + 1) d s = .ok (x, more) := by
  show altF (pAlt n) d s = .ok (x, more)
  have h1 := rep_plain h hm.c.n
  have h2 : catF (pAlt n) d s = .ok (x, more) := by
    unfold catF
    rw [h1]
    simp only
    obtain ⟨l', h5, h6⟩ := catL_items (alt := pAlt n) (d := d) hm.c [] [x] (more.length + 1) (by simp) (fun x hx => by cases hx)
    simp only [List.map_nil, List.flatten_nil, List.nil_append] at h6 h5
    have : l' = [] := by cases l' with
      | nil => rfl
      | cons y ys => unfold sameL at h5; exact h5.elim
    subst this
    rw [h6]; rfl
  unfold altF
  rw [h2]
  simp only
  obtain ⟨l', h5, h6⟩ := altL_items (alt := pAlt n) (d := d) hm [] [x] (more.length + 1) (by simp) (fun x hx => by cases hx)
  simp only [List.map_nil, List.flatten_nil, List.nil_append] at h6 h5
  have : l' = [] := by cases l' with
    | nil => rfl
    | cons y ys => unfold sameL at h5; exact h5.elim
  subst this
  rw [h6]; rfl
theorem lift_err {n d : Nat} {s : List UInt8} {e : Int} (h : atomF (pAlt n) d s = .error e) : pAlt (n + 1) d s = .error e := by
  show altF (pAlt n) d s = .error e
  unfold altF catF repF
  rw [h]
theorem stopA_41 (t : List UInt8) : stopA (41 :: t) := fun c t' e => by cases e; rfl
theorem stopA_nil : stopA [] := fun c t' e => by cases e
def wrap (s : List UInt8) : Nat → List UInt8
  | 0 => s
  | k + 1 => 40 :: wrap s k ++ [41]
theorem parse_of {s : List UInt8} {x' x : Rx} (h : pAlt 14 0 s = .ok (x', [])) (hs : same x' x) (hm : may x = 0) : ∃ r', same r' x ∧ parse s = .ok r' := by
  refine ⟨x', hs, ?_⟩
  unfold parse
  rw [h]
  simp only
  rw [if_pos (by rw [same_may hs]; exact hm)]
theorem gr_one {x : Rx} (hm : may x = 0) : ∃ r', same r' x ∧ parse (40 :: shw x ++ [41]) = .ok r' := by
  obtain ⟨hf, _, hd⟩ := may_form hm
  obtain ⟨x', h1, h2⟩ := brk_of (bk_all hf) (n := 13) (d := 0) (by omega) (by omega) []
  rw [List.append_nil] at h2
  exact parse_of (lift_ok h2 stopA_nil) h1 hm
theorem gr_two {x : Rx} (hm : may x = 0) (hd : depth x ≤ 11) : ∃ r', same r' x ∧ parse (40 :: (40 :: shw x ++ [41]) ++ [41]) = .ok r' := by
  obtain ⟨hf, _, _⟩ := may_form hm
  obtain ⟨x', h1, h2⟩ := brk_of (bk_all hf) (n := 12) (d := 1) (by omega) (by omega) [41]
  have h3 := lift_ok h2 (stopA_41 [])
  have h4 := atom_brk (alt := pAlt 13) (d := 0) (by omega) (s := 40 :: shw x ++ [41]) (more := []) (x := x') h3
  rw [List.append_nil] at h4
  exact parse_of (lift_ok h4 stopA_nil) h1 hm
theorem gr_open {x : Rx} (hm : may x = 0) : parse (40 :: shw x) = .error 2 := by
  obtain ⟨hf, _, hd⟩ := may_form hm
  obtain ⟨x', h1, h2⟩ := bk_all hf 13 1 [] (by omega) (by omega) stopA_nil
  rw [List.append_nil] at h2
  have h3 : pAlt 14 0 (40 :: shw x) = .error 2 := by
    refine lift_err ?_
    unfold atomF
    simp only
    rw [if_neg (by omega), h2]
  unfold parse
  rw [h3]
theorem gr_shut {x : Rx} (hm : may x = 0) : parse (shw x ++ [41]) = .error 2 := by
  obtain ⟨hf, _, hd⟩ := may_form hm
  obtain ⟨x', h1, h2⟩ := bk_all hf 14 0 [41] (by omega) (by omega) (stopA_41 [])
  unfold parse
  rw [h2]
/-- The parts that a bar joins. -/
def parts (x : Rx) : List Rx := if x.k = 3 then x.ps else [x]
theorem parts_ok {x : Rx} (hf : form x = true) : (∀ a ∈ parts x, a.k ≠ 3 ∧ form a = true ∧ depth a ≤ depth x) ∧ (∃ p qs, parts x = p :: qs) ∧ shw x = joinBar ((parts x).map shw) := by
  unfold parts
  obtain ⟨k, S, ps⟩ := x
  split
  · rename_i hk
    have hk : k = 3 := hk
    subst hk
    rcases form_cases hf with ⟨h1, _⟩ | ⟨_, hall, ⟨_, hl⟩ | ⟨h1, _⟩⟩
    · omega
    · refine ⟨fun a ha => ⟨(hall a ha).1, (hall a ha).2, by have := depth_sub ha; omega⟩, ?_, ?_⟩
      · cases ps with
        | nil => simp at hl
        | cons p qs => exact ⟨p, qs, rfl⟩
      · conv => lhs; unfold shw
        rw [if_neg (by decide), if_pos rfl, show rank 3 + 1 = 1 from rfl, shwL_map]
        congr 1
        apply List.map_congr_left
        intro a ha
        unfold wt
        rw [if_neg]
        intro hr
        rcases rank_lt2 (k := a.k) (by omega) with e | e
        · rw [e] at hr; exact absurd hr (by decide)
        · exact (hall a ha).1 e
    · omega
  · rename_i hk
    refine ⟨fun a ha => ?_, ⟨_, _, rfl⟩, by simp [joinBar]⟩
    rw [List.mem_singleton] at ha
    subst ha
    exact ⟨hk, hf, Nat.le_refl _⟩
theorem gr_bar {x y : Rx} (h1 : may x = 0) (h2 : may y = 0) : (may (.mk 3 noS (parts x ++ parts y)) = 0 ∧ ∃ r', same r' (.mk 3 noS (parts x ++ parts y)) ∧ parse (shw x ++ [124] ++ shw y) = .ok r') ∨ parse (shw x ++ [124] ++ shw y) = .error 6 := by
  obtain ⟨f1, _, d1⟩ := may_form h1
  obtain ⟨f2, _, d2⟩ := may_form h2
  obtain ⟨a1, ⟨p, qs, e1⟩, s1⟩ := parts_ok f1
  obtain ⟨a2, ⟨p2, qs2, e2⟩, s2⟩ := parts_ok f2
  have item : ∀ a ∈ parts x ++ parts y, ∀ m, stopC m → ∃ a', same a' a ∧ catF (pAlt 13) 0 (shw a ++ m) = .ok (a', m) := by
    intro a ha m hm
    rcases List.mem_append.mp ha with h | h
    · exact cat_all (a1 a h).2.1 (a1 a h).1 (by have := (a1 a h).2.2; omega) (by omega) hm
    · exact cat_all (a2 a h).2.1 (a2 a h).1 (by have := (a2 a h).2.2; omega) (by omega) hm
  have htext : shw x ++ [124] ++ shw y = shw p ++ (((qs ++ parts y).map fun a => 124 :: shw a).flatten ++ []) := by
    rw [s1, s2, e1, e2, List.map_cons, List.map_cons, joinBar_flat, joinBar_flat]
    simp [List.map_map, Function.comp_def]
  have hrest : stopC (((qs ++ parts y).map fun a => 124 :: shw a).flatten ++ []) := by
    have hne : qs ++ parts y ≠ [] := by rw [e2]; simp
    cases hq : qs ++ parts y with
    | nil => exact absurd hq hne
    | cons q r =>
      rw [List.map_cons, List.flatten_cons]
      intro c t e
      simp at e
      exact .inl e.1.symm
  obtain ⟨p', h3, h4⟩ := item p (by rw [e1]; simp) _ hrest
  have hlen : ∀ l : List Rx, l.length ≤ ((l.map fun a => 124 :: shw a).flatten).length := by
    intro l
    induction l with
    | nil => simp
    | cons q qs ih => rw [List.map_cons, List.flatten_cons, List.length_append, List.length_cons, List.length_cons]; omega
  obtain ⟨l', h5, h6⟩ := altL_items (alt := pAlt 13) (d := 0) stopA_nil ((qs ++ parts y).map fun q => (shw q, q)) [p'] ((((qs ++ parts y).map fun a => 124 :: shw a).flatten ++ []).length + 1) (by
      rw [List.length_map, List.append_nil]; have := hlen (qs ++ parts y); omega) (by
      intro z hz
      rw [List.mem_map] at hz
      obtain ⟨q, hq, rfl⟩ := hz
      refine fun m hm => item q ?_ m hm
      rw [e1]
      exact List.mem_cons_of_mem _ hq)
  have hm1 : ((qs ++ parts y).map fun q => (shw q, q)).map (fun x => 124 :: x.1) = (qs ++ parts y).map fun a => 124 :: shw a := by rw [List.map_map]; rfl
  have hm2 : ((qs ++ parts y).map fun q => (shw q, q)).map (·.2) = qs ++ parts y := by rw [List.map_map]; exact List.map_id _
  rw [hm1] at h6
  rw [hm2] at h5
  have hsame : same (.mk 3 noS (p' :: l')) (.mk 3 noS (parts x ++ parts y)) := by
    refine same_no emptyS_no ?_
    rw [e1, List.cons_append]
    unfold sameL
    exact ⟨h3, h5⟩
  have hp : pAlt 14 0 (shw x ++ [124] ++ shw y) = .ok (.mk 3 noS (p' :: l'), []) := by
    rw [htext]
    show altF (pAlt 13) 0 _ = _
    unfold altF
    rw [h4]
    simp only
    rw [h6]
    have hl' : l'.length = (qs ++ parts y).length := sameL_len h5
    cases l' with
    | nil => rw [e2] at hl'; simp at hl'
    | cons y ys => rfl
  have hform : form (.mk 3 noS (parts x ++ parts y)) = true := by
    unfold form
    rw [if_neg (by decide), if_neg (by rw [emptyS_no]; decide), if_pos (by decide), Bool.and_eq_true, decide_eq_true_eq, formL_iff]
    refine ⟨by rw [e1, e2]; simp; omega, fun a ha => ?_⟩
    rcases List.mem_append.mp ha with h | h
    · exact ⟨(a1 a h).1, (a1 a h).2.1⟩
    · exact ⟨(a2 a h).1, (a2 a h).2.1⟩
  unfold parse
  rw [hp]
  simp only
  rw [same_may hsame]
  by_cases hm : may (.mk 3 noS (parts x ++ parts y)) = 0
  · rw [if_pos hm]
    exact .inl ⟨hm, _, hsame, rfl⟩
  · rw [if_neg hm]
    right
    unfold may at hm ⊢
    rw [if_pos hform] at hm ⊢
    split at hm
    · rename_i h; rw [if_pos h]
    · exact absurd rfl hm
end Go.E.Rg
set_option linter.unusedVariables false
set_option linter.unusedSimpArgs false
set_option maxRecDepth 20000
namespace Go.E.Rg
open Go.H Go.E
def num (l : List UInt8) (m : Nat) : Nat := match l with | [] => 0 | c :: _ => c.toNat % m
def few : List UInt8 := [97, 98, 49, 10, 32, 45]
def psS (l : List UInt8) : Nat → Bool :=
  if num l 7 = 0 then inB [97, 98] else if num l 7 = 1 then inB [98, 99, 100] else if num l 7 = 2 then (fun b => !inB [97, 10] b)
  else if num l 7 = 3 then inB [48, 49, 50] else inB [few.getD (num l.tail 6) 0]
def psR (l : List UInt8) : List UInt8 := if num l 7 ≤ 3 then l.tail else l.tail.tail
def kidF (f : List UInt8 → Rx × List UInt8) (kind : Int) (l : List UInt8) : Rx × List UInt8 :=
  if (f l).1.k = kind ∨ (4 ≤ kind ∧ 4 ≤ (f l).1.k) then (st (psS (f l).2), psR (f l).2) else f l
def kidsF (f : List UInt8 → Rx × List UInt8) (kind : Int) : Nat → List UInt8 → List Rx × List UInt8
  | 0, l => ([], l)
  | n + 1, l => ((kidF f kind l).1 :: (kidsF f kind n (kidF f kind l).2).1, (kidsF f kind n (kidF f kind l).2).2)
def kindOf (k : Nat) : Int := 2 + (((k + 1) % 5 : Nat) : Int)
def prx : Nat → List UInt8 → Rx × List UInt8
  | 0, l => (st (psS l.tail), psR l.tail)
  | d + 1, l =>
    if num l 9 < 4 then (st (psS l.tail), psR l.tail)
    else if kindOf (num l 9) ≤ 3 then (.mk (kindOf (num l 9)) noS (kidsF (prx d) (kindOf (num l 9)) (2 + num l.tail 2) l.tail.tail).1, (kidsF (prx d) (kindOf (num l 9)) (2 + num l.tail 2) l.tail.tail).2)
    else (.mk (kindOf (num l 9)) noS (kidsF (prx d) (kindOf (num l 9)) 1 l.tail).1, (kidsF (prx d) (kindOf (num l 9)) 1 l.tail).2)
theorem num_lt (l : List UInt8) {m : Nat} (h : 0 < m) : num l m < m := by
  unfold num
  split
  · exact h
  · exact Nat.mod_lt _ h
theorem empty_at {S : Nat → Bool} (b : Nat) (hb : b < 256) (h : S b = true) : emptyS S = false := by
  cases he : emptyS S with
  | false => rfl
  | true => rw [empty_all he b hb] at h; cases h
theorem psS_some (l : List UInt8) : emptyS (psS l) = false := by
  unfold psS
  split
  · exact empty_at 97 (by decide) (by decide)
  · split
    · exact empty_at 98 (by decide) (by decide)
    · split
      · exact empty_at 98 (by decide) (by decide)
      · split
        · exact empty_at 48 (by decide) (by decide)
        · refine empty_at (few.getD (num l.tail 6) 0).toNat (UInt8.toNat_lt _) ?_
          unfold inB; simp
theorem form_st {S : Nat → Bool} (h : emptyS S = false) : form (st S) = true := by unfold st form; simp [h]
theorem depth_st (S : Nat → Bool) : depth (st S) = 1 := by unfold st depth depthL; rfl
theorem kindOf_in (k : Nat) : 2 ≤ kindOf k ∧ kindOf k ≤ 6 := by unfold kindOf; omega
theorem kid_ok {f : List UInt8 → Rx × List UInt8} {D : Nat} (hD : 1 ≤ D) (hf : ∀ l, form (f l).1 = true ∧ depth (f l).1 ≤ D) {kind : Int} (hk : kind ≠ 1) (l : List UInt8) :
    form (kidF f kind l).1 = true ∧ depth (kidF f kind l).1 ≤ D ∧ (kidF f kind l).1.k ≠ kind ∧ (4 ≤ kind → sgK (kidF f kind l).1.k = false) := by
  unfold kidF
  split
  · refine ⟨form_st (psS_some _), by rw [depth_st]; exact hD, fun e => hk e.symm, fun _ => rfl⟩
  · rename_i h
    refine ⟨(hf l).1, (hf l).2, fun e => h (.inl e), fun h4 => ?_⟩
    cases hs : sgK (f l).1.k with
    | false => rfl
    | true => exact absurd (.inr ⟨h4, (sgK_iff.mp hs).1⟩) h
theorem kids_ok {f : List UInt8 → Rx × List UInt8} {D : Nat} (hD : 1 ≤ D) (hf : ∀ l, form (f l).1 = true ∧ depth (f l).1 ≤ D) {kind : Int} (hk : kind ≠ 1) : ∀ (n : Nat) (l : List UInt8),
    (kidsF f kind n l).1.length = n ∧ ∀ a ∈ (kidsF f kind n l).1, form a = true ∧ depth a ≤ D ∧ a.k ≠ kind ∧ (4 ≤ kind → sgK a.k = false)
  | 0, l => by unfold kidsF; simp
  | n + 1, l => by
    obtain ⟨h1, h2⟩ := kids_ok hD hf hk n (kidF f kind l).2
    unfold kidsF
    refine ⟨by simp [h1], fun a ha => ?_⟩
    rcases List.mem_cons.mp ha with rfl | ha
    · exact kid_ok hD hf hk l
    · exact h2 a ha
theorem depthL_ub : ∀ {ps : List Rx} {D : Nat}, (∀ a ∈ ps, depth a ≤ D) → depthL ps ≤ D
  | [], D, _ => by unfold depthL; omega
  | r :: rs, D, h => by
    unfold depthL
    have h1 := h r (by simp)
    have h2 := depthL_ub (fun a ha => h a (List.mem_cons_of_mem r ha))
    omega
/-- Expressions made of numbers are as they may be, but for their size. -/
theorem prx_ok : ∀ (d : Nat) (l : List UInt8), form (prx d l).1 = true ∧ depth (prx d l).1 ≤ d + 1
  | 0, l => by unfold prx; exact ⟨form_st (psS_some _), by rw [depth_st]; omega⟩
  | d + 1, l => by
    have ih := prx_ok d
    have hk := kindOf_in (num l 9)
    have hk1 : kindOf (num l 9) ≠ 1 := by omega
    unfold prx
    split
    · exact ⟨form_st (psS_some _), by rw [depth_st]; omega⟩
    · split
      · rename_i h3
        obtain ⟨h4, h5⟩ := kids_ok (f := prx d) (D := d + 1) (by omega) ih hk1 (2 + num l.tail 2) l.tail.tail
        refine ⟨?_, by rw [depth_mk]; have := depthL_ub (fun a ha => (h5 a ha).2.1); omega⟩
        unfold form
        rw [if_neg hk1, if_neg (by rw [emptyS_no]; decide), if_pos (by omega), Bool.and_eq_true, decide_eq_true_eq, formL_iff]
        exact ⟨by omega, fun a ha => ⟨(h5 a ha).2.2.1, (h5 a ha).1⟩⟩
      · rename_i h3
        obtain ⟨h4, h5⟩ := kids_ok (f := prx d) (D := d + 1) (by omega) ih hk1 1 l.tail
        refine ⟨?_, by rw [depth_mk]; have := depthL_ub (fun a ha => (h5 a ha).2.1); omega⟩
        unfold form
        rw [if_neg hk1, if_neg (by rw [emptyS_no]; decide), if_neg (by omega), if_pos (sgK_iff.mpr (by omega)), Bool.and_eq_true, Bool.and_eq_true, decide_eq_true_eq, formL_iff]
        refine ⟨⟨h4, ?_⟩, fun a ha => ⟨(h5 a ha).2.2.1, (h5 a ha).1⟩⟩
        rw [Bool.not_eq_true', List.any_eq_false]
        intro a ha
        rw [(h5 a ha).2.2.2 (by omega)]; decide
end Go.E.Rg
set_option linter.unusedVariables false
set_option linter.unusedSimpArgs false
set_option maxRecDepth 20000
namespace Go.E.Rg
open Go.H Go.E
/-- "a(b|c)*" -/
def bgT : List UInt8 := [97, 40, 98, 124, 99, 41, 42]
def bgR : Rx := .mk 2 noS [.mk 1 (fromTo 97 97) [], .mk 4 noS [.mk 3 noS [.mk 1 (fromTo 98 98) [], .mk 1 (fromTo 99 99) []]]]
theorem bg_parse : parse bgT = .ok bgR := by rfl
theorem bg_show : shw bgR = bgT := by decide +kernel
theorem bg_may : may bgR = 0 := by decide +kernel
theorem bg_null : null bgR = false := by decide +kernel
theorem bg_in : isIn bgR [97, 98, 99] = true ∧ isIn bgR [98] = false := by decide +kernel
end Go.E.Rg
set_option linter.unusedVariables false
set_option linter.unusedSimpArgs false
set_option maxRecDepth 20000
namespace Go.E
open Go.H
attribute [local irreducible] BiN MkS ConvN LookN MapUpN CallV HC limb dbTab
theorem byte_d16 {b : Nat} (hb : b < 256) : IntKind.u8.wrap (Int.tdiv (b : Int) 16) = ((b / 16 : Nat) : Int) := by
  rw [show (16 : Int) = ((16 : Nat) : Int) from rfl, ← Int.ofNat_tdiv, IntKind.wrap_u8]; omega
theorem byte_m16 {b : Nat} : Int.tmod (b : Int) 16 = ((b % 16 : Nat) : Int) := by
  rw [show (16 : Int) = ((16 : Nat) : Int) from rfl, ← Int.ofNat_tmod]
theorem hex_bt : ∀ k : Nat, k < 16 → bt hexB (k : Int) = (((hexd k).toNat : Nat) : Int) := by decide +kernel
theorem sp_rng : ∀ a, a < 256 → isSp a = true → 33 ≤ a ∧ a ≤ 126 := by decide +kernel
theorem rshown_spec {c : Nat} (hc : c < 256) {m : Mem} {R : Ending → Mem → Prop} (k : ∀ m', Le m m' → R (.returned (.string (bstr (sgT c)))) m') : HC P eyotref8_shown.id #[.int .u8 (c : Int)] m R := by
  refine eyotref8_shown.ok _ _ _ ?_
  refine in_spec hc ?_
  dsimp only [Cont]
  refine UnB.mk ?_
  have hk2 : ¬ (33 ≤ c ∧ c ≤ 126) → eyotref8_shown.k2 (c : Int) R m := by
    intro h
    unfold sgT at k
    rw [if_pos (by omega)] at k
    refine ⟨m, Le.refl _, ?_⟩
    rw [byte_d16 hc, byte_m16]
    refine ⟨by omega, by show ((c / 16 : Nat) : Int) < 16; omega, ?_⟩
    refine ⟨by omega, by show ((c % 16 : Nat) : Int) < 16; omega, ?_⟩
    have h1 := hex_bt (c / 16) (by omega)
    have h2 := hex_bt (c % 16) (by omega)
    rw [h1, h2]
    intro b hb
    refine ⟨[92, 120, hexd (c / 16), hexd (c % 16)], rfl, cells_at (set_same _ _ _) rfl, ?_⟩
    exact k _ (Le.set hb _)
  refine Br.mk (fun hsp => ?_) (fun hsp => ?_)
  · have hr : 33 ≤ c ∧ c ≤ 126 := by
      exact sp_rng c hc hsp
    unfold sgT at k
    rw [if_neg (by omega), if_pos hsp] at k
    intro b hb
    refine ⟨[92, UInt8.ofNat c], rfl, cells_at (set_same _ _ _) (by rw [u8n hc]; rfl), ?_⟩
    exact k _ (Le.set hb _)
  · have hk1 : ∀ t, t = decide (33 ≤ c ∧ c ≤ 126) → eyotref8_shown.k1 (c : Int) t R m := by
      intro t ht
      unfold eyotref8_shown.k1
      refine Br.mk (fun h1 => ?_) (fun h1 => ?_)
      · rw [ht, decide_eq_true_eq] at h1
        unfold sgT at k
        rw [if_neg (by omega), if_neg (by simp [hsp])] at k
        intro b hb
        refine ⟨[UInt8.ofNat c], rfl, cells_at (set_same _ _ _) (by rw [u8n hc]; rfl), ?_⟩
        exact k _ (Le.set hb _)
      · rw [ht, decide_eq_false_iff_not] at h1
        exact hk2 h1
    refine BrD (fun h1 => ?_) (fun h1 => ?_)
    · refine hk1 _ ?_
      rw [Bool.eq_iff_iff, decide_eq_true_eq, decide_eq_true_eq]; omega
    · refine hk1 _ ?_
      rw [eq_comm, decide_eq_false_iff_not]; omega
/-- The bytes of runs. -/
def cat (rs : List (Nat × Nat)) : List Nat := rs.flatMap fun p => List.range' p.1 (p.2 + 1 - p.1)
theorem cat_append (a b : List (Nat × Nat)) : cat (a ++ b) = cat a ++ cat b := by simp [cat]
theorem cat_one (p : Nat × Nat) : cat [p] = List.range' p.1 (p.2 + 1 - p.1) := by simp [cat]
theorem runL_succ (f : Nat → Bool) (k : Nat) : runL f (k + 1) = if f k = true then runS (runL f k) k else runL f k := rfl
theorem filter_runs (f : Nat → Bool) : ∀ k, (List.range k).filter f = cat (runL f k)
  | 0 => rfl
  | k + 1 => by
    have ih := filter_runs f k
    have hok := run_ok f k
    rw [List.range_succ, List.filter_append, ih, runL_succ]
    by_cases hf : f k = true
    · rw [if_pos hf]
      have h1 : [k].filter f = [k] := by simp [hf]
      rw [h1]
      rcases List.eq_nil_or_concat (runL f k) with h | ⟨l0, ⟨a, b⟩, h⟩
      · rw [h, runS_nil]
        rw [cat_one]
        dsimp only
        rw [show k + 1 - k = 1 by omega]; rfl
      · rw [List.concat_eq_append] at h
        rw [h] at hok ⊢
        have hab := hok (a, b) (by simp)
        dsimp only at hab
        rw [runS_snoc]
        split
        · rename_i e
          rw [cat_append, cat_append, cat_one, cat_one, List.append_assoc]
          dsimp only
          rw [show k + 1 - a = (b + 1 - a) + 1 by omega, List.range'_concat, show a + 1 * (b + 1 - a) = k by omega]
        · rw [cat_append _ [(k, k)], cat_one]
          dsimp only
          rw [show k + 1 - k = 1 by omega]; rfl
    · rw [if_neg hf]
      have h1 : [k].filter f = [] := by simp [hf]
      rw [h1, List.append_nil]
theorem run_sep (f : Nat → Bool) : ∀ k, (runL f k).Pairwise fun p q => p.2 + 1 < q.1
  | 0 => List.Pairwise.nil
  | k + 1 => by
    have ih := run_sep f k
    have hok := run_ok f k
    unfold runL
    split
    · rcases List.eq_nil_or_concat (runL f k) with h | ⟨l0, ⟨a, b⟩, h⟩
      · rw [h, runS_nil]; exact List.pairwise_singleton _ _
      · rw [List.concat_eq_append] at h
        rw [h] at hok ih ⊢
        have hab := hok (a, b) (by simp)
        dsimp only at hab
        rw [runS_snoc]
        have h2 := List.pairwise_append.mp ih
        split
        · refine List.pairwise_append.mpr ⟨h2.1, List.pairwise_singleton _ _, ?_⟩
          intro x hx y hy
          rw [List.mem_singleton] at hy; subst hy
          exact h2.2.2 x hx (a, b) (by simp)
        · refine List.pairwise_append.mpr ⟨ih, List.pairwise_singleton _ _, ?_⟩
          intro x hx y hy
          rw [List.mem_singleton] at hy; subst hy
          show x.2 + 1 < k
          rcases List.mem_append.mp hx with hx | hx
          · have h3 := h2.2.2 x hx (a, b) (by simp)
            dsimp only at h3; omega
          · rw [List.mem_singleton] at hx; subst hx
            dsimp only; omega
    · exact ih
theorem flt_cat (f : Nat → Bool) : flt f 256 = (cat (runL f 256)).map UInt8.ofNat := by unfold flt; rw [filter_runs]
theorem cat_len (rs : List (Nat × Nat)) (h : ∀ p ∈ rs, p.1 ≤ p.2) : rs.length ≤ (cat rs).length := by
  induction rs with
  | nil => simp
  | cons p rs ih =>
    have h1 := h p (by simp)
    have := ih fun q hq => h q (by simp [hq])
    rw [show p :: rs = [p] ++ rs from rfl, cat_append, cat_one]
    simp; omega
/-- What stands where, in a list of runs' bytes. -/
theorem cat_in {r1 r2 : List (Nat × Nat)} {a b t : Nat} (ht : t < b + 1 - a) : (cat (r1 ++ (a, b) :: r2))[(cat r1).length + t]? = some (a + t) := by
  rw [cat_append, show (a, b) :: r2 = [(a, b)] ++ r2 from rfl, cat_append, cat_one]
  rw [List.getElem?_append_right (by omega), show (cat r1).length + t - (cat r1).length = t by omega]
  rw [List.getElem?_append_left (by simpa using ht), List.getElem?_range' ht]
  simp
theorem cat_next {r1 r2 : List (Nat × Nat)} {a b : Nat} (hab : a ≤ b) {p : Nat × Nat} (hp : p.1 ≤ p.2) : (cat (r1 ++ (a, b) :: p :: r2))[(cat r1).length + (b + 1 - a)]? = some p.1 := by
  have h := cat_in (r1 := r1 ++ [(a, b)]) (r2 := r2) (a := p.1) (b := p.2) (t := 0) (by omega)
  rw [cat_append, cat_append, cat_one] at h
  simp only [List.length_append, List.length_range', Nat.add_zero] at h
  rw [show r1 ++ (a, b) :: p :: r2 = (r1 ++ [(a, b)]) ++ (p.1, p.2) :: r2 by simp, cat_append, cat_append, cat_one]
  exact h
end Go.E
set_option linter.unusedVariables false
set_option linter.unusedSimpArgs false
set_option maxRecDepth 20000
namespace Go.E
open Go.H
attribute [local irreducible] BiN MkS ConvN LookN MapUpN CallV HC limb dbTab
abbrev catB (rs : List (Nat × Nat)) : List UInt8 := (cat rs).map UInt8.ofNat
theorem el {m : Mem} {a : Option Addr} {l : Nat} {rs : List (Nat × Nat)} (hc : CellsAt m a (u8s (catB rs))) (hl : (cat rs).length = l) {i : Int} {n v : Nat} (hi : i = (n : Int)) (hn : (cat rs)[n]? = some v) (hv : v < 256) {K : Value → Prop}
    (k : K (.int .u8 (v : Int))) : IxS a l i 1 (fun b o => LdV m b o K) := by
  subst hi
  have hlt : n < (cat rs).length := by
    apply Decidable.byContradiction
    intro h
    rw [List.getElem?_eq_none (by omega)] at hn; cases hn
  refine IxS.u8s hc (by rw [List.length_map]; exact hl) (by omega) (by omega) ?_
  intro x hx
  rw [Int.toNat_natCast, List.getElem?_map, hn] at hx
  cases hx
  rw [toNat_of hv]; exact k
section
variable {f : Nat → Bool} {m mm : Mem} {a : Option Addr} {l c : Nat} {rs r1 r2 : List (Nat × Nat)} {R : Ending → Mem → Prop} {K1 : Option Addr → Nat → Nat → ByteArray → Int → Mem → Prop}
theorem k4_show {x y o t : Nat} {w : List UInt8} (hxy : x ≤ y) (hy : y < 256) (ht : t = y - x) (ho : o + t < 1000) (hw : w.length ≤ 100000) (hc : CellsAt mm a (u8s (catB rs))) (hl : (cat rs).length = l) (hn : (cat rs)[o + t]? = some y)
    (k : ∀ m', Le mm m' → K1 a l c (bstr (w ++ if y = x then [] else sgT y)) ((o + t + 1 : Nat) : Int) m') : eyotref8_ShowClass.k4 K1 a l c (bstr w) (o : Int) ((o + t : Nat) : Int) R mm := by
  unfold eyotref8_ShowClass.k4
  have hwr : IntKind.i64.wrap (((o + t : Nat) : Int) + 1) = ((o + t + 1 : Nat) : Int) := by rw [wi (by omega) (by omega)]; omega
  rw [hwr]
  refine BrD (fun h => ?_) (fun h => ?_)
  · rw [if_neg (by omega)] at k
    refine el hc hl rfl hn hy ?_
    refine UnI.mk ?_
    refine rshown_spec hy ?_
    intro m1 hle1
    dsimp only [Cont]
    have := sgT_len y
    refine UnStr.mk (CatB_bs (by omega) ?_)
    rw [bstr_append]
    exact k _ hle1
  · rw [if_pos (by omega), List.append_nil] at k
    exact k _ (Le.refl _)
theorem k3_show {x y o t : Nat} {w : List UInt8} (hxy : x ≤ y) (hy : y < 256) (ht : t = y - x) (ho : o + t < 1000) (hw : w.length ≤ 10000) (hc : CellsAt mm a (u8s (catB rs))) (hl : (cat rs).length = l) (hn : (cat rs)[o + t]? = some y) (h0 : (cat rs)[o]? = some x)
    (k : ∀ m', Le mm m' → K1 a l c (bstr (w ++ shT x y)) ((o + t + 1 : Nat) : Int) m') : eyotref8_ShowClass.k3 K1 a l c (bstr w) (o : Int) ((o + t : Nat) : Int) R mm := by
  unfold eyotref8_ShowClass.k3
  refine el hc hl rfl h0 (by omega) ?_
  refine UnI.mk ?_
  refine rshown_spec (by omega) ?_
  intro m1 hle1
  dsimp only [Cont]
  have hsx := sgT_len x
  refine UnStr.mk (CatB_bs (by omega) ?_)
  have hwr : IntKind.i64.wrap ((o : Int) + 1) = ((o + 1 : Nat) : Int) := by rw [wi (by omega) (by omega)]; omega
  rw [hwr, bstr_append]
  unfold shT at k
  refine BrD (fun h => ?_) (fun h => ?_)
  · rw [if_neg (by omega), if_neg (by omega)] at k
    have e : bstr (w ++ sgT x) ++ ByteArray.mk #[45] = bstr (w ++ sgT x ++ [45]) := bstr_append _ [45]
    rw [e]
    refine ⟨by rw [bstr_size, List.length_append]; show _ + 1 ≤ _; omega, ?_⟩
    refine k4_show hxy hy ht ho (by simp; omega) (hc.le hle1) hl hn ?_
    intro m2 hle2
    rw [if_neg (by omega)]
    have := k m2 (hle1.trans hle2)
    simpa [List.append_assoc] using this
  · refine k4_show hxy hy ht ho (by simp; omega) (hc.le hle1) hl hn ?_
    intro m2 hle2
    have := k m2 (hle1.trans hle2)
    by_cases e : y = x
    · rw [if_pos e] at this ⊢
      simpa using this
    · rw [if_neg e, if_pos (by omega)] at this
      rw [if_neg e]
      simpa [List.append_assoc] using this
theorem l1_show (hrs : rs = runL f 256) (hle : Le m mm) (hc : CellsAt mm a (u8s (catB rs))) (hl : (cat rs).length = l) (hl2 : l ≤ 256)
    (k : ∀ m', Le m m' → R (.returned (.string (bstr (brk rs)))) m') : eyotref8_ShowClass.l1 a l c (ByteArray.mk #[91]) 0 R mm := by
  have hok := run_ok f 256
  have hsep := run_sep f 256
  rw [← hrs] at hok hsep
  have hrl := cat_len rs fun p hp => (hok p hp).1
  refine ⟨fun N xa xl xc out i m1 => xa = a ∧ xl = l ∧ xc = c ∧ ∃ r1 r2 : List (Nat × Nat), rs = r1 ++ r2 ∧ i = ((cat r1).length : Nat) ∧ out = bstr ([91] ++ joinR r1) ∧ N = r2.length ∧ Le mm m1, rs.length, ⟨rfl, rfl, rfl, [], rs, rfl, rfl, rfl, rfl, Le.refl _⟩, ?_⟩
  rintro N xa xl xc out i m1 ⟨rfl, rfl, rfl, r1, r2, e, rfl, rfl, rfl, hle1⟩
  have hcl : (cat r1).length + (cat r2).length = xl := by rw [← hl, e, cat_append, List.length_append]
  have hr1 : r1.length ≤ 256 := by have := congrArg List.length e; rw [List.length_append] at this; omega
  have hj1 := joinR_len r1
  have hc1 := hc.le hle1
  refine BrD (fun hlt => ?_) (fun hge => ?_)
  · cases r2 with
    | nil => rw [show (cat ([] : List (Nat × Nat))).length = 0 from rfl] at hcl; omega
    | cons p r3 =>
      obtain ⟨x, y⟩ := p
      have hxy := hok (x, y) (by rw [e]; simp)
      dsimp only at hxy
      have hat : ∀ t, t < y + 1 - x → (cat rs)[(cat r1).length + t]? = some (x + t) := fun t ht => by rw [e]; exact cat_in ht
      have hcx : (cat r1).length + (y + 1 - x) + (cat r3).length = xl := by
        rw [show (x, y) :: r3 = [(x, y)] ++ r3 from rfl, cat_append, cat_one] at hcl
        simp at hcl; omega
      refine ⟨fun N' ya yl yc out' i' n' m2 => ya = xa ∧ yl = xl ∧ yc = xc ∧ out' = bstr ([91] ++ joinR r1) ∧ i' = ((cat r1).length : Nat) ∧ m2 = m1 ∧ ∃ t : Nat, n' = ((cat r1).length + t : Nat) ∧ t ≤ y - x ∧ N' = y - x - t, y - x, ⟨rfl, rfl, rfl, rfl, rfl, rfl, 0, rfl, by omega, rfl⟩, ?_⟩
      rintro N' ya yl yc out' i' n' m2 ⟨rfl, rfl, rfl, rfl, rfl, rfl, t, rfl, ht, rfl⟩
      have hk3 : t = y - x → eyotref8_ShowClass.k3 (fun a0 a1 a2 a3 a4 m' => ∃ N'', N'' < ((x, y) :: r3).length ∧ (a0 = ya ∧ a1 = yl ∧ a2 = yc ∧ ∃ r1 r2 : List (Nat × Nat), rs = r1 ++ r2 ∧ a4 = ((cat r1).length : Nat) ∧ a3 = bstr ([91] ++ joinR r1) ∧ N'' = r2.length ∧ Le mm m')) ya yl yc (bstr ([91] ++ joinR r1)) ((cat r1).length : Nat) ((cat r1).length + t : Nat) R m2 := by
        intro htt
        refine k3_show hxy.1 hxy.2 htt (by omega) (by simp; omega) hc1 hl (by rw [hat t (by omega)]; congr 1; omega) (by have := hat 0 (by omega); simpa using this) ?_
        intro m3 hle3
        refine ⟨r3.length, by simp, rfl, rfl, rfl, r1 ++ [(x, y)], r3, by rw [e]; simp, ?_, ?_, rfl, hle1.trans hle3⟩
        · rw [cat_append, cat_one]; simp; omega
        · unfold joinR; simp
      refine ⟨m2, Le.refl _, ?_⟩
      have hwr : IntKind.i64.wrap ((((cat r1).length + t : Nat) : Int) + 1) = (((cat r1).length + (t + 1) : Nat) : Int) := by rw [wi (by omega) (by omega)]; omega
      rw [hwr]
      refine BrD (fun hlt2 => ?_) (fun hge2 => ?_)
      · by_cases htt : t = y - x
        · cases r3 with
          | nil => rw [show (cat ([] : List (Nat × Nat))).length = 0 from rfl] at hcx; omega
          | cons q r4 =>
            have hq := hok q (by rw [e]; simp)
            have hs : y + 1 < q.1 := by
              rw [e] at hsep
              have h1 := (List.pairwise_append.mp hsep).2.1
              have h2 := (List.pairwise_cons.mp h1).1 q (by simp)
              exact h2
            refine el hc1 hl rfl (by rw [e, show t + 1 = y + 1 - x by omega]; exact cat_next hxy.1 hq.1) (by omega) ?_
            refine UnI.mk ?_
            refine el hc1 hl rfl (hat t (by omega)) (by omega) ?_
            refine UnI.mk ?_
            refine BrEf ?_ (hk3 htt)
            rw [IntKind.wrap_u8]; omega
        · refine el hc1 hl rfl (hat (t + 1) (by omega)) (by omega) ?_
          refine UnI.mk ?_
          refine el hc1 hl rfl (hat t (by omega)) (by omega) ?_
          refine UnI.mk ?_
          refine BrEt ?_ ?_
          · rw [IntKind.wrap_u8]; omega
          · refine ⟨_, ?_, rfl, rfl, rfl, rfl, rfl, rfl, t + 1, rfl, by omega, rfl⟩
            omega
      · exact hk3 (by omega)
  · have h0 : r2 = [] := by
      cases r2 with
      | nil => rfl
      | cons p r3 =>
        have hp := hok p (by rw [e]; simp)
        rw [show p :: r3 = [p] ++ r3 from rfl, cat_append, cat_one] at hcl
        simp at hcl; omega
    subst h0
    rw [List.append_nil] at e
    rw [← e] at hj1 ⊢
    have e2 : bstr ([91] ++ joinR rs) ++ ByteArray.mk #[93] = bstr (brk rs) := bstr_append _ [93]
    rw [e2]
    refine ⟨?_, k _ (hle.trans hle1)⟩
    rw [bstr_size]
    show _ + 1 ≤ _
    simp; rw [← e] at hr1; omega
end
theorem ShowClass_spec {f : Nat → Bool} {m : Mem} {R : Ending → Mem → Prop} (k : ∀ m', Le m m' → R (.returned (.string (bstr (shW f)))) m') : HC P eyotref8_ShowClass.id #[setv f] m R := by
  refine eyotref8_ShowClass.ok _ _ _ _ _ _ ?_
  intro b hb
  have hle0 := Le.set hb (.cells (cells4 f) T_api_Set (0, 0))
  refine get4 (set_same _ _ _) ?_
  refine list_spec ?_
  intro m2 a l c hr
  have hle := hle0.trans hr.le
  have hrs := flt_cat f
  have hok := run_ok f 256
  have hl : (cat (runL f 256)).length = l := by rw [← hr.len, hrs, List.length_map]
  have hl2 : l ≤ 256 := by have := flt_len f 256; rw [hr.len] at this; exact this
  have hc : CellsAt m2 a (u8s (catB (runL f 256))) := by rw [catB, ← hrs]; exact hr.own.cells
  have hrl := cat_len (runL f 256) fun p hp => (hok p hp).1
  dsimp only [Cont]
  refine UnS.mk ?_
  unfold shW at k
  refine BrE (fun h => ?_) (fun h0 => ?_)
  · rw [if_pos (by omega)] at k
    exact k m2 hle
  have hn0 : ¬ (runL f 256).length = 0 := by
    intro h
    rw [List.length_eq_zero_iff.mp h] at hl
    simp [cat] at hl; omega
  rw [if_neg hn0] at k
  have hfull : (fullS f = true) ↔ l = 256 := by
    have h1 : l = ((List.range 256).filter f).length := by rw [filter_runs]; exact hl.symm
    constructor
    · intro h
      have h2 := empty_all h
      rw [h1, List.filter_eq_self.mpr]
      · simp
      · intro x hx
        have := h2 x (List.mem_range.mp hx)
        simpa using this
    · intro h
      have h3 : ((List.range 256).filter f).length = (List.range 256).length := by rw [← h1, h]; simp
      have h4 := List.length_filter_eq_length_iff.mp h3
      unfold fullS emptyS
      rw [List.all_eq_true]
      intro x hx
      show (!(!f x)) = true
      rw [h4 x hx]; rfl
  refine BrE (fun h1 => ?_) (fun h1 => ?_)
  · rw [if_neg (by rw [hfull]; omega)] at k
    cases hq : runL f 256 with
    | nil => rw [hq] at hn0; exact absurd rfl hn0
    | cons p rs =>
      obtain ⟨x, y⟩ := p
      rw [hq] at k hc hl hrl hok
      have hxy := hok (x, y) (by simp)
      dsimp only at hxy
      have hr0 : rs = [] := by
        cases rs with
        | nil => rfl
        | cons q rs => simp at hrl; omega
      subst hr0
      rw [cat_one] at hl
      simp at hl
      have hy : x = y := by omega
      subst hy
      dsimp only at k
      rw [if_pos rfl] at k
      refine el hc (by rw [cat_one]; simpa using hl) (n := 0) rfl (v := x) (by rw [cat_one, show x + 1 - x = 1 by omega]; rfl) hxy.2 ?_
      refine UnI.mk ?_
      refine rshown_spec hxy.2 ?_
      intro m3 hle3
      exact k _ (hle.trans hle3)
  refine BrE (fun h2 => ?_) (fun h2 => ?_)
  · rw [if_pos (hfull.mpr (by omega))] at k
    exact k m2 hle
  · rw [if_neg (by rw [hfull]; omega)] at k
    refine l1_show (rs := runL f 256) rfl hle hc hl hl2 ?_
    intro m3 hle3
    have := k m3 hle3
    cases hq : runL f 256 with
    | nil => rw [hq] at hn0; exact absurd rfl hn0
    | cons p rs =>
      rw [hq] at this
      cases rs with
      | cons q rs => exact this
      | nil =>
        obtain ⟨x, y⟩ := p
        dsimp only at this
        rw [if_neg] at this
        · exact this
        · intro e
          subst e
          rw [hq, cat_one] at hl
          simp at hl; omega
end Go.E
set_option linter.unusedVariables false
set_option linter.unusedSimpArgs false
set_option maxRecDepth 20000
namespace Go.E.Rg
open Go.H Go.E
/-- A memory's blocks of a kind alone. -/
noncomputable def on (m : Mem) (G : Nat → Prop) : Mem := fun b => open Classical in if G b then m b else none
theorem on_in {m : Mem} {G : Nat → Prop} {b : Nat} (h : G b) : on m G b = m b := by unfold on; rw [if_pos h]
theorem on_le (m : Mem) (G : Nat → Prop) : Le (on m G) m := fun b o h => by
  unfold on at h
  split at h
  · exact h
  · cases h
theorem on_live {m : Mem} {G : Nat → Prop} {b : Nat} {o : Obj} (h : on m G b = some o) : G b ∧ m b = some o := by
  unfold on at h
  split at h
  · exact ⟨‹_›, h⟩
  · cases h
theorem on_mono {S G G' : Nat → Prop} {m m' : Mem} (hch : Chg S m m') (hs : ∀ b, G b → m b ≠ none → ¬ S b) (hg : ∀ b, G b → m b ≠ none → G' b) : Le (on m G) (on m' G') := fun b o h => by
  obtain ⟨h1, h2⟩ := on_live h
  have hne : m b ≠ none := by rw [h2]; simp
  rw [on_in (hg b h1 hne)]
  exact hch.eq b o h2 (hs b h1 hne)
def four (S : Nat → Bool) : List Value := [.int .u64 (L S 0), .int .u64 (L S 1), .int .u64 (L S 2), .int .u64 (L S 3)]
/-- The cells of an expression whose parts are this slice. -/
def rxRow (p : Rx × Value) : List Value := [.int .i64 p.1.k, .int .u64 (L p.1.S 0), .int .u64 (L p.1.S 1), .int .u64 (L p.1.S 2), .int .u64 (L p.1.S 3), p.2]
theorem rxRow_len (p : Rx × Value) : (rxRow p).length = 6 := rfl
/-- This slice has an expression's parts. -/
inductive ArgC (m : Mem) : Rx → Value → Prop where
  | mk {k : Int} {S : Nat → Bool} {prs : List (Rx × Value)} {a : Option Addr} {c : Nat} : prs.length ≤ c → prs.length ≤ 9223372036854775807 → CellsAt m a (prs.flatMap rxRow) → (∀ p ∈ prs, ArgC m p.1 p.2) → ArgC m (.mk k S (prs.map (·.1))) (.slice a prs.length c)
theorem ArgC.inv {m : Mem} {k : Int} {S : Nat → Bool} {ps : List Rx} {v : Value} (h : ArgC m (.mk k S ps) v) : ∃ (prs : List (Rx × Value)) (a : Option Addr) (c : Nat), ps = prs.map (·.1) ∧ v = .slice a prs.length c ∧ prs.length ≤ c ∧ prs.length ≤ 9223372036854775807 ∧ CellsAt m a (prs.flatMap rxRow) ∧ ∀ p ∈ prs, ArgC m p.1 p.2 := by
  cases h with
  | mk hl hb hc hp => exact ⟨_, _, _, rfl, rfl, hl, hb, hc, hp⟩
theorem ArgC.le {m m' : Mem} {r : Rx} {v : Value} (h : ArgC m r v) (k : Le m m') : ArgC m' r v := by
  induction h with
  | mk hl hb hc hp ih => exact .mk hl hb (hc.le k) ih
theorem ArgC.none {m : Mem} {k : Int} {S : Nat → Bool} : ArgC m (.mk k S []) (.slice none 0 0) := by
  have := ArgC.mk (m := m) (k := k) (S := S) (prs := []) (a := Option.none) (c := 0) (by simp) (by simp) (CellsAt.empty _ _) (fun p hp => by cases hp)
  exact this
/-- An expression as a value. -/
abbrev rxA (k : Int) (S : Nat → Bool) (v : Value) : Value := .agg #[.int .i64 k, .int .u64 (L S 0), .int .u64 (L S 1), .int .u64 (L S 2), .int .u64 (L S 3), v]
/-- One of the parts is read. -/
theorem IxS.rx {m : Mem} {a : Option Addr} {prs : List (Rx × Value)} (hc : CellsAt m a (prs.flatMap rxRow)) {j : Nat} (hj : j < prs.length) {K : Nat → Nat → Prop}
    (k : ∀ b o, m.cell b o = some (.int .i64 prs[j].1.k) → m.cell b (o + 1) = some (.int .u64 (L prs[j].1.S 0)) → m.cell b (o + 2) = some (.int .u64 (L prs[j].1.S 1)) → m.cell b (o + 3) = some (.int .u64 (L prs[j].1.S 2)) → m.cell b (o + 4) = some (.int .u64 (L prs[j].1.S 3)) → m.cell b (o + 5) = some prs[j].2 → K b o) :
    IxS a prs.length (j : Int) 6 K := by
  have hg := List.getElem?_eq_getElem hj
  refine IxS.rows rxRow_len (by decide) hc rfl (by omega) (by omega) ?_
  intro b o x hx hcell
  rw [Int.toNat_natCast, hg] at hx
  cases hx
  exact k b o (hcell 0 _ rfl) (hcell 1 _ rfl) (hcell 2 _ rfl) (hcell 3 _ rfl) (hcell 4 _ rfl) (hcell 5 _ rfl)
/-- The parts' slice is a slice. -/
theorem ArgC.sl {m : Mem} {r : Rx} {v : Value} (h : ArgC m r v) : ∃ a l c, v = .slice a l c := by
  cases h with
  | mk hl hb hc hp => exact ⟨_, _, _, rfl⟩
theorem St1.six {m : Mem} {b : Nat} {x0 x1 x2 x3 x4 x5 u0 u1 u2 u3 u4 u5 : Value} {e : TypeId} {K : Mem → Prop} (h : m b = some (.cells #[x0, x1, x2, x3, x4, x5] e (0, 0))) (h0 : notOne u0 = false) (h1 : notOne u1 = false) (h2 : notOne u2 = false) (h3 : notOne u3 = false) (h4 : notOne u4 = false) (h5 : notOne u5 = false)
    (k : K (m.set b (.cells #[u0, u1, u2, u3, u4, u5] e (0, 0)))) : St1 m b 0 u0 fun m1 => St1 m1 b 1 u1 fun m2 => St1 m2 b 2 u2 fun m3 => St1 m3 b 3 u3 fun m4 => St1 m4 b 4 u4 fun m5 => St1 m5 b 5 u5 K := by
  refine St1.to #[u0, x1, x2, x3, x4, x5] h (by simp) h0 rfl ?_
  refine St1.to #[u0, u1, x2, x3, x4, x5] (set_same _ _ _) (by simp) h1 rfl ?_
  rw [set_set]
  refine St1.to #[u0, u1, u2, x3, x4, x5] (set_same _ _ _) (by simp) h2 rfl ?_
  rw [set_set]
  refine St1.to #[u0, u1, u2, u3, x4, x5] (set_same _ _ _) (by simp) h3 rfl ?_
  rw [set_set]
  refine St1.to #[u0, u1, u2, u3, u4, x5] (set_same _ _ _) (by simp) h4 rfl ?_
  rw [set_set]
  refine St1.to #[u0, u1, u2, u3, u4, u5] (set_same _ _ _) (by simp) h5 rfl ?_
  rw [set_set]
  exact k
/-- The cells of an expression's own block. -/
def rxO (k : Int) (S : Nat → Bool) (v : Value) : Array Value := #[.int .i64 k, .int .u64 (L S 0), .int .u64 (L S 1), .int .u64 (L S 2), .int .u64 (L S 3), v]
/-- All six are read. -/
theorem get6 {m : Mem} {b : Nat} {k : Int} {S : Nat → Bool} {a : Option Addr} {l c : Nat} {e : TypeId} {fr : Nat × Nat} {K : Int → Int → Int → Int → Int → Option Addr → Nat → Nat → Prop} (h : m b = some (.cells (rxO k S (.slice a l c)) e fr))
    (q : K k (L S 0) (L S 1) (L S 2) (L S 3) a l c) :
    LdV m b 0 fun v => UnI v .i64 fun x0 => LdV m b 1 fun v => UnI v .u64 fun x1 => LdV m b 2 fun v => UnI v .u64 fun x2 => LdV m b 3 fun v => UnI v .u64 fun x3 => LdV m b 4 fun v => UnI v .u64 fun x4 => LdV m b 5 fun v => UnS v fun xa xl xc => K x0 x1 x2 x3 x4 xa xl xc :=
  LdV.s0 h (LdV.s1 h (LdV.s2 h (LdV.s3 h (LdV.s4 h (LdV.s5 h q)))))
/-- A part is read from its row. -/
theorem IxS.rx6 {m : Mem} {a : Option Addr} {prs : List (Rx × Value)} (hc : CellsAt m a (prs.flatMap rxRow)) {j : Nat} (hj : j < prs.length) {a' : Option Addr} {l' c' : Nat} (hv : prs[j].2 = .slice a' l' c') {K : Int → Int → Int → Int → Int → Option Addr → Nat → Nat → Prop}
    (q : K prs[j].1.k (L prs[j].1.S 0) (L prs[j].1.S 1) (L prs[j].1.S 2) (L prs[j].1.S 3) a' l' c') :
    IxS a prs.length (j : Int) 6 fun b o => LdV m b o fun v => UnI v .i64 fun x0 => LdV m b (o + 1) fun v => UnI v .u64 fun x1 => LdV m b (o + 2) fun v => UnI v .u64 fun x2 => LdV m b (o + 3) fun v => UnI v .u64 fun x3 => LdV m b (o + 4) fun v => UnI v .u64 fun x4 => LdV m b (o + 5) fun v => UnS v fun xa xl xc => K x0 x1 x2 x3 x4 xa xl xc := by
  refine IxS.rx hc hj ?_
  intro b o c0 c1 c2 c3 c4 c5
  rw [hv] at c5
  exact LdV.mk c0 (LdV.mk c1 (LdV.mk c2 (LdV.mk c3 (LdV.mk c4 (LdV.mk c5 q)))))
/-- A block's first word of an expression's kind. -/
theorem IxS.rxk {m : Mem} {a : Option Addr} {prs : List (Rx × Value)} (hc : CellsAt m a (prs.flatMap rxRow)) {j : Nat} (hj : j < prs.length) {K : Int → Prop} (q : K prs[j].1.k) : IxS a prs.length (j : Int) 6 fun b o => LdV m b o fun v => UnI v .i64 K := by
  refine IxS.rx hc hj ?_
  intro b o c0 c1 c2 c3 c4 c5
  exact LdV.mk c0 q
/-- An expression in a block of its own. -/
theorem newRx {m : Mem} {k : Int} {S : Nat → Bool} {v : Value} {T : TypeId} {K : Nat → Mem → Prop} (h : ∀ b m1, m b = none → Le m m1 → m1 b = some (.cells (rxO k S v) T (0, 0)) → K b m1) :
    NewC m #[.int .i64 k, .int .u64 (L S 0), .int .u64 (L S 1), .int .u64 (L S 2), .int .u64 (L S 3), v] T K := fun b hb => h b _ hb (Le.set hb _) (set_same _ _ _)
/-- A loop's own copy of a part. -/
theorem copyRx {m : Mem} {k : Int} {S : Nat → Bool} {a : Option Addr} {l c : Nat} {x0 x1 x2 x3 x4 x5 : Value} {T : TypeId} {K : Nat → Mem → Prop} (h : ∀ b m1, m b = none → Le m m1 → m1 b = some (.cells (rxO k S (.slice a l c)) T (0, 0)) → K b m1) :
    NewC m #[x0, x1, x2, x3, x4, x5] T fun b m1 => St1 m1 b 0 (.int .i64 k) fun m2 => St1 m2 b 1 (.int .u64 (L S 0)) fun m3 => St1 m3 b 2 (.int .u64 (L S 1)) fun m4 => St1 m4 b 3 (.int .u64 (L S 2)) fun m5 => St1 m5 b 4 (.int .u64 (L S 3)) fun m6 => St1 m6 b 5 (.slice a l c) fun m7 => K b m7 := by
  intro b hb
  refine St1.six (set_same _ _ _) rfl rfl rfl rfl rfl rfl ?_
  rw [set_set]
  exact h b _ hb (Le.set hb _) (set_same _ _ _)
end Go.E.Rg
set_option linter.unusedVariables false
set_option linter.unusedSimpArgs false
set_option maxRecDepth 20000
namespace Go.E.Rg
open Go.H Go.E
attribute [local irreducible] BiN MkS ConvN LookN MapUpN CallV HC limb dbTab
theorem sign_spec {k : Int} {m : Mem} {R : Ending → Mem → Prop} (h : R (.returned (.bool (sgK k))) m) : HC P regex_sign.id #[.int .i64 k] m R := by
  refine regex_sign.ok _ _ _ ?_
  unfold sgK at h
  refine BrD (fun h4 => ?_) (fun h4 => ?_)
  · have : decide (4 ≤ k) = true := by simpa using h4
    rw [this, Bool.true_and] at h; exact h
  · have : decide (4 ≤ k) = false := by simpa using h4
    rw [this, Bool.false_and] at h; exact h
theorem rank_spec {k : Int} {m : Mem} {R : Ending → Mem → Prop} (h : R (.returned (.int .i64 (rank k))) m) : HC P regex_rank.id #[.int .i64 k] m R := by
  refine regex_rank.ok _ _ _ ?_
  unfold rank at h
  refine BrE (fun e => by rw [if_pos e] at h; exact h) (fun e => ?_)
  rw [if_neg e] at h
  refine BrE (fun e => by rw [if_pos e] at h; exact h) (fun e => ?_)
  rw [if_neg e] at h
  refine BrE (fun e => by rw [if_pos e] at h; exact h) (fun e => ?_)
  rw [if_neg e] at h
  exact h
theorem form_mk (k : Int) (S : Nat → Bool) (ps : List Rx) : form (.mk k S ps) = (if k = 1 then ps.isEmpty && !emptyS S
    else if emptyS S = false then false
    else if k = 2 ∨ k = 3 then decide (2 ≤ ps.length) && formL k ps
    else if sgK k = true then decide (ps.length = 1) && !(ps.any fun a => sgK a.k) && formL k ps
    else false) := by conv => lhs; unfold form
theorem formL_cons (k : Int) (r : Rx) (rs : List Rx) : formL k (r :: rs) = ((decide (r.k ≠ k) && form r) && formL k rs) := by conv => lhs; unfold formL
theorem nodesL_cons (r : Rx) (rs : List Rx) : nodesL (r :: rs) = nodes r + nodesL rs := by conv => lhs; unfold nodesL
theorem depthL_cons (r : Rx) (rs : List Rx) : depthL (r :: rs) = max (depth r) (depthL rs) := by conv => lhs; unfold depthL
theorem nodes_mk (k : Int) (S : Nat → Bool) (ps : List Rx) : nodes (.mk k S ps) = nodesL ps + 1 := by conv => lhs; unfold nodes
theorem depth_nodes (r : Rx) : depth r ≤ nodes r := by
  refine Rx.rec (motive_1 := fun r => depth r ≤ nodes r) (motive_2 := fun ps => depthL ps ≤ nodesL ps) ?_ ?_ ?_ r
  · intro k S ps ih; rw [depth_mk, nodes_mk]; omega
  · unfold depthL nodesL; omega
  · intro r rs h1 h2; rw [depthL_cons, nodesL_cons]; omega
theorem nodesL_take : ∀ {ps : List Rx} {j : Nat} {p : Rx}, ps[j]? = some p → nodesL (ps.take (j + 1)) = nodesL (ps.take j) + nodes p ∧ depthL (ps.take (j + 1)) = max (depthL (ps.take j)) (depth p) ∧ nodesL (ps.take (j + 1)) ≤ nodesL ps
  | r :: rs, 0, p, h => by
    cases h
    simp only [List.take_succ_cons, List.take_zero]
    rw [nodesL_cons, depthL_cons, nodesL_cons]
    have e1 : nodesL [] = 0 := by unfold nodesL; rfl
    have e2 : depthL [] = 0 := by unfold depthL; rfl
    omega
  | r :: rs, j + 1, p, h => by
    obtain ⟨h1, h2, h3⟩ := nodesL_take (ps := rs) (j := j) (p := p) (by simpa using h)
    rw [List.take_succ_cons, List.take_succ_cons, nodesL_cons, nodesL_cons, depthL_cons, depthL_cons, nodesL_cons, h1, h2]
    rw [h1] at h3
    omega
section
variable {m : Mem} {R : Ending → Mem → Prop}
theorem formed_spec (r : Rx) : ∀ {m : Mem} {v : Value} {R : Ending → Mem → Prop}, ArgC m r v → (∀ m', Le m m' → R (.returned (.bool (form r))) m') → HC P regex_formed.id #[rxA r.k r.S v] m R := by
  refine Rx.ind (C := fun r => ∀ {m : Mem} {v : Value} {R : Ending → Mem → Prop}, ArgC m r v → (∀ m', Le m m' → R (.returned (.bool (form r))) m') → HC P regex_formed.id #[rxA r.k r.S v] m R) ?_ r
  intro k S ps ih m v R ha hk
  obtain ⟨prs, a, c, rfl, rfl, hl, hb, hc, hp⟩ := ha.inv
  show HC P regex_formed.id #[rxA k S (.slice a prs.length c)] m R
  refine regex_formed.ok _ _ _ _ _ _ _ _ _ _ ?_
  refine newRx ?_
  intro b1 m1 hb1 hle h1
  rw [form_mk] at hk
  have hlen : (prs.map (·.1)).length = prs.length := List.length_map _
  -- the loop over the parts
  have k2 : ∀ m2, Le m1 m2 → (∀ m', Le m m' → R (.returned (.bool (formL k (prs.map (·.1))))) m') → regex_formed.k2 b1 0 R m2 := by
    intro m2 hle2 hk2
    unfold regex_formed.k2
    refine LdV.s5 (hle2 _ _ h1) (UnS.mk ?_)
    refine ⟨fun N x1b x1o xa xl xc n i mm => x1b = b1 ∧ x1o = 0 ∧ xa = a ∧ xl = prs.length ∧ xc = c ∧ n = ((prs.length : Nat) : Int) ∧ ∃ j : Nat, i = (j : Int) ∧ j ≤ prs.length ∧ N = prs.length - j ∧ Le m1 mm ∧ formL k (prs.map (·.1)) = formL k ((prs.map (·.1)).drop j), prs.length,
      ⟨rfl, rfl, rfl, rfl, rfl, rfl, 0, rfl, by omega, by omega, hle2, rfl⟩, ?_⟩
    rintro N x1b x1o xa xl xc n i mm ⟨rfl, rfl, rfl, rfl, rfl, rfl, j, rfl, hj, rfl, hlm, hfl⟩
    unfold regex_formed.l3B
    refine BrD (fun hlt => ?_) (fun hge => ?_)
    · have hjl : j < prs.length := by omega
      have hpm := List.getElem_mem hjl
      obtain ⟨a', l', c', hv⟩ := (hp _ hpm).sl
      have hdrop : (prs.map (·.1)).drop j = prs[j].1 :: (prs.map (·.1)).drop (j + 1) := by
        rw [List.drop_eq_getElem_cons (by rw [hlen]; exact hjl), List.getElem_map]
      rw [hdrop, formL_cons] at hfl
      refine IxS.rx6 (hc.le (hle.trans hlm)) hjl hv ?_
      refine copyRx ?_
      intro b4 m7 hb4 hle7 h7
      have hl7 := hlm.trans hle7
      refine LdV.s0 h7 (UnI.mk ?_)
      refine LdV.s0 (hl7 _ _ h1) (UnI.mk ?_)
      refine BrE (fun e => ?_) (fun e => ?_)
      · have := hk2 m7 (hle.trans hl7)
        rw [hfl] at this
        rw [show decide (prs[j].1.k ≠ k) = false by simpa using e] at this
        simpa using this
      refine get6 h7 ?_
      have hih := ih prs[j].1 (List.mem_map.mpr ⟨_, hpm, rfl⟩) (m := m7) (v := .slice a' l' c') (R := Cont (fun v m8 => UnB v fun x65 => Br (!x65) (R (.returned (.bool false)) m8) (∃ N1, N1 < prs.length - j ∧ (x1b = x1b ∧ (0 : Nat) = 0 ∧ xa = xa ∧ prs.length = prs.length ∧ xc = xc ∧ ((prs.length : Nat) : Int) = ((prs.length : Nat) : Int) ∧ ∃ j' : Nat, IntKind.i64.wrap ((j : Int) + 1) = (j' : Int) ∧ j' ≤ prs.length ∧ N1 = prs.length - j' ∧ Le m1 m8 ∧ formL k (prs.map (·.1)) = formL k ((prs.map (·.1)).drop j')))) (panicR R)) (by
          have := hp _ hpm
          rw [hv] at this
          exact this.le (hle.trans hl7)) ?_
      · exact hih
      intro m8 hle8
      dsimp only [Cont]
      refine UnB.mk ?_
      have hdk : decide (prs[j].1.k ≠ k) = true := by simpa using e
      rw [hdk, Bool.true_and] at hfl
      refine Br.mk (fun hf => ?_) (fun hf => ?_)
      · have hf : form prs[j].1 = false := by simpa using hf
        have := hk2 m8 (hle.trans (hl7.trans hle8))
        rw [hfl, hf, Bool.false_and] at this
        exact this
      · have hf : form prs[j].1 = true := by simpa using hf
        rw [hf, Bool.true_and] at hfl
        refine ⟨prs.length - (j + 1), by omega, rfl, rfl, rfl, rfl, rfl, rfl, j + 1, ?_, by omega, rfl, hl7.trans hle8, hfl⟩
        rw [wi (by omega) (by omega)]; omega
    · have e : (prs.map (·.1)).drop j = [] := List.drop_eq_nil_of_le (by omega)
      rw [e] at hfl
      have := hk2 mm (hle.trans hlm)
      rw [hfl] at this
      have e2 : formL k [] = true := by unfold formL; rfl
      rw [e2] at this
      exact this
  refine LdV.s0 h1 (UnI.mk ?_)
  refine BrE (fun e => ?_) (fun e => ?_)
  · rw [if_pos e] at hk
    refine LdV.s5 h1 (UnS.mk ?_)
    refine BrE (fun e2 => ?_) (fun e2 => ?_)
    · have hz : prs = [] := List.eq_nil_of_length_eq_zero (by omega)
      refine LdV.s1 h1 (UnI.mk (LdV.s2 h1 (UnI.mk (LdV.s3 h1 (UnI.mk (LdV.s4 h1 (UnI.mk ?_)))))))
      rw [eq4_zero]
      have := hk m1 hle
      rw [hz] at this
      simpa using this
    · have := hk m1 hle
      have hz : (prs.map (·.1)).isEmpty = false := by
        cases prs with
        | nil => simp at e2
        | cons p qs => rfl
      rw [hz] at this
      simpa using this
  rw [if_neg e] at hk
  refine LdV.s1 h1 (UnI.mk (LdV.s2 h1 (UnI.mk (LdV.s3 h1 (UnI.mk (LdV.s4 h1 (UnI.mk ?_)))))))
  rw [eq4_zero]
  refine Br.mk (fun hS => ?_) (fun hS => ?_)
  · rw [if_pos (by simpa using hS)] at hk
    exact hk m1 hle
  rw [if_neg (by simpa using hS)] at hk
  refine LdV.s0 h1 (UnI.mk ?_)
  have k1t : (k = 2 ∨ k = 3) → regex_formed.k1 b1 0 true R m1 := by
    intro h23
    rw [if_pos h23, hlen] at hk
    unfold regex_formed.k1
    refine Br.t rfl ?_
    refine LdV.s5 h1 (UnS.mk ?_)
    refine BrD (fun h2 => ?_) (fun h2 => ?_)
    · have := hk m1 hle
      rw [show decide (2 ≤ prs.length) = false by simp; omega] at this
      simpa using this
    · refine k2 m1 (Le.refl _) ?_
      rw [show decide (2 ≤ prs.length) = true by simp; omega] at hk
      simpa using hk
  refine BrE (fun h2 => k1t (.inl h2)) (fun h2 => ?_)
  refine LdV.s0 h1 (UnI.mk ?_)
  by_cases h3 : k = 3
  · have : (k == 3) = true := by simpa using h3
    rw [this]
    exact k1t (.inr h3)
  have hk3 : (k == 3) = false := by simpa using h3
  rw [hk3]
  rw [if_neg (by rintro (h | h); exact h2 h; exact h3 h), hlen] at hk
  unfold regex_formed.k1
  refine Br.f rfl ?_
  refine LdV.s0 h1 (UnI.mk ?_)
  refine sign_spec ?_
  dsimp only [Cont]
  refine UnB.mk ?_
  refine Br.mk (fun hs => ?_) (fun hs => ?_)
  rotate_left
  · rw [if_neg (by rw [hs]; decide)] at hk
    exact hk m1 hle
  rw [if_pos hs] at hk
  refine LdV.s5 h1 (UnS.mk ?_)
  refine BrN (fun h1' => ?_) (fun h1' => ?_)
  · have := hk m1 hle
    rw [show decide (prs.length = 1) = false by simp; omega] at this
    simpa using this
  have hl1 : prs.length = 1 := by omega
  refine LdV.s5 h1 (UnS.mk ?_)
  refine IxS.rxk (hc.le hle) (j := 0) (by omega) ?_
  refine sign_spec ?_
  dsimp only [Cont]
  refine UnB.mk ?_
  obtain ⟨p, rfl⟩ := List.length_eq_one_iff.mp hl1
  refine Br.mk (fun hsg => ?_) (fun hsg => ?_)
  · have := hk m1 hle
    have hsg : sgK p.1.k = true := hsg
    simp [hsg] at this
    exact this
  · have hsg : sgK p.1.k = false := hsg
    refine k2 m1 (Le.refl _) ?_
    intro m' hm'
    have := hk m' hm'
    simp [hsg] at this
    exact this
theorem size_spec (r : Rx) : ∀ {m : Mem} {v : Value} {R : Ending → Mem → Prop}, ArgC m r v → nodes r ≤ 4000000000000000000 → (∀ m', Le m m' → R (.returned (.tuple #[.int .i64 (nodes r : Nat), .int .i64 (depth r : Nat)])) m') → HC P regex_size.id #[rxA r.k r.S v] m R := by
  refine Rx.ind (C := fun r => ∀ {m : Mem} {v : Value} {R : Ending → Mem → Prop}, ArgC m r v → nodes r ≤ 4000000000000000000 → (∀ m', Le m m' → R (.returned (.tuple #[.int .i64 (nodes r : Nat), .int .i64 (depth r : Nat)])) m') → HC P regex_size.id #[rxA r.k r.S v] m R) ?_ r
  intro k S ps ih m v R ha hn hk
  obtain ⟨prs, a, c, rfl, rfl, hl, hb, hc, hp⟩ := ha.inv
  show HC P regex_size.id #[rxA k S (.slice a prs.length c)] m R
  refine regex_size.ok _ _ _ _ _ _ _ _ _ _ ?_
  refine newRx ?_
  intro b1 m1 hb1 hle h1
  have hlen : (prs.map (·.1)).length = prs.length := List.length_map _
  rw [nodes_mk] at hn hk
  rw [depth_mk] at hk
  refine LdV.s5 h1 (UnS.mk ?_)
  refine ⟨fun N nd dp xa xl xc n i mm => xa = a ∧ xl = prs.length ∧ xc = c ∧ n = ((prs.length : Nat) : Int) ∧ ∃ j : Nat, i = (j : Int) ∧ j ≤ prs.length ∧ N = prs.length - j ∧ Le m1 mm ∧ nd = ((nodesL ((prs.map (·.1)).take j) : Nat) : Int) ∧ dp = ((depthL ((prs.map (·.1)).take j) : Nat) : Int), prs.length,
    ⟨rfl, rfl, rfl, rfl, 0, rfl, by omega, by omega, Le.refl _, by unfold nodesL; rfl, by unfold depthL; rfl⟩, ?_⟩
  rintro N nd dp xa xl xc n i mm ⟨rfl, rfl, rfl, rfl, j, rfl, hj, rfl, hlm, rfl, rfl⟩
  unfold regex_size.l1B
  refine BrD (fun hlt => ?_) (fun hge => ?_)
  · have hjl : j < prs.length := by omega
    have hpm := List.getElem_mem hjl
    obtain ⟨a', l', c', hv⟩ := (hp _ hpm).sl
    have hg : (prs.map (·.1))[j]? = some prs[j].1 := by rw [List.getElem?_map, List.getElem?_eq_getElem hjl]; rfl
    obtain ⟨e1, e2, e3⟩ := nodesL_take hg
    have e4 := depth_nodes prs[j].1
    refine IxS.rx6 (hc.le (hle.trans hlm)) hjl hv ?_
    refine copyRx ?_
    intro b4 m7 hb4 hle7 h7
    have hl7 := hlm.trans hle7
    refine get6 h7 ?_
    refine ih prs[j].1 (List.mem_map.mpr ⟨_, hpm, rfl⟩) (m := m7) (v := .slice a' l' c') (by
        have := hp _ hpm
        rw [hv] at this
        exact this.le (hle.trans hl7)) (by omega) ?_
    intro m8 hle8
    refine ⟨prs.length - (j + 1), by omega, rfl, rfl, rfl, rfl, j + 1, ?_, by omega, rfl, hl7.trans hle8, ?_, ?_⟩
    · rw [wi (by omega) (by omega)]; omega
    · rw [wi (by omega) (by omega), e1]; omega
    · rw [e2]; split <;> omega
  · have e : (prs.map (·.1)).take j = prs.map (·.1) := List.take_of_length_le (by omega)
    rw [e]
    unfold regex_size.k2
    have hd : depthL (prs.map (·.1)) ≤ nodesL (prs.map (·.1)) := by
      have := depth_nodes (.mk k S (prs.map (·.1)))
      rw [depth_mk, nodes_mk] at this; omega
    rw [wi (by omega) (by omega), wi (by omega) (by omega)]
    have := hk mm (hle.trans hlm)
    exact this
theorem May_spec {r : Rx} {m : Mem} {v : Value} {R : Ending → Mem → Prop} (ha : ArgC m r v) (hn : nodes r ≤ 4000000000000000000) (hk : ∀ m', Le m m' → R (.returned (.int .i64 (may r))) m') : HC P regex_May.id #[rxA r.k r.S v] m R := by
  obtain ⟨a, l, c, rfl⟩ := ha.sl
  refine regex_May.ok _ _ _ _ _ _ _ _ _ _ ?_
  refine newRx ?_
  intro b1 m1 hb1 hle h1
  refine get6 h1 ?_
  refine formed_spec r (ha.le hle) ?_
  intro m2 hle2
  dsimp only [Cont]
  refine UnB.mk ?_
  unfold may at hk
  refine Br.mk (fun hf => ?_) (fun hf => ?_)
  · rw [if_neg (by simpa using hf)] at hk
    exact hk m2 (hle.trans hle2)
  rw [if_pos (by simpa using hf)] at hk
  refine get6 (hle2 _ _ h1) ?_
  refine size_spec r (ha.le (hle.trans hle2)) hn ?_
  intro m3 hle3
  have hle3' := hle.trans (hle2.trans hle3)
  refine BrD (fun h4 => ?_) (fun h4 => ?_)
  · rw [if_pos (.inl (by omega))] at hk
    exact hk m3 hle3'
  refine BrD (fun h5 => ?_) (fun h5 => ?_)
  · rw [if_pos (.inr (by omega))] at hk
    exact hk m3 hle3'
  rw [if_neg (by omega)] at hk
  exact hk m3 hle3'
theorem nullA_cons (r : Rx) (rs : List Rx) : nullA (r :: rs) = (null r && nullA rs) := by conv => lhs; unfold nullA
theorem nullE_cons (r : Rx) (rs : List Rx) : nullE (r :: rs) = (null r || nullE rs) := by conv => lhs; unfold nullE
theorem Null_spec (r : Rx) : ∀ {m : Mem} {v : Value} {R : Ending → Mem → Prop}, ArgC m r v → (∀ m', Le m m' → R (.returned (.bool (null r))) m') → HC P regex_Null.id #[rxA r.k r.S v] m R := by
  refine Rx.ind (C := fun r => ∀ {m : Mem} {v : Value} {R : Ending → Mem → Prop}, ArgC m r v → (∀ m', Le m m' → R (.returned (.bool (null r))) m') → HC P regex_Null.id #[rxA r.k r.S v] m R) ?_ r
  intro k S ps ih m v R ha hk
  obtain ⟨prs, a, c, rfl, rfl, hl, hb, hc, hp⟩ := ha.inv
  show HC P regex_Null.id #[rxA k S (.slice a prs.length c)] m R
  refine regex_Null.ok _ _ _ _ _ _ _ _ _ _ ?_
  refine newRx ?_
  intro b1 m1 hb1 hle h1
  have hlen : (prs.map (·.1)).length = prs.length := List.length_map _
  rw [null_mk] at hk
  have hdrop : ∀ (j : Nat) (hjl : j < prs.length), (prs.map (·.1)).drop j = prs[j].1 :: (prs.map (·.1)).drop (j + 1) := by
    intro j hjl
    rw [List.drop_eq_getElem_cons (by rw [hlen]; exact hjl), List.getElem_map]
  have all : (∀ m', Le m m' → R (.returned (.bool (nullA (prs.map (·.1))))) m') → regex_Null.k2 b1 0 k true R m1 := by
    intro hk2
    unfold regex_Null.k2
    refine Br.t rfl ?_
    refine LdV.s5 h1 (UnS.mk ?_)
    refine ⟨fun N xa xl xc n i mm => xa = a ∧ xl = prs.length ∧ xc = c ∧ n = ((prs.length : Nat) : Int) ∧ ∃ j : Nat, i = (j : Int) ∧ j ≤ prs.length ∧ N = prs.length - j ∧ Le m1 mm ∧ nullA (prs.map (·.1)) = nullA ((prs.map (·.1)).drop j), prs.length,
      ⟨rfl, rfl, rfl, rfl, 0, rfl, by omega, by omega, Le.refl _, rfl⟩, ?_⟩
    rintro N xa xl xc n i mm ⟨rfl, rfl, rfl, rfl, j, rfl, hj, rfl, hlm, hfl⟩
    unfold regex_Null.l3B
    refine BrD (fun hlt => ?_) (fun hge => ?_)
    · have hjl : j < prs.length := by omega
      have hpm := List.getElem_mem hjl
      obtain ⟨a', l', c', hv⟩ := (hp _ hpm).sl
      rw [hdrop j hjl, nullA_cons] at hfl
      refine IxS.rx6 (hc.le (hle.trans hlm)) hjl hv ?_
      refine copyRx ?_
      intro b4 m7 hb4 hle7 h7
      have hl7 := hlm.trans hle7
      refine get6 h7 ?_
      refine ih prs[j].1 (List.mem_map.mpr ⟨_, hpm, rfl⟩) (m := m7) (v := .slice a' l' c') (by
          have := hp _ hpm
          rw [hv] at this
          exact this.le (hle.trans hl7)) ?_
      intro m8 hle8
      dsimp only [Cont]
      refine UnB.mk ?_
      refine Br.mk (fun hf => ?_) (fun hf => ?_)
      · have hf : null prs[j].1 = false := by simpa using hf
        rw [hf, Bool.false_and] at hfl
        rw [hfl] at hk2
        exact hk2 m8 (hle.trans (hl7.trans hle8))
      · have hf : null prs[j].1 = true := by simpa using hf
        rw [hf, Bool.true_and] at hfl
        refine ⟨prs.length - (j + 1), by omega, rfl, rfl, rfl, rfl, j + 1, ?_, by omega, rfl, hl7.trans hle8, hfl⟩
        rw [wi (by omega) (by omega)]; omega
    · have e : (prs.map (·.1)).drop j = [] := List.drop_eq_nil_of_le (by omega)
      have e2 : nullA [] = true := by unfold nullA; rfl
      rw [e, e2] at hfl
      rw [hfl] at hk2
      exact hk2 mm (hle.trans hlm)
  refine LdV.s0 h1 (UnI.mk ?_)
  have k1t : (k = 4 ∨ k = 6) → regex_Null.k1 b1 0 k true R m1 := by
    intro h
    rw [if_pos h] at hk
    unfold regex_Null.k1
    exact Br.t rfl (hk m1 hle)
  refine BrE (fun e => k1t (.inl e)) (fun e4 => ?_)
  by_cases e6 : k = 6
  · rw [show (k == 6) = true by simpa using e6]
    exact k1t (.inr e6)
  rw [show (k == 6) = false by simpa using e6]
  rw [if_neg (by rintro (h | h); exact e4 h; exact e6 h)] at hk
  unfold regex_Null.k1
  refine Br.f rfl ?_
  refine BrE (fun e2 => ?_) (fun e2 => ?_)
  · rw [if_pos (.inl e2)] at hk
    exact all hk
  by_cases e5 : k = 5
  · rw [show (k == 5) = true by simpa using e5]
    rw [if_pos (.inr e5)] at hk
    exact all hk
  rw [show (k == 5) = false by simpa using e5]
  rw [if_neg (by rintro (h | h); exact e2 h; exact e5 h)] at hk
  unfold regex_Null.k2
  refine Br.f rfl ?_
  refine BrE (fun e3 => ?_) (fun e3 => ?_)
  rotate_left
  · rw [if_neg e3] at hk
    exact hk m1 hle
  rw [if_pos e3] at hk
  refine LdV.s5 h1 (UnS.mk ?_)
  refine ⟨fun N xa xl xc n i mm => xa = a ∧ xl = prs.length ∧ xc = c ∧ n = ((prs.length : Nat) : Int) ∧ ∃ j : Nat, i = (j : Int) ∧ j ≤ prs.length ∧ N = prs.length - j ∧ Le m1 mm ∧ nullE (prs.map (·.1)) = nullE ((prs.map (·.1)).drop j), prs.length,
    ⟨rfl, rfl, rfl, rfl, 0, rfl, by omega, by omega, Le.refl _, rfl⟩, ?_⟩
  rintro N xa xl xc n i mm ⟨rfl, rfl, rfl, rfl, j, rfl, hj, rfl, hlm, hfl⟩
  unfold regex_Null.l4B
  refine BrD (fun hlt => ?_) (fun hge => ?_)
  · have hjl : j < prs.length := by omega
    have hpm := List.getElem_mem hjl
    obtain ⟨a', l', c', hv⟩ := (hp _ hpm).sl
    rw [hdrop j hjl, nullE_cons] at hfl
    refine IxS.rx6 (hc.le (hle.trans hlm)) hjl hv ?_
    refine copyRx ?_
    intro b4 m7 hb4 hle7 h7
    have hl7 := hlm.trans hle7
    refine get6 h7 ?_
    refine ih prs[j].1 (List.mem_map.mpr ⟨_, hpm, rfl⟩) (m := m7) (v := .slice a' l' c') (by
        have := hp _ hpm
        rw [hv] at this
        exact this.le (hle.trans hl7)) ?_
    intro m8 hle8
    dsimp only [Cont]
    refine UnB.mk ?_
    refine Br.mk (fun hf => ?_) (fun hf => ?_)
    · rw [hf, Bool.true_or] at hfl
      rw [hfl] at hk
      exact hk m8 (hle.trans (hl7.trans hle8))
    · rw [hf, Bool.false_or] at hfl
      refine ⟨prs.length - (j + 1), by omega, rfl, rfl, rfl, rfl, j + 1, ?_, by omega, rfl, hl7.trans hle8, hfl⟩
      rw [wi (by omega) (by omega)]; omega
  · have e : (prs.map (·.1)).drop j = [] := List.drop_eq_nil_of_le (by omega)
    have e2 : nullE [] = false := by unfold nullE; rfl
    rw [e, e2] at hfl
    rw [hfl] at hk
    exact hk mm (hle.trans hlm)
end
end Go.E.Rg
set_option linter.unusedVariables false
namespace Go.Proofs
open Go.Shelf
def Tryd.lays156_ren : Go.Shelf.Ren := ⟨fun | 156 => 43 | 165 => 59 | 166 => 60 | 169 => 61 | 240 => 75 | 241 => 76 | 276 => 81 | 277 => 82 | n => n, fun | 31 => 46 | 9 => 9 | 3 => 3 | 4 => 4 | 0 => 0 | 20 => 20 | 72 => 86 | 76 => 90 | 70 => 84 | 37 => 37 | 75 => 89 | 127 => 102 | 164 => 104 | 5 => 5 | 80 => 92 | n => n, fun | n => n⟩
theorem Tryd.lays156 : Go.Proofs.Lays.n156 Tryd.prog Tryd.lays156_ren := {
  mixed := by kernel_rfl
  f156 := Tryd.func43.trans (congrArg some (by kernel_rfl))
  f165 := Tryd.func59.trans (congrArg some (by kernel_rfl))
  f166 := Tryd.func60.trans (congrArg some (by kernel_rfl))
  f169 := Tryd.func61.trans (congrArg some (by kernel_rfl))
  f240 := Tryd.func75.trans (congrArg some (by kernel_rfl))
  f241 := Tryd.func76.trans (congrArg some (by kernel_rfl))
  f276 := Tryd.func81.trans (congrArg some (by kernel_rfl))
  f277 := Tryd.func82.trans (congrArg some (by kernel_rfl))
  t0 := Tryd.underlying0
  a0 := Tryd.isAgg0
  z0 := Tryd.sizeOf0
  v0 := Tryd.zeroValue0
  t3 := Tryd.underlying3
  a3 := Tryd.isAgg3
  z3 := Tryd.sizeOf3
  v3 := Tryd.zeroValue3
  t4 := Tryd.underlying4
  a4 := Tryd.isAgg4
  z4 := Tryd.sizeOf4
  v4 := Tryd.zeroValue4
  t9 := Tryd.underlying9
  a9 := Tryd.isAgg9
  z9 := Tryd.sizeOf9
  v9 := Tryd.zeroValue9
  t20 := Tryd.underlying20
  a20 := Tryd.isAgg20
  z20 := Tryd.sizeOf20
  v20 := Tryd.zeroValue20
  t31 := Tryd.underlying46
  a31 := Tryd.isAgg46
  z31 := Tryd.sizeOf46
  v31 := Tryd.zeroValue46
  t37 := Tryd.underlying37
  a37 := Tryd.isAgg37
  z37 := Tryd.sizeOf37
  v37 := Tryd.zeroValue37
  t70 := Tryd.underlying84
  a70 := Tryd.isAgg84
  z70 := Tryd.sizeOf84
  v70 := Tryd.zeroValue84
  t72 := Tryd.underlying86
  a72 := Tryd.isAgg86
  z72 := Tryd.sizeOf86
  v72 := Tryd.zeroValue86
  t75 := Tryd.underlying89
  a75 := Tryd.isAgg89
  z75 := Tryd.sizeOf89
  v75 := Tryd.zeroValue89
  t76 := Tryd.underlying90
  a76 := Tryd.isAgg90
  z76 := Tryd.sizeOf90
  v76 := Tryd.zeroValue90
  t127 := Tryd.underlying102
  a127 := Tryd.isAgg102
  z127 := Tryd.sizeOf102
  v127 := Tryd.zeroValue102
  t164 := Tryd.underlying104
  a164 := Tryd.isAgg104
  z164 := Tryd.sizeOf104
  v164 := Tryd.zeroValue104 }
theorem Tryd.Builder_Extra_156 : Builder.Extra Tryd.prog Tryd.lays156_ren := {
  sizeBuilder := by kernel_rfl
  liesBuilder := by kernel_rfl
  t5 := Tryd.underlying5
  a5 := Tryd.isAgg5
  z5 := Tryd.sizeOf5
  v5 := Tryd.zeroValue5
  infoByte := by kernel_rfl
  cellsByte := by kernel_rfl
  sizeByte := by kernel_rfl
  neB5 := by decide }
open Go.RowKit in
/-- No element: the empty string; the world is as it was. (Whatever the slice's address and capacity: a nil slice too.) (LAID: no walk: one application.) -/
theorem Tryd.strings_Join_none (a : Option Addr) (c : Nat) (sep : ByteArray) (w : World) :
    Calls Tryd.prog 43 #[.slice a 0 c, .string sep] w fun e w' => e = .returned (.string ⟨#[]⟩) ∧ w' = w := Any.strings_Join_none Tryd.lays156 Tryd.Builder_Extra_156 a c sep w
open Go.RowKit in
/-- strings.Join: "Join concatenates the elements of its first argument to create a single string. The separator string sep is placed between elements in the resulting string.": HOWEVER MANY ELEMENTS. Below the heap's end the world is as it was. (LAID: no walk: one application.) -/
theorem Tryd.strings_Join (bk o c : Nat) (xs : List ByteArray) (sep : ByteArray) (w : World) (hcells : ∀ (j : Nat) x, xs[j]? = some x → w.cell? ⟨bk, o + j, none⟩ = some (.string x)) (hbk : bk < w.heap.size) (hN : xs.length ≤ 140737488355328) (hcap : xs.length ≤ c) (hlen : (Lib.join (xs.map (·.data.toList)) sep.data.toList).length ≤ 140737488355328) :
    Calls Tryd.prog 43 #[.slice (some ⟨bk, o, none⟩) xs.length c, .string sep] w fun e w' => e = .returned (.string ⟨(Lib.join (xs.map (·.data.toList)) sep.data.toList).toArray⟩) ∧ Go.RowKit.Below w.heap.size w w' := Any.strings_Join Tryd.lays156 Tryd.Builder_Extra_156 bk o c xs sep w hcells hbk hN hcap hlen
end Go.Proofs
namespace Go.E
open Go.H Go.Proofs
/-- A contract over the whole world, as my logic tells it: no block that was told has turned. -/
theorem HC_below {f : FuncId} {fn : Func} {args : Array Value} {m : Mem} {R : Ending → Mem → Prop} {e0 : Ending} (hf : P.funcs[f]? = some fn) (hn : (fn.name == "runtime.NumGoroutine") = false) (hb : fn.body.isNone = false) (h0 : e0 ≠ .outgrown)
    (h : ∀ w, Fit m w → Calls P f args w fun e w' => e = e0 ∧ Go.RowKit.Below w.heap.size w w') (k : R e0 m) : HC P f args m R := by
  refine .inl ⟨fun w => callFunc_enters hf hn hb args w, fun w hF => ?_⟩
  refine (h w hF).mono ?_
  rintro e w' ⟨rfl, hw⟩
  refine ⟨m, h0, k, fun b o hb => ?_, hw.os, hw.tape, hw.output, hw.size, fun b hb _ => hw.block b hb, fun b _ hm => hm⟩
  rw [hw.block b (hF.lt hb)]
  exact hF b o hb
/-- strings.Join. -/
theorem Join_spec {m : Mem} {a : Option Addr} {c : Nat} {xs : List (List UInt8)} {sep : List UInt8} (hc : CellsAt m a (xs.map fun x => Value.string (bstr x))) (hN : xs.length ≤ 1000000) (hcap : xs.length ≤ c) (hlen : (sep.intercalate xs).length ≤ 1000000000) {R : Ending → Mem → Prop}
    (k : R (.returned (.string (bstr (sep.intercalate xs)))) m) : HC P strings_Join.id #[.slice a xs.length c, .string (bstr sep)] m R := by
  cases hx : xs with
  | nil =>
    subst hx
    refine HC_below (e0 := .returned (.string ⟨#[]⟩)) Go.Proofs.Tryd.func43 (by kernel_rfl) (by kernel_rfl) (by simp) (fun w hF => ?_) k
    refine (Go.Proofs.Tryd.strings_Join_none a c (bstr sep) w).mono ?_
    rintro e w' ⟨rfl, rfl⟩
    exact ⟨rfl, Go.RowKit.Below.refl _ _⟩
  | cons x r =>
    rw [← hx]
    rcases hc.cases with ⟨b, o, rfl, hcell⟩ | ⟨he, _⟩
    rotate_left
    · rw [hx] at he; cases he
    have hm : (xs.map bstr).map (·.data.toList) = xs := by
      rw [List.map_map]
      have : ((fun s : ByteArray => s.data.toList) ∘ bstr) = id := by funext l; simp [bstr]
      rw [this, List.map_id]
    have hs : (bstr sep).data.toList = sep := by simp [bstr]
    have hb : ∃ obj, m b = some obj := by
      have := hcell 0 (.string (bstr x)) (by rw [hx]; rfl)
      unfold Mem.cell at this
      cases hm' : m b with
      | none => rw [hm'] at this; cases this
      | some obj => exact ⟨obj, rfl⟩
    obtain ⟨obj, hobj⟩ := hb
    refine HC_below (e0 := .returned (.string (bstr (sep.intercalate xs)))) Go.Proofs.Tryd.func43 (by kernel_rfl) (by kernel_rfl) (by simp) (fun w hF => ?_) k
    have hl : (xs.map bstr).length = xs.length := List.length_map _
    have hj : Lib.join ((xs.map bstr).map (·.data.toList)) (bstr sep).data.toList = sep.intercalate xs := by rw [hm, hs]; rfl
    have := Go.Proofs.Tryd.strings_Join b o c (xs.map bstr) (bstr sep) w (fun j y hy => ?_) (hF.lt hobj) (by omega) (by omega) (by rw [hj]; omega)
    · rw [hj, hl] at this
      exact this
    · rw [List.getElem?_map] at hy
      cases hxj : xs[j]? with
      | none => rw [hxj] at hy; cases hy
      | some z =>
        rw [hxj] at hy
        cases hy
        refine cell?_of hF rfl (hcell j _ ?_)
        rw [List.getElem?_map, hxj]; rfl
end Go.E
set_option linter.unusedVariables false
set_option linter.unusedSimpArgs false
set_option maxRecDepth 20000
namespace Go.E.Rg
open Go.H Go.E
attribute [local irreducible] BiN MkS ConvN LookN MapUpN CallV HC limb dbTab
theorem eSt : ElemOK P T_sl_string T_string (.string (ByteArray.mk #[])) 1 16 := .of (by kernel_rfl) (by kernel_rfl) rfl
theorem inter_bar (xs : List (List UInt8)) : ([124] : List UInt8).intercalate xs = joinBar xs := by
  match xs with
  | [] => rfl
  | x :: r =>
    rw [joinBar_flat]
    induction r generalizing x with
    | nil => simp [List.intercalate]
    | cons y r ih =>
      have := ih y
      unfold List.intercalate at this ⊢
      rw [List.intersperse_cons_cons, List.flatten_cons, List.flatten_cons, this]
      simp
theorem inter_nil (xs : List (List UInt8)) : ([] : List UInt8).intercalate xs = xs.flatten := by
  match xs with
  | [] => rfl
  | x :: r =>
    induction r generalizing x with
    | nil => simp [List.intercalate]
    | cons y r ih =>
      have := ih y
      unfold List.intercalate at this ⊢
      rw [List.intersperse_cons_cons, List.flatten_cons, List.flatten_cons, this]
      simp
theorem shw_mk (k : Int) (S : Nat → Bool) (ps : List Rx) : shw (.mk k S ps) = (if k = 1 then shW S
    else if k = 3 then joinBar (ps.map (wt (rank k + 1)))
    else if sgK k = true then (ps.map (wt (rank k + 1))).flatten ++ [sgB k]
    else (ps.map (wt (rank k + 1))).flatten) := by
  conv => lhs; unfold shw
  rw [shwL_map]
theorem flat_len (l : Int) : ∀ (ps : List Rx), (∀ a ∈ ps, (shw a).length ≤ (joinBar (ps.map (wt l))).length ∧ (shw a).length ≤ ((ps.map (wt l)).flatten).length) ∧ ((ps.map (wt l)).flatten).length ≤ (joinBar (ps.map (wt l))).length
  | [] => by simp [joinBar]
  | p :: ps => by
    obtain ⟨ih, ih2⟩ := flat_len l ps
    have hw : ∀ a, (shw a).length ≤ (wt l a).length := by
      intro a
      unfold wt
      split
      · simp; omega
      · exact Nat.le_refl _
    have hj : (joinBar (ps.map (wt l))).length ≤ (((ps.map (wt l)).map fun y => 124 :: y).flatten).length := by
      cases ps with
      | nil => simp [joinBar]
      | cons q qs => rw [List.map_cons, joinBar_flat]; simp
    rw [List.map_cons, joinBar_flat, List.flatten_cons]
    refine ⟨fun a ha => ?_, ?_⟩
    · have h1 := hw p
      rcases List.mem_cons.mp ha with rfl | ha
      · rw [List.length_append, List.length_append]; omega
      · obtain ⟨h2, h3⟩ := ih a ha
        rw [List.length_append, List.length_append]; omega
    · rw [List.length_append, List.length_append]; omega
theorem kid_len {k : Int} {S : Nat → Bool} {ps : List Rx} (hk : k ≠ 1) : ∀ a ∈ ps, (shw a).length ≤ (shw (.mk k S ps)).length := by
  intro a ha
  obtain ⟨h1, _⟩ := flat_len (rank k + 1) ps
  rw [shw_mk, if_neg hk]
  split
  · exact (h1 a ha).1
  · split
    · rw [List.length_append]; have := (h1 a ha).2; omega
    · exact (h1 a ha).2
theorem nodesL_ge : ∀ (ps : List Rx), ps.length ≤ nodesL ps
  | [] => by simp
  | p :: ps => by
    have := nodesL_ge ps
    rw [nodesL_cons, List.length_cons]
    have : 1 ≤ nodes p := by cases p; rw [nodes_mk]; omega
    omega
theorem nodes_sub {k : Int} {S : Nat → Bool} {ps : List Rx} {a : Rx} (h : a ∈ ps) : nodes a + 1 ≤ nodes (.mk k S ps) := by
  rw [nodes_mk]
  have : ∀ (l : List Rx), a ∈ l → nodes a ≤ nodesL l := by
    intro l
    induction l with
    | nil => intro h; cases h
    | cons p l ih =>
      intro h
      rw [nodesL_cons]
      rcases List.mem_cons.mp h with rfl | h
      · omega
      · have := ih h; omega
  have := this ps h
  omega
def ShowOK (r : Rx) : Prop := ∀ {m : Mem} {v : Value} {R : Ending → Mem → Prop}, ArgC m r v → nodes r ≤ 1000000 → (shw r).length ≤ 100000000 → (∀ m', Le m m' → R (.returned (.string (bstr (shw r)))) m') → HC P regex_Show.id #[rxA r.k r.S v] m R
theorem within_spec {r : Rx} (hs : ShowOK r) {m : Mem} {v : Value} {l : Int} {R : Ending → Mem → Prop} (ha : ArgC m r v) (hn : nodes r ≤ 1000000) (hl : (shw r).length ≤ 100000000) (hk : ∀ m', Le m m' → R (.returned (.string (bstr (wt l r)))) m') :
    HC P regex_within.id #[rxA r.k r.S v, .int .i64 l] m R := by
  obtain ⟨a, len, c, rfl⟩ := ha.sl
  refine regex_within.ok _ _ _ _ _ _ _ _ _ _ _ ?_
  refine newRx ?_
  intro b1 m1 hb1 hle h1
  refine LdV.s0 h1 (UnI.mk ?_)
  refine rank_spec ?_
  dsimp only [Cont]
  refine UnI.mk ?_
  unfold wt at hk
  refine BrD (fun hr => ?_) (fun hr => ?_)
  · rw [if_pos hr] at hk
    refine get6 h1 ?_
    refine hs (ha.le hle) hn hl ?_
    intro m3 hle3
    dsimp only [Cont]
    have e1 : ByteArray.mk #[40] ++ bstr (shw r) = bstr ([40] ++ shw r) := bstr_append [40] _
    have e2 : bstr ([40] ++ shw r) ++ ByteArray.mk #[41] = bstr ([40] ++ shw r ++ [41]) := bstr_append _ [41]
    refine UnStr.mk ⟨by rw [bstr_size]; show 1 + _ ≤ _; omega, ?_⟩
    rw [e1, e2]
    refine ⟨by rw [bstr_size]; show _ + 1 ≤ _; simp; omega, ?_⟩
    exact hk m3 (hle.trans hle3)
  · rw [if_neg hr] at hk
    refine get6 h1 ?_
    refine hs (ha.le hle) hn hl ?_
    intro m3 hle3
    dsimp only [Cont]
    exact UnStr.mk (hk m3 (hle.trans hle3))
theorem sgB_cut {k : Int} (h4 : 4 ≤ k) (h6 : k ≤ 6) {K : ByteArray → Prop} (h : K (bstr [sgB k])) : SlB (ByteArray.mk #[42, 43, 63]) (IntKind.i64.wrap (k - 4)) (IntKind.i64.wrap (IntKind.i64.wrap (k - 4) + 1)) K := by
  rw [wi (n := k - 4) (by omega) (by omega), wi (n := k - 4 + 1) (by omega) (by omega)]
  rcases (by omega : k = 4 ∨ k = 5 ∨ k = 6) with rfl | rfl | rfl
  · exact ⟨by decide, by decide, by decide, h⟩
  · exact ⟨by decide, by decide, by decide, h⟩
  · exact ⟨by decide, by decide, by decide, h⟩
theorem Show_ok (r : Rx) : ShowOK r := by
  refine Rx.ind (C := ShowOK) ?_ r
  intro k S ps ih m v R ha hn hlen hk
  obtain ⟨prs, a, c, rfl, rfl, hl, hb, hc, hp⟩ := ha.inv
  show HC P regex_Show.id #[rxA k S (.slice a prs.length c)] m R
  refine regex_Show.ok _ _ _ _ _ _ _ _ _ _ ?_
  refine newRx ?_
  intro b1 m1 hb1 hle h1
  have hpl : (prs.map (·.1)).length = prs.length := List.length_map _
  have hnl := nodesL_ge (prs.map (·.1))
  refine LdV.s0 h1 (UnI.mk ?_)
  refine BrE (fun e => ?_) (fun e => ?_)
  · rw [shw_mk, if_pos e] at hk
    refine LdV.s1 h1 (UnI.mk (LdV.s2 h1 (UnI.mk (LdV.s3 h1 (UnI.mk (LdV.s4 h1 (UnI.mk ?_)))))))
    refine Show_spec ?_
    intro m2 hle2
    dsimp only [Cont]
    exact UnStr.mk (hk m2 (hle.trans hle2))
  have hkid := kid_len (k := k) (S := S) (ps := prs.map (·.1)) e
  refine LdV.s0 h1 (UnI.mk ?_)
  refine rank_spec ?_
  dsimp only [Cont]
  refine UnI.mk ?_
  refine LdV.s5 h1 (UnS.mk ?_)
  have hrk : rank k ≤ 3 ∧ 0 ≤ rank k := by unfold rank; split <;> (try split) <;> (try split) <;> omega
  rw [wi (n := rank k + 1) (by omega) (by omega)]
  obtain ⟨xs, hxs⟩ : ∃ xs, xs = (prs.map (·.1)).map (wt (rank k + 1)) := ⟨_, rfl⟩
  have hxl : xs.length = prs.length := by rw [hxs, List.length_map, hpl]
  rw [nodes_mk] at hn
  refine ⟨fun N rb ro l la ll lc xa xl xc n i mm => rb = b1 ∧ ro = 0 ∧ l = rank k + 1 ∧ xa = a ∧ xl = prs.length ∧ xc = c ∧ n = ((prs.length : Nat) : Int) ∧ Le m1 mm ∧ Fresh m1 la ∧ ∃ j : Nat, i = (j : Int) ∧ j ≤ prs.length ∧ N = prs.length - j ∧ ll = j ∧ Own mm T_string 1 la ll lc ((xs.take j).map fun x => Value.string (bstr x)), prs.length,
    ⟨rfl, rfl, rfl, rfl, rfl, rfl, rfl, Le.refl _, Fresh.none _, 0, rfl, by omega, by omega, rfl, by simpa using Own.nil m1 T_string 1⟩, ?_⟩
  rintro N rb ro l la ll lc xa xl xc n i mm ⟨rfl, rfl, rfl, rfl, rfl, rfl, rfl, hlm, hfr, j, rfl, hj, rfl, rfl, hown⟩
  unfold regex_Show.l1B
  refine BrD (fun hlt => ?_) (fun hge => ?_)
  · have hjl : ll < prs.length := by omega
    have hpm := List.getElem_mem hjl
    obtain ⟨a', l', c', hv⟩ := (hp _ hpm).sl
    have hmem : prs[ll].1 ∈ prs.map (·.1) := List.mem_map.mpr ⟨_, hpm, rfl⟩
    refine IxS.rx6 (hc.le (hle.trans hlm)) hjl hv ?_
    refine copyRx ?_
    intro b4 m7 hb4 hle7 h7
    have hl7 := hlm.trans hle7
    refine get6 h7 ?_
    have hns := nodes_sub (k := k) (S := S) hmem
    rw [nodes_mk] at hns
    refine within_spec (ih _ hmem) (m := m7) (v := .slice a' l' c') (by
        have := hp _ hpm
        rw [hv] at this
        exact this.le (hle.trans hl7)) (by omega) (by have := hkid _ hmem; omega) ?_
    intro m8 hle8
    dsimp only [Cont]
    refine UnStr.mk ?_
    have hown8 := Own.le (hle7.trans hle8) hown
    refine push_one eSt hown8 (v := .string (bstr (wt (rank k + 1) prs[ll].1))) rfl (by omega) (by decide) ?_
    intro a2 c2 m9 hch ho hg
    refine UnS.mk ?_
    have hl8 := hl7.trans hle8
    refine ⟨prs.length - (ll + 1), by omega, rfl, rfl, rfl, rfl, rfl, rfl, rfl, hch.to_le hl8 (fun b e => hfr b e), ?_, ll + 1, ?_, by omega, rfl, rfl, ?_⟩
    · intro b e
      rcases hg with e2 | e2
      · exact hfr b (e2 ▸ e)
      · exact Fresh.le hl8 e2 b e
    · rw [wi (by omega) (by omega)]; omega
    · have hxj : xs[ll]? = some (wt (rank k + 1) prs[ll].1) := by rw [hxs, List.getElem?_map, List.getElem?_map, List.getElem?_eq_getElem hjl]; rfl
      rw [List.take_add_one, hxj, Option.toList_some, List.map_append]
      exact ho
  · have hj2 : ll = prs.length := by omega
    have hlx : xs.take ll = xs := List.take_of_length_le (by omega)
    rw [hlx] at hown
    have hcap := hown.cap
    have hj3 : ll = xs.length := by omega
    subst hj3
    unfold regex_Show.k2
    rw [shw_mk, if_neg e, ← hxs] at hk hlen
    refine LdV.s0 (hlm _ _ h1) (UnI.mk ?_)
    refine BrE (fun e3 => ?_) (fun e3 => ?_)
    · rw [if_pos e3] at hk hlen
      refine Join_spec (sep := [124]) hown.cells (by omega) hcap (by rw [inter_bar]; omega) ?_
      dsimp only [Cont]
      rw [inter_bar]
      exact UnStr.mk (hk mm (hle.trans hlm))
    rw [if_neg e3] at hk hlen
    refine LdV.s0 (hlm _ _ h1) (UnI.mk ?_)
    refine sign_spec ?_
    dsimp only [Cont]
    refine UnB.mk ?_
    refine Br.mk (fun hs => ?_) (fun hs => ?_)
    · rw [if_pos hs] at hk hlen
      obtain ⟨h4, h6⟩ := sgK_iff.mp hs
      rw [List.length_append] at hlen
      refine LdV.s0 (hlm _ _ h1) (UnI.mk ?_)
      refine ⟨mm, Le.refl _, ?_⟩
      refine sgB_cut h4 h6 ?_
      refine Join_spec (sep := []) hown.cells (by omega) hcap (by rw [inter_nil]; omega) ?_
      dsimp only [Cont]
      rw [inter_nil]
      refine UnStr.mk ⟨by rw [bstr_size, bstr_size]; simp at hlen ⊢; omega, ?_⟩
      rw [bstr_append]
      exact hk mm (hle.trans hlm)
    · rw [if_neg (by rw [hs]; decide)] at hk hlen
      refine Join_spec (sep := []) hown.cells (by omega) hcap (by rw [inter_nil]; omega) ?_
      dsimp only [Cont]
      rw [inter_nil]
      exact UnStr.mk (hk mm (hle.trans hlm))
end Go.E.Rg
set_option linter.unusedVariables false
set_option linter.unusedSimpArgs false
set_option maxRecDepth 20000
namespace Go.E.Rg
open Go.H Go.E
attribute [local irreducible] BiN MkS ConvN LookN MapUpN CallV HC limb dbTab
theorem eBl : ElemOK P T_sl_bool T_bool (.bool false) 1 1 := .of (by kernel_rfl) (by kernel_rfl) rfl
def bl (l : List Bool) : List Value := l.map Value.bool
theorem bl_len (l : List Bool) : (bl l).length = l.length := by simp [bl]
theorem bl_get {l : List Bool} {i : Nat} {b : Bool} (h : l[i]? = some b) : (bl l)[i]? = some (.bool b) := by unfold bl; rw [List.getElem?_map, h]; rfl
theorem IxS.bl {m : Mem} {a : Option Addr} {len : Nat} {l : List Bool} (hc : CellsAt m a (bl l)) (hl : l.length = len) {i : Nat} {b : Bool} (hb : l[i]? = some b) {K : Value → Prop} (k : K (.bool b)) : IxS a len (i : Int) 1 (fun b o => LdV m b o K) := by
  have hi : i < l.length := by
    rcases Nat.lt_or_ge i l.length with h | h
    · exact h
    · rw [List.getElem?_eq_none h] at hb; cases hb
  refine IxS.ld hc (by rw [bl_len]; exact hl) (by omega) (by omega) ?_
  intro v hv
  rw [Int.toNat_natCast, bl_get hb] at hv
  cases hv; exact k
theorem own_new {m : Mem} {b n : Nat} {z : Value} {e : TypeId} (hn : n ≤ 1000000000) : Own (m.set b (.cells (List.replicate n z).toArray e (0, 0))) e 1 (some ⟨b, 0, none⟩) n n (List.replicate n z) := by
  refine ⟨by simp, .inr ⟨b, _, rfl, set_same _ _ _, Nat.le_refl _, by simp, by simp, by omega⟩⟩
theorem orL_succ {out l : List Bool} {j : Nat} {x y : Bool} (hx : out[j]? = some x) (hy : l[j]? = some y) (hl : out.length = l.length) :
    (orL (out.take j) (l.take j) ++ out.drop j).set j (x || y) = orL (out.take (j + 1)) (l.take (j + 1)) ++ out.drop (j + 1) ∧ newL (out.take (j + 1)) (l.take (j + 1)) = (newL (out.take j) (l.take j) || (y && !x)) ∧ (orL (out.take j) (l.take j) ++ out.drop j)[j]? = some x := by
  have hj : j < out.length := by
    rcases Nat.lt_or_ge j out.length with h | h
    · exact h
    · rw [List.getElem?_eq_none h] at hx; cases hx
  have hlen : (orL (out.take j) (l.take j)).length = j := by unfold orL; simp; omega
  have ht : (out.take j).length = (l.take j).length := by simp; omega
  have hd : out.drop j = x :: out.drop (j + 1) := by
    rw [List.drop_eq_getElem_cons hj]
    rw [List.getElem?_eq_getElem hj] at hx
    rw [Option.some.inj hx]
  refine ⟨?_, ?_, ?_⟩
  · rw [List.take_add_one, hx, List.take_add_one, hy, hd, List.set_append_right _ _ (by omega), hlen, Nat.sub_self, List.set_cons_zero]
    unfold orL
    rw [Option.toList_some, Option.toList_some, List.zipWith_append ht]
    simp
  · rw [List.take_add_one, hx, List.take_add_one, hy]
    unfold newL
    rw [Option.toList_some, Option.toList_some, List.zipWith_append ht, List.any_append]
    simp
  · rw [List.getElem?_append_right (by omega), hlen, Nat.sub_self, hd]; rfl
theorem join_spec {m : Mem} {ta la : Option Addr} {tc lc n : Nat} {out l : List Bool} (ho : Own m T_bool 1 ta n tc (bl out)) (hol : out.length = n) (hll : l.length = n) (hn : n ≤ 1000000000) (hl : CellsAt m la (bl l)) (hne : ∀ b, blk la = some b → blk ta ≠ some b) {R : Ending → Mem → Prop}
    (k : ∀ m', Chg (fun b => blk ta = some b) m m' → Own m' T_bool 1 ta n tc (bl (orL out l)) → R (.returned (.bool (newL out l))) m') : HC P regex_join.id #[.slice ta n tc, .slice la n lc] m R := by
  refine regex_join.ok _ _ _ _ _ _ _ _ ?_
  refine ⟨fun N a' l' c' t xa xl xc nn i mm => a' = ta ∧ l' = n ∧ c' = tc ∧ xa = la ∧ xl = n ∧ xc = lc ∧ nn = ((n : Nat) : Int) ∧ Chg (fun b => blk ta = some b) m mm ∧ ∃ j : Nat, i = (j : Int) ∧ j ≤ n ∧ N = n - j ∧ t = newL (out.take j) (l.take j) ∧ Own mm T_bool 1 ta n tc (bl (orL (out.take j) (l.take j) ++ out.drop j)), n,
    ⟨rfl, rfl, rfl, rfl, rfl, rfl, rfl, Chg.refl _ _, 0, rfl, by omega, by omega, by simp [newL], by simpa [orL] using ho⟩, ?_⟩
  rintro N a' l' c' t xa xl xc nn i mm ⟨rfl, rfl, rfl, rfl, rfl, rfl, rfl, hch, j, rfl, hj, rfl, rfl, hown⟩
  unfold regex_join.l1B
  refine BrD (fun hlt => ?_) (fun hge => ?_)
  rotate_left
  · have h1 : out.take j = out := List.take_of_length_le (by omega)
    have h2 : l.take j = l := List.take_of_length_le (by omega)
    have h3 : out.drop j = [] := List.drop_eq_nil_of_le (by omega)
    rw [h1, h2, h3, List.append_nil] at hown
    rw [h1, h2]
    exact k mm hch hown
  have hjn : j < xl := by omega
  obtain ⟨x, hx⟩ : ∃ x, out[j]? = some x := ⟨_, List.getElem?_eq_getElem (by omega)⟩
  obtain ⟨y, hy⟩ : ∃ y, l[j]? = some y := ⟨_, List.getElem?_eq_getElem (by omega)⟩
  obtain ⟨e1, e2, e3⟩ := orL_succ hx hy (by omega)
  have hlc := hl.chg hch (fun b e => hne b e)
  have hrl : (orL (out.take j) (l.take j) ++ out.drop j).length = xl := by
    have := hown.1
    rw [bl_len] at this; omega
  refine IxS.bl hlc hll hy (UnB.mk ?_)
  have kk : ∀ t', t' = newL (out.take (j + 1)) (l.take (j + 1)) → ∀ {K : Option Addr → Nat → Nat → Bool → Option Addr → Nat → Nat → Int → Int → Mem → Prop}, (∀ m', Chg (fun b => blk a' = some b) m m' → Own m' T_bool 1 a' xl c' (bl (orL (out.take (j + 1)) (l.take (j + 1)) ++ out.drop (j + 1))) → K a' xl c' (newL (out.take (j + 1)) (l.take (j + 1))) xa xl xc ((xl : Nat) : Int) ((j + 1 : Nat) : Int) m') → regex_join.k2 K a' xl c' t' (j : Int) y xa xl xc ((xl : Nat) : Int) (j : Int) R mm := by
    intro t' ht K hK
    subst ht
    unfold regex_join.k2
    have ew : IntKind.i64.wrap ((j : Int) + 1) = ((j + 1 : Nat) : Int) := by rw [wi (by omega) (by omega)]; omega
    rw [ew]
    refine IxS.bl hown.cells hrl e3 (UnB.mk ?_)
    refine Br.mk (fun h => ?_) (fun h => ?_)
    · refine hown.st (by omega) (by omega) (v := .bool true) rfl ?_
      intro m' hc' ho'
      refine hK m' (hch.trans hc' (fun b _ e => e)) ?_
      have : (bl (orL (out.take j) (l.take j) ++ out.drop j)).set (j : Int).toNat (.bool true) = bl (orL (out.take (j + 1)) (l.take (j + 1)) ++ out.drop (j + 1)) := by
        rw [← e1, h, Bool.true_or]
        unfold bl
        rw [Int.toNat_natCast, List.map_set]
      rw [← this]; exact ho'
    · refine hown.st (by omega) (by omega) (v := .bool y) rfl ?_
      intro m' hc' ho'
      refine hK m' (hch.trans hc' (fun b _ e => e)) ?_
      have : (bl (orL (out.take j) (l.take j) ++ out.drop j)).set (j : Int).toNat (.bool y) = bl (orL (out.take (j + 1)) (l.take (j + 1)) ++ out.drop (j + 1)) := by
        rw [← e1, h, Bool.false_or]
        unfold bl
        rw [Int.toNat_natCast, List.map_set]
      rw [← this]; exact ho'
  have fin : ∀ m', Chg (fun b => blk a' = some b) m m' → Own m' T_bool 1 a' xl c' (bl (orL (out.take (j + 1)) (l.take (j + 1)) ++ out.drop (j + 1))) → ∃ N1, N1 < xl - j ∧ (a' = a' ∧ xl = xl ∧ c' = c' ∧ xa = xa ∧ xl = xl ∧ xc = xc ∧ ((xl : Nat) : Int) = ((xl : Nat) : Int) ∧ Chg (fun b => blk a' = some b) m m' ∧ ∃ j' : Nat, ((j + 1 : Nat) : Int) = (j' : Int) ∧ j' ≤ xl ∧ N1 = xl - j' ∧ newL (out.take (j + 1)) (l.take (j + 1)) = newL (out.take j') (l.take j') ∧ Own m' T_bool 1 a' xl c' (bl (orL (out.take j') (l.take j') ++ out.drop j'))) :=
    fun m' hc' ho' => ⟨xl - (j + 1), by omega, rfl, rfl, rfl, rfl, rfl, rfl, rfl, hc', j + 1, rfl, by omega, rfl, rfl, ho'⟩
  refine Br.mk (fun ht => ?_) (fun ht => ?_)
  · exact kk true (by rw [e2, ht]; simp) fin
  · refine Br.mk (fun hyt => ?_) (fun hyt => ?_)
    · refine IxS.bl hown.cells hrl e3 (UnB.mk ?_)
      exact kk (!x) (by rw [e2, ht, hyt]; simp) fin
    · exact kk false (by rw [e2, ht, hyt]; simp) fin
end Go.E.Rg
set_option linter.unusedVariables false
set_option linter.unusedSimpArgs false
set_option maxRecDepth 20000
namespace Go.E.Rg
open Go.H Go.E
attribute [local irreducible] BiN MkS ConvN LookN MapUpN CallV HC limb dbTab
/-- The answer under way: its own row, and the expression's own block. -/
structure FO (m mm : Mem) (b3 b n : Nat) (obj : Obj) (out : List Bool) : Prop where
  le : Le m mm
  c3 : mm b3 = some obj
  own : Own mm T_bool 1 (some ⟨b, 0, none⟩) n n (bl out)
  hb : m b = none
  ne : b3 ≠ b
section
variable {m mm m' : Mem} {b3 b n : Nat} {obj : Obj} {out out' : List Bool}
theorem FO.up (h : FO m mm b3 b n obj out) (k : Le mm m') : FO m m' b3 b n obj out := ⟨h.le.trans k, k _ _ h.c3, Own.le k h.own, h.hb, h.ne⟩
theorem FO.to (h : FO m mm b3 b n obj out) (k : Chg (fun x => blk (some ⟨b, 0, none⟩) = some x) mm m') (o : Own m' T_bool 1 (some ⟨b, 0, none⟩) n n (bl out')) : FO m m' b3 b n obj out' :=
  ⟨k.to_le h.le (fun x e => by cases e; exact h.hb), k.eq _ _ h.c3 (fun e => by cases e; exact h.ne rfl), o, h.hb, h.ne⟩
theorem FO.len (h : FO m mm b3 b n obj out) : out.length = n := by have := h.own.1; rw [bl_len] at this; omega
theorem FO.fresh (h : FO m mm b3 b n obj out) : Fresh m (some ⟨b, 0, none⟩) := fun x e => by cases e; exact h.hb
/-- What is told of others is joined. -/
theorem FO.join (h : FO m mm b3 b n obj out) {la : Option Addr} {lc : Nat} {l : List Bool} (hll : l.length = n) (hn : n ≤ 1000000000) (hl : CellsAt mm la (bl l)) (hne : blk la ≠ some b) {R : Ending → Mem → Prop}
    (k : ∀ m', Chg (fun x => blk (some ⟨b, 0, none⟩) = some x) mm m' → FO m m' b3 b n obj (orL out l) → R (.returned (.bool (newL out l))) m') : HC P regex_join.id #[.slice (some ⟨b, 0, none⟩) n n, .slice la n lc] mm R := by
  refine join_spec h.own h.len hll hn hl (fun x e e2 => by cases e2; exact hne e) ?_
  intro m' hch ho
  exact k m' hch (h.to hch ho)
end
theorem zip_snoc {α β γ : Type} (f : α → β → γ) : ∀ {u : List β} {a : List α} {i : Nat} {x : α} {c : β}, u.length = i → a[i]? = some x → List.zipWith f a (u ++ [c]) = List.zipWith f a u ++ [f x c]
  | [], a, i, x, c, h, ha => by
    simp at h; subst h
    cases a with
    | nil => cases ha
    | cons y a => cases ha; simp
  | z :: u, a, i, x, c, h, ha => by
    obtain ⟨i, rfl⟩ : ∃ i', i = i' + 1 := ⟨u.length, by simpa using h.symm⟩
    cases a with
    | nil => cases ha
    | cons y a =>
      rw [List.cons_append, List.zipWith_cons_cons, List.zipWith_cons_cons, zip_snoc f (u := u) (a := a) (i := i) (by simpa using h) (by simpa using ha)]; rfl
theorem setE_succ {S : Nat → Bool} {w : List UInt8} {at_ : List Bool} {i : Nat} {c : UInt8} {x : Bool} (hw : w[i]? = some c) (ha : at_[i]? = some x) (hl : at_.length = w.length + 1) :
    (setE S (w.take i) at_ ++ List.replicate (w.length - i) false).set (i + 1) (x && S c.toNat) = setE S (w.take (i + 1)) at_ ++ List.replicate (w.length - (i + 1)) false := by
  have hi : i < w.length := by
    rcases Nat.lt_or_ge i w.length with h | h
    · exact h
    · rw [List.getElem?_eq_none h] at hw; cases hw
  have hlen : (setE S (w.take i) at_).length = i + 1 := by unfold setE; simp; omega
  have he : setE S (w.take (i + 1)) at_ = setE S (w.take i) at_ ++ [x && S c.toNat] := by
    unfold setE
    rw [List.take_add_one, hw, Option.toList_some, zip_snoc _ (u := w.take i) (i := i) (by simp; omega) ha]
    rfl
  rw [he, show w.length - i = (w.length - (i + 1)) + 1 by omega, List.replicate_succ, List.set_append_right _ _ (by omega), hlen, Nat.sub_self, List.set_cons_zero]
  simp
def FromOK (r : Rx) : Prop := ∀ {m : Mem} {v : Value} {wa aa : Option Addr} {wc ac : Nat} {w : List UInt8} {at_ : List Bool} {R : Ending → Mem → Prop}, ArgC m r v → form r = true → CellsAt m wa (u8s w) → CellsAt m aa (bl at_) → at_.length = w.length + 1 → w.length ≤ 1000000 →
  (∀ m' ra rc, Le m m' → Fresh m ra → CellsAt m' ra (bl (ends w r at_)) → R (.returned (.slice ra (w.length + 1) rc)) m') → HC P regex_from.id #[rxA r.k r.S v, .slice wa w.length wc, .slice aa (w.length + 1) ac] m R
theorem ends_mk (w : List UInt8) (k : Int) (S : Nat → Bool) (ps : List Rx) (at_ : List Bool) : ends w (.mk k S ps) at_ = (if k = 1 then setE S w at_
    else if k = 2 then endsC w ps at_
    else if k = 3 then endsA w ps at_ (List.replicate (w.length + 1) false)
    else if k = 6 then orL (orL (List.replicate (w.length + 1) false) at_) (ends1 w ps at_)
    else manyE (ends1 w ps) (w.length + 1) (if k = 4 then orL (List.replicate (w.length + 1) false) at_ else List.replicate (w.length + 1) false) (ends1 w ps at_)) := by conv => lhs; unfold ends
theorem endsC_cons (w : List UInt8) (r : Rx) (rs : List Rx) (a : List Bool) : endsC w (r :: rs) a = endsC w rs (ends w r a) := by conv => lhs; unfold endsC
theorem endsA_cons (w : List UInt8) (r : Rx) (rs : List Rx) (a o : List Bool) : endsA w (r :: rs) a o = endsA w rs a (orL o (ends w r a)) := by conv => lhs; unfold endsA
theorem ends1_cons (w : List UInt8) (r : Rx) (rs : List Rx) (a : List Bool) : ends1 w (r :: rs) a = ends w r a := by conv => lhs; unfold ends1
/-- A row that lives in a memory is none that is new. -/
theorem live_ne {m : Mem} {a : Option Addr} {l : List Bool} {b : Nat} (h : CellsAt m a (bl l)) (hl : 0 < l.length) (hb : m b = none) : blk a ≠ some b := by
  intro e
  rcases h.cases with ⟨b', o, rfl, hx⟩ | ⟨he, _⟩
  · cases e
    obtain ⟨x, hx'⟩ : ∃ x, l[0]? = some x := ⟨_, List.getElem?_eq_getElem hl⟩
    have := hx 0 _ (bl_get hx')
    unfold Mem.cell at this
    rw [hb] at this; cases this
  · have := bl_len l
    rw [he] at this; simp at this; omega
theorem from_ok (r : Rx) : FromOK r := by
  refine Rx.ind (C := FromOK) ?_ r
  intro k S ps ih m v wa aa wc ac w at_ R ha hf hw hat hal hwl hk
  obtain ⟨prs, a, c, rfl, rfl, hl, hb, hc, hp⟩ := ha.inv
  show HC P regex_from.id #[rxA k S (.slice a prs.length c), .slice wa w.length wc, .slice aa (w.length + 1) ac] m R
  refine regex_from.ok _ _ _ _ _ _ _ _ _ _ _ _ _ _ _ _ ?_
  refine newRx ?_
  intro b3 m1 hb3 hle h1
  have ew : IntKind.i64.wrap (((w.length : Nat) : Int) + 1) = ((w.length + 1 : Nat) : Int) := by rw [wi (by omega) (by omega)]; omega
  rw [ew]
  refine make_one eBl rfl (by omega) (by omega) (by omega) (by omega) ?_
  intro b hb0
  simp only [Int.toNat_natCast]
  refine UnS.mk ?_
  have hfb : m b = none := hle.new hb0
  have hne : b3 ≠ b := by rintro rfl; rw [h1] at hb0; cases hb0
  have hF : FO m (m1.set b (.cells (List.replicate (w.length + 1) (Value.bool false)).toArray T_bool (0, 0))) b3 b (w.length + 1) (.cells (rxO k S (.slice a prs.length c)) T_api_Rx (0, 0)) (List.replicate (w.length + 1) false) :=
    ⟨hle.trans (Le.set hb0 _), Le.set hb0 _ _ _ h1, by
      have := own_new (m := m1) (b := b) (n := w.length + 1) (z := .bool false) (e := T_bool) (by omega)
      unfold bl
      rw [List.map_replicate]; exact this, hfb, hne⟩
  generalize m1.set b (.cells (List.replicate (w.length + 1) (Value.bool false)).toArray T_bool (0, 0)) = m2 at hF
  have hpl : (prs.map (·.1)).length = prs.length := List.length_map _
  have hdrop : ∀ (j : Nat) (hjl : j < prs.length), (prs.map (·.1)).drop j = prs[j].1 :: (prs.map (·.1)).drop (j + 1) := by
    intro j hjl
    rw [List.drop_eq_getElem_cons (by rw [hpl]; exact hjl), List.getElem_map]
  have hel : ∀ (r : Rx) (a : List Bool), a.length = w.length + 1 → (ends w r a).length = w.length + 1 := fun r a h => (ends_iff w r a h).1
  have hatb : blk aa ≠ some b := live_ne hat (by omega) hfb
  rw [ends_mk] at hk
  refine LdV.s0 hF.c3 (UnI.mk ?_)
  refine BrE (fun e1 => ?_) (fun e1 => ?_)
  · -- a set
    rw [if_pos e1] at hk
    refine ⟨fun N xa xl xc xb xo oa ol oc ya yl yc nn i mm => xa = aa ∧ xl = w.length + 1 ∧ xc = ac ∧ xb = b3 ∧ xo = 0 ∧ oa = some ⟨b, 0, none⟩ ∧ ol = w.length + 1 ∧ oc = w.length + 1 ∧ ya = wa ∧ yl = w.length ∧ yc = wc ∧ nn = ((w.length : Nat) : Int) ∧ ∃ i' : Nat, i = (i' : Int) ∧ i' ≤ w.length ∧ N = w.length - i' ∧ FO m mm b3 b (w.length + 1) (.cells (rxO k S (.slice a prs.length c)) T_api_Rx (0, 0)) (setE S (w.take i') at_ ++ List.replicate (w.length - i') false), w.length,
      ⟨rfl, rfl, rfl, rfl, rfl, rfl, rfl, rfl, rfl, rfl, rfl, rfl, 0, rfl, by omega, by omega, by
        have : setE S (w.take 0) at_ ++ List.replicate (w.length - 0) false = List.replicate (w.length + 1) false := by unfold setE; simp [List.replicate_succ]
        rw [this]; exact hF⟩, ?_⟩
    rintro N xa xl xc xb xo oa ol oc ya yl yc nn i mm ⟨rfl, rfl, rfl, rfl, rfl, rfl, rfl, rfl, rfl, rfl, rfl, rfl, i', rfl, hi, rfl, hFO⟩
    unfold regex_from.l1B
    refine BrD (fun hlt => ?_) (fun hge => ?_)
    rotate_left
    · have e : w.take i' = w := List.take_of_length_le (by omega)
      rw [e, show w.length - i' = 0 by omega, List.replicate_zero, List.append_nil] at hFO
      exact hk mm _ _ hFO.le hFO.fresh hFO.own.cells
    have hiw : i' < w.length := by omega
    obtain ⟨ch, hch⟩ : ∃ ch, w[i']? = some ch := ⟨_, List.getElem?_eq_getElem hiw⟩
    obtain ⟨x, hx⟩ : ∃ x, at_[i']? = some x := ⟨_, List.getElem?_eq_getElem (by omega)⟩
    have hstep := setE_succ (S := S) hch hx hal
    have ei : IntKind.i64.wrap ((i' : Int) + 1) = ((i' + 1 : Nat) : Int) := by rw [wi (by omega) (by omega)]; omega
    rw [ei]
    refine IxS.u8s (hw.le hFO.le) rfl (by omega) (by omega) ?_
    intro ch' hch'
    rw [Int.toNat_natCast, hch] at hch'
    cases hch'
    refine UnI.mk ?_
    refine IxS.bl (hat.le hFO.le) hal hx (UnB.mk ?_)
    have nxt : ∀ {mm' : Mem} {y : Bool}, FO m mm' xb b (w.length + 1) (.cells (rxO k S (.slice a prs.length c)) T_api_Rx (0, 0)) (setE S (w.take i') at_ ++ List.replicate (w.length - i') false) → y = (x && S ch.toNat) → ∀ {K : Mem → Prop}, (∀ m', FO m m' xb b (w.length + 1) (.cells (rxO k S (.slice a prs.length c)) T_api_Rx (0, 0)) (setE S (w.take (i' + 1)) at_ ++ List.replicate (w.length - (i' + 1)) false) → K m') → IxS (some ⟨b, 0, none⟩) (w.length + 1) ((i' + 1 : Nat) : Int) 1 fun bb oo => St1 mm' bb oo (.bool y) K := by
      intro mm' y h hy K hK
      refine h.own.st (by omega) (by omega) (v := .bool y) rfl ?_
      intro m' hc' ho'
      refine hK m' (h.to hc' ?_)
      rw [← hstep]
      unfold bl at ho' ⊢
      rw [Int.toNat_natCast] at ho'
      rw [List.map_set, ← hy]; exact ho'
    have fin : ∀ m', FO m m' xb b (w.length + 1) (.cells (rxO k S (.slice a prs.length c)) T_api_Rx (0, 0)) (setE S (w.take (i' + 1)) at_ ++ List.replicate (w.length - (i' + 1)) false) → ∃ N1, N1 < w.length - i' ∧ (xa = xa ∧ w.length + 1 = w.length + 1 ∧ xc = xc ∧ xb = xb ∧ 0 = 0 ∧ (some ⟨b, 0, none⟩ : Option Addr) = some ⟨b, 0, none⟩ ∧ w.length + 1 = w.length + 1 ∧ w.length + 1 = w.length + 1 ∧ ya = ya ∧ w.length = w.length ∧ yc = yc ∧ ((w.length : Nat) : Int) = ((w.length : Nat) : Int) ∧ ∃ i2 : Nat, ((i' + 1 : Nat) : Int) = (i2 : Int) ∧ i2 ≤ w.length ∧ N1 = w.length - i2 ∧ FO m m' xb b (w.length + 1) (.cells (rxO k S (.slice a prs.length c)) T_api_Rx (0, 0)) (setE S (w.take i2) at_ ++ List.replicate (w.length - i2) false)) :=
      fun m' h => ⟨w.length - (i' + 1), by omega, rfl, rfl, rfl, rfl, rfl, rfl, rfl, rfl, rfl, rfl, rfl, rfl, i' + 1, rfl, by omega, rfl, h⟩
    refine Br.mk (fun hxt => ?_) (fun hxt => ?_)
    · refine LdV.s1 hFO.c3 (UnI.mk (LdV.s2 hFO.c3 (UnI.mk (LdV.s3 hFO.c3 (UnI.mk (LdV.s4 hFO.c3 (UnI.mk ?_)))))))
      refine Has_spec (f := S) (b := ch.toNat) (UInt8.toNat_lt ch) ?_
      intro m4 hle4
      dsimp only [Cont]
      refine UnB.mk ?_
      exact nxt (hFO.up hle4) (by rw [hxt, Bool.true_and]) fin
    · exact nxt hFO (by rw [hxt, Bool.false_and]) fin
  rw [if_neg e1] at hk
  have hcases : (∀ a' ∈ prs.map (·.1), a'.k ≠ k ∧ form a' = true) ∧ (((k = 2 ∨ k = 3) ∧ 2 ≤ (prs.map (·.1)).length) ∨ (4 ≤ k ∧ k ≤ 6 ∧ ∃ x, prs.map (·.1) = [x] ∧ sgK x.k = false)) := by
    rcases form_cases hf with ⟨h, _⟩ | ⟨_, h2, h3⟩
    · exact absurd h e1
    · exact ⟨h2, h3⟩
  obtain ⟨hforms, hshape⟩ := hcases
  -- one part
  have part : ∀ (j : Nat) (hjl : j < prs.length) {mm : Mem} {xa : Option Addr} {xc : Nat} {x : List Bool} {v' : Value} {Q : Ending → Mem → Prop}, prs[j].2 = v' → Le m mm → CellsAt mm xa (bl x) → x.length = w.length + 1 →
      (∀ m' ra rc, Le mm m' → Fresh mm ra → CellsAt m' ra (bl (ends w prs[j].1 x)) → Q (.returned (.slice ra (w.length + 1) rc)) m') → HC P regex_from.id #[rxA prs[j].1.k prs[j].1.S v', .slice wa w.length wc, .slice xa (w.length + 1) xc] mm Q := by
    intro j hjl mm xa xc x v' Q hv hlm hx hxl hQ
    have hpm := List.getElem_mem hjl
    have hmem : prs[j].1 ∈ prs.map (·.1) := List.mem_map.mpr ⟨_, hpm, rfl⟩
    refine ih _ hmem (by have := hp _ hpm; rw [hv] at this; exact this.le hlm) (hforms _ hmem).2 (hw.le hlm) hx hxl hwl hQ
  refine BrE (fun e2 => ?_) (fun e2 => ?_)
  · -- one behind the other
    rw [if_pos e2] at hk
    have hl2 : 2 ≤ prs.length := by
      rcases hshape with ⟨_, h⟩ | ⟨h, _⟩
      · rw [hpl] at h; exact h
      · omega
    refine LdV.s5 hF.c3 (UnS.mk ?_)
    refine ⟨fun N wa' wl' wc' xa xl xc ya yl yc nn i mm => wa' = wa ∧ wl' = w.length ∧ wc' = wc ∧ xl = w.length + 1 ∧ ya = a ∧ yl = prs.length ∧ yc = c ∧ nn = ((prs.length : Nat) : Int) ∧ Le m mm ∧ ∃ (j : Nat) (x : List Bool), i = (j : Int) ∧ j ≤ prs.length ∧ N = prs.length - j ∧ CellsAt mm xa (bl x) ∧ x.length = w.length + 1 ∧ endsC w (prs.map (·.1)) at_ = endsC w ((prs.map (·.1)).drop j) x ∧ (j = 0 ∨ Fresh m xa), prs.length,
      ⟨rfl, rfl, rfl, rfl, rfl, rfl, rfl, rfl, hF.le, 0, at_, rfl, by omega, by omega, hat.le hF.le, hal, rfl, .inl rfl⟩, ?_⟩
    rintro N wa' wl' wc' xa xl xc ya yl yc nn i mm ⟨rfl, rfl, rfl, rfl, rfl, rfl, rfl, rfl, hlm, j, x, rfl, hj, rfl, hx, hxl, hend, hfr⟩
    unfold regex_from.l2B
    refine BrD (fun hlt => ?_) (fun hge => ?_)
    · have hjl : j < prs.length := by omega
      obtain ⟨a', l', c', hv⟩ := (hp _ (List.getElem_mem hjl)).sl
      refine IxS.rx6 (hc.le hlm) hjl hv ?_
      refine copyRx ?_
      intro b4 m7 hb4 hle7 h7
      refine get6 h7 ?_
      refine part j hjl hv (hlm.trans hle7) (hx.le hle7) hxl ?_
      intro m8 ra rc hle8 hfr8 hx8
      dsimp only [Cont]
      refine UnS.mk ?_
      rw [hdrop j hjl, endsC_cons] at hend
      refine ⟨prs.length - (j + 1), by omega, rfl, rfl, rfl, rfl, rfl, rfl, rfl, rfl, hlm.trans (hle7.trans hle8), j + 1, _, ?_, by omega, rfl, hx8, hel _ _ hxl, hend, .inr (Fresh.le (hlm.trans hle7) hfr8)⟩
      rw [wi (by omega) (by omega)]; omega
    · have e : (prs.map (·.1)).drop j = [] := List.drop_eq_nil_of_le (by omega)
      have e' : endsC w [] x = x := by unfold endsC; rfl
      rw [e, e'] at hend
      refine hk mm xa xc hlm (hfr.resolve_left (by omega)) ?_
      rw [hend]; exact hx
  rw [if_neg e2] at hk
  refine BrE (fun e3 => ?_) (fun e3 => ?_)
  · -- one of them
    rw [if_pos e3] at hk
    refine LdV.s5 hF.c3 (UnS.mk ?_)
    refine ⟨fun N wa' wl' wc' xa xl xc oa ol oc ya yl yc nn i mm => wa' = wa ∧ wl' = w.length ∧ wc' = wc ∧ xa = aa ∧ xl = w.length + 1 ∧ xc = ac ∧ oa = some ⟨b, 0, none⟩ ∧ ol = w.length + 1 ∧ oc = w.length + 1 ∧ ya = a ∧ yl = prs.length ∧ yc = c ∧ nn = ((prs.length : Nat) : Int) ∧ ∃ (j : Nat) (o : List Bool), i = (j : Int) ∧ j ≤ prs.length ∧ N = prs.length - j ∧ FO m mm b3 b (w.length + 1) (.cells (rxO k S (.slice a prs.length c)) T_api_Rx (0, 0)) o ∧ endsA w (prs.map (·.1)) at_ (List.replicate (w.length + 1) false) = endsA w ((prs.map (·.1)).drop j) at_ o, prs.length,
      ⟨rfl, rfl, rfl, rfl, rfl, rfl, rfl, rfl, rfl, rfl, rfl, rfl, rfl, 0, _, rfl, by omega, by omega, hF, rfl⟩, ?_⟩
    rintro N wa' wl' wc' xa xl xc oa ol oc ya yl yc nn i mm ⟨rfl, rfl, rfl, rfl, rfl, rfl, rfl, rfl, rfl, rfl, rfl, rfl, rfl, j, o, rfl, hj, rfl, hFO, hend⟩
    unfold regex_from.l3B
    refine BrD (fun hlt => ?_) (fun hge => ?_)
    · have hjl : j < prs.length := by omega
      obtain ⟨a', l', c', hv⟩ := (hp _ (List.getElem_mem hjl)).sl
      refine IxS.rx6 (hc.le hFO.le) hjl hv ?_
      refine copyRx ?_
      intro b4 m7 hb4 hle7 h7
      refine get6 h7 ?_
      have hF7 := hFO.up hle7
      refine part j hjl hv hF7.le (hat.le hF7.le) hal ?_
      intro m8 ra rc hle8 hfr8 hx8
      dsimp only [Cont]
      refine UnS.mk ?_
      have hF8 := hF7.up hle8
      refine hF8.join (hel _ _ hal) (by omega) hx8 (fun e => hF7.own.live b rfl (hfr8 b e)) ?_
      intro m9 hc9 hF9
      dsimp only [Cont]
      refine UnB.mk ?_
      rw [hdrop j hjl, endsA_cons] at hend
      refine ⟨prs.length - (j + 1), by omega, rfl, rfl, rfl, rfl, rfl, rfl, rfl, rfl, rfl, rfl, rfl, rfl, rfl, j + 1, _, ?_, by omega, rfl, hF9, hend⟩
      rw [wi (by omega) (by omega)]; omega
    · have e : (prs.map (·.1)).drop j = [] := List.drop_eq_nil_of_le (by omega)
      have e' : endsA w [] at_ o = o := by unfold endsA; rfl
      rw [e, e'] at hend
      refine hk mm _ _ hFO.le hFO.fresh ?_
      rw [hend]; exact hFO.own.cells
  rw [if_neg e3] at hk
  -- a sign: there is one part
  have hone : ∃ p, prs = [p] := by
    rcases hshape with ⟨h | h, _⟩ | ⟨_, _, x, h, _⟩
    · exact absurd h e2
    · exact absurd h e3
    · have := congrArg List.length h
      rw [hpl] at this
      exact List.length_eq_one_iff.mp this
  obtain ⟨p, rfl⟩ := hone
  have h01 : ends1 w ([p].map (·.1)) = ends w p.1 := by funext y; exact ends1_cons w _ _ y
  obtain ⟨pa, pl, pc, hv⟩ := (hp p (by simp)).sl
  rw [h01] at hk
  refine BrE (fun e6 => ?_) (fun e6 => ?_)
  · rw [if_pos e6] at hk
    refine hF.join hal (by omega) (hat.le hF.le) hatb ?_
    intro m3 hc3 hF3
    dsimp only [Cont]
    refine UnB.mk ?_
    refine LdV.s5 hF3.c3 (UnS.mk ?_)
    refine IxS.rx6 (hc.le hF3.le) (j := 0) (by simp) hv ?_
    refine part 0 (by simp) hv hF3.le (hat.le hF3.le) hal ?_
    intro m4 ra rc hle4 hfr4 hx4
    dsimp only [Cont]
    refine UnS.mk ?_
    have hF4 := hF3.up hle4
    refine hF4.join (hel _ _ hal) (by omega) hx4 (fun e => hF3.own.live b rfl (hfr4 b e)) ?_
    intro m5 hc5 hF5
    dsimp only [Cont]
    refine UnB.mk ?_
    exact hk m5 _ _ hF5.le hF5.fresh hF5.own.cells
  rw [if_neg e6] at hk
  have k4 : ∀ {mm : Mem} {o : List Bool}, FO m mm b3 b (w.length + 1) (.cells (rxO k S (.slice a [p].length c)) T_api_Rx (0, 0)) o → (∀ m' ra rc, Le m m' → Fresh m ra → CellsAt m' ra (bl (manyE (ends w p.1) (w.length + 1) o (ends w p.1 at_))) → R (.returned (.slice ra (w.length + 1) rc)) m') →
      regex_from.k4 wa w.length wc aa (w.length + 1) ac b3 0 (some ⟨b, 0, none⟩) (w.length + 1) (w.length + 1) R mm := by
    intro mm o hFO hq
    unfold regex_from.k4
    refine LdV.s5 hFO.c3 (UnS.mk ?_)
    refine IxS.rx6 (hc.le hFO.le) (j := 0) (by simp) hv ?_
    refine part 0 (by simp) hv hFO.le (hat.le hFO.le) hal ?_
    intro m4 ra rc hle4 hfr4 hx4
    dsimp only [Cont]
    refine UnS.mk ?_
    have hF4 := hFO.up hle4
    refine ⟨fun N wa' wl' wc' xb xo oa ol oc ya yl yc mm => wa' = wa ∧ wl' = w.length ∧ wc' = wc ∧ xb = b3 ∧ xo = 0 ∧ oa = some ⟨b, 0, none⟩ ∧ ol = w.length + 1 ∧ oc = w.length + 1 ∧ yl = w.length + 1 ∧ ∃ (o y : List Bool), FO m mm b3 b (w.length + 1) (.cells (rxO k S (.slice a [p].length c)) T_api_Rx (0, 0)) o ∧ CellsAt mm ya (bl y) ∧ y.length = w.length + 1 ∧ blk ya ≠ some b ∧ free o ≤ N ∧ ∀ m' ra rc, Le m m' → Fresh m ra → CellsAt m' ra (bl (manyE (ends w p.1) N o y)) → R (.returned (.slice ra (w.length + 1) rc)) m', w.length + 1,
      ⟨rfl, rfl, rfl, rfl, rfl, rfl, rfl, rfl, rfl, o, _, hF4, hx4, hel _ _ hal, (fun e => hFO.own.live b rfl (hfr4 b e)), by have := free_le o; rw [hFO.len] at this; exact this, hq⟩, ?_⟩
    rintro N wa' wl' wc' xb xo oa ol oc ya yl yc mm' ⟨rfl, rfl, rfl, rfl, rfl, rfl, rfl, rfl, rfl, o', y, hF', hy, hyl, hyb, hfree, hq'⟩
    unfold regex_from.l5B
    refine hF'.join hyl (by omega) hy hyb ?_
    intro m5 hc5 hF5
    dsimp only [Cont]
    refine UnB.mk ?_
    have holy : o'.length = y.length := by rw [hF'.len, hyl]
    refine Br.mk (fun hnew => ?_) (fun hnew => ?_)
    · have hlt := (free_or holy).2 hnew
      obtain ⟨N', rfl⟩ : ∃ N', N = N' + 1 := ⟨N - 1, by omega⟩
      unfold manyE at hq'
      rw [if_pos hnew] at hq'
      refine LdV.s5 hF5.c3 (UnS.mk ?_)
      refine IxS.rx6 (hc.le hF5.le) (j := 0) (by simp) hv ?_
      have hy5 : CellsAt m5 ya (bl y) := hy.chg hc5 (fun x e e2 => by cases e2; exact hyb e)
      refine part 0 (by simp) hv hF5.le hy5 hyl ?_
      intro m6 ra2 rc2 hle6 hfr6 hx6
      dsimp only [Cont]
      refine UnS.mk ?_
      exact ⟨N', by omega, rfl, rfl, rfl, rfl, rfl, rfl, rfl, rfl, rfl, _, _, hF5.up hle6, hx6, hel _ _ hyl, (fun e => hF5.own.live b rfl (hfr6 b e)), by omega, hq'⟩
    · have : manyE (ends w p.1) N o' y = orL o' y := by
        cases N with
        | zero =>
          have := (free_zero holy (by omega)).2
          unfold manyE; rw [this]
        | succ N => unfold manyE; rw [if_neg (by rw [hnew]; decide)]
      rw [this] at hq'
      exact hq' m5 _ _ hF5.le hF5.fresh hF5.own.cells
  refine LdV.s0 hF.c3 (UnI.mk ?_)
  refine BrE (fun e4 => ?_) (fun e4 => ?_)
  · rw [if_pos e4] at hk
    refine hF.join hal (by omega) (hat.le hF.le) hatb ?_
    intro m3 hc3 hF3
    dsimp only [Cont]
    refine UnB.mk ?_
    exact k4 hF3 hk
  · rw [if_neg e4] at hk
    exact k4 hF hk
end Go.E.Rg
set_option linter.unusedVariables false
set_option linter.unusedSimpArgs false
set_option maxRecDepth 20000
namespace Go.E.Rg
open Go.H Go.E
attribute [local irreducible] BiN MkS ConvN LookN MapUpN CallV HC limb dbTab
theorem In_spec {r : Rx} {m : Mem} {v : Value} {wa : Option Addr} {wc : Nat} {w : List UInt8} {R : Ending → Mem → Prop} (ha : ArgC m r v) (hn : nodes r ≤ 4000000000000000000) (hw : CellsAt m wa (u8s w)) (hwl : w.length ≤ 1000000)
    (hk : ∀ m', Le m m' → R (.returned (.bool (isIn r w))) m') : HC P regex_In.id #[rxA r.k r.S v, .slice wa w.length wc] m R := by
  obtain ⟨a, l, c, rfl⟩ := ha.sl
  refine regex_In.ok _ _ _ _ _ _ _ _ _ _ _ _ _ ?_
  refine newRx ?_
  intro b1 m1 hb1 hle h1
  refine get6 h1 ?_
  refine May_spec (ha.le hle) hn ?_
  intro m2 hle2
  dsimp only [Cont]
  refine UnI.mk ?_
  have h12 := hle.trans hle2
  unfold isIn at hk
  refine BrN (fun h0 => ?_) (fun h0 => ?_)
  · rw [show decide (may r = 0) = false by simpa using h0, Bool.false_and] at hk
    exact hk m2 h12
  rw [show decide (may r = 0) = true by simpa using h0, Bool.true_and] at hk
  have hform := (may_form h0).1
  have ew : IntKind.i64.wrap (((w.length : Nat) : Int) + 1) = ((w.length + 1 : Nat) : Int) := by rw [wi (by omega) (by omega)]; omega
  rw [ew]
  refine make_one eBl rfl (by omega) (by omega) (by omega) (by omega) ?_
  intro b hb0
  simp only [Int.toNat_natCast]
  refine UnS.mk ?_
  have hle3 := Le.set hb0 (.cells (List.replicate (w.length + 1) (Value.bool false)).toArray T_bool (0, 0))
  have ho := own_new (m := m2) (b := b) (n := w.length + 1) (z := .bool false) (e := T_bool) (by omega)
  refine ho.st (i := 0) (by omega) (by omega) (v := .bool true) rfl ?_
  intro m4 hch ho4
  have hbm : m b = none := h12.new hb0
  have hle4 : Le m m4 := hch.to_le (h12.trans hle3) (fun x e => by cases e; exact hbm)
  have hbb : b1 ≠ b := by
    rintro rfl
    have := hle2 _ _ h1
    rw [this] at hb0; cases hb0
  have h14 : m4 b1 = some (.cells (rxO r.k r.S (.slice a l c)) T_api_Rx (0, 0)) := hch.eq _ _ (hle3 _ _ (hle2 _ _ h1)) (fun e => by cases e; exact hbb rfl)
  have hat : CellsAt m4 (some ⟨b, 0, none⟩) (bl (true :: List.replicate w.length false)) := by
    have := ho4.cells
    have e : (List.replicate (w.length + 1) (Value.bool false)).set (0 : Int).toNat (.bool true) = bl (true :: List.replicate w.length false) := by
      rw [List.replicate_succ]
      show Value.bool true :: _ = _
      unfold bl
      rw [List.map_cons, List.map_replicate]
    rw [e] at this
    exact this
  refine get6 h14 ?_
  refine from_ok r (ha.le hle4) hform (hw.le hle4) hat (by simp) hwl ?_
  intro m5 ra rc hle5 hfr hx
  dsimp only [Cont]
  refine UnS.mk ?_
  obtain ⟨hel, _⟩ := ends_iff w r (true :: List.replicate w.length false) (by simp)
  obtain ⟨y, hy⟩ : ∃ y, (ends w r (true :: List.replicate w.length false))[w.length]? = some y := ⟨_, List.getElem?_eq_getElem (by omega)⟩
  refine IxS.bl hx hel hy (UnB.mk ?_)
  rw [List.getD_eq_getElem?_getD, hy] at hk
  exact hk m5 (hle4.trans hle5)
end Go.E.Rg
