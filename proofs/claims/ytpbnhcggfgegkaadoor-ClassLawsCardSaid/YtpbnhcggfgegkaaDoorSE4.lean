/- Sets of bytes: Of, run; the byte's place in a text; the least byte. -/
import Derived.Test.YtpbnhcggfgegkaaDoorSE3
set_option linter.unusedVariables false
set_option linter.unusedSimpArgs false
namespace Go.E
open Go.H
attribute [local irreducible] BiN MkS ConvN LookN MapUpN CallV HC

abbrev cells4 (f : Nat → Bool) : Array Value := #[.int .u64 (L f 0), .int .u64 (L f 1), .int .u64 (L f 2), .int .u64 (L f 3)]
theorem limb_set (F : Nat → Bool) {c : Nat} (hc : c < 256) :
    (cells4 F).setIfInBounds (c / 64) (.int .u64 (bitsV .or .u64 (L F (c / 64)) (shlV .u64 1 ((c % 64 : Nat) : Int)))) = cells4 fun b => F b || b == c := by
  have hm : c % 64 < 64 := by omega
  rw [L_add F (c / 64) hm]
  have e : 64 * (c / 64) + c % 64 = c := by omega
  have ne : ∀ k', k' ≠ c / 64 → L (fun b => F b || b == c) k' = L F k' := by
    intro k' hk
    have := L_add_ne F (k := c / 64) (k' := k') hm hk
    rw [e] at this
    exact this
  rw [e]
  have : c / 64 = 0 ∨ c / 64 = 1 ∨ c / 64 = 2 ∨ c / 64 = 3 := by omega
  rcases this with h | h | h | h <;> rw [h] at ne ⊢
  · show #[Value.int .u64 _, Value.int .u64 (L F 1), Value.int .u64 (L F 2), Value.int .u64 (L F 3)] = cells4 _
    unfold cells4
    rw [ne 1 (by omega), ne 2 (by omega), ne 3 (by omega)]
  · unfold cells4
    rw [ne 0 (by omega), ne 2 (by omega), ne 3 (by omega)]
    rfl
  · unfold cells4
    rw [ne 0 (by omega), ne 1 (by omega), ne 3 (by omega)]
    rfl
  · unfold cells4
    rw [ne 0 (by omega), ne 1 (by omega), ne 2 (by omega)]
    rfl

/-- The bytes of a list, as a set. -/
def inB (bs : List UInt8) (b : Nat) : Bool := bs.any fun c => b == c.toNat
theorem inB_take {bs : List UInt8} {k : Nat} (h : k < bs.length) : (fun b => inB (bs.take k) b || b == bs[k].toNat) = inB (bs.take (k + 1)) := by
  funext b
  unfold inB
  rw [List.take_add_one, List.any_append, List.getElem?_eq_getElem h]
  simp
theorem zero4 : cells4 (inB []) = #[.int .u64 0, .int .u64 0, .int .u64 0, .int .u64 0] := by
  have : inB [] = fun _ => false := rfl
  unfold cells4
  rw [this, L_zero, L_zero, L_zero, L_zero]

theorem Of_spec {m : Mem} {a : Option Addr} {l c : Nat} {bs : List UInt8} (hb : CellsAt m a (u8s bs)) (hl : bs.length = l) (hmax : bs.length < 2 ^ 62) {R : Ending → Mem → Prop}
    (h : ∀ m', Le m m' → R (.returned (setv (inB bs))) m') : HC P class_Of.id #[.slice a l c] m R := by
  refine class_Of.ok _ _ _ _ _ ?_
  intro b2 hb2 b3 hb3
  have hne : b3 ≠ b2 := fun e => by subst e; rw [set_same] at hb3; cases hb3
  have hm3 : m b3 = none := by rw [set_other _ _ hne] at hb3; exact hb3
  refine ⟨fun N x2b x2o s3b s3o xa xl xc x7 x8 mm => x2b = b2 ∧ x2o = 0 ∧ s3b = b3 ∧ s3o = 0 ∧ xa = a ∧ xl = l ∧ xc = c ∧ x7 = (l : Int) ∧ ∃ k : Nat, x8 = k ∧ N = l - k ∧ k ≤ l ∧
    mm b3 = some (.cells (cells4 (inB (bs.take k))) T_api_Set (0, 0)) ∧ mm b2 = some (.cells #[.int .u64 0, .int .u64 0, .int .u64 0, .int .u64 0] T_api_Set (0, 0)) ∧ Le m mm, l,
    ⟨rfl, rfl, rfl, rfl, rfl, rfl, rfl, rfl, 0, rfl, rfl, by omega, ?_, ?_, ?_⟩, ?_⟩
  · rw [set_same]; rw [List.take_zero, zero4]
  · rw [set_other _ _ hne.symm, set_same]
  · exact (Le.set hb2 _).trans (Le.set hb3 _)
  rintro N x2b x2o s3b s3o xa xl xc x7 x8 mm ⟨rfl, rfl, rfl, rfl, rfl, rfl, rfl, rfl, k, rfl, rfl, hk, hs, h2, hle⟩
  refine BrD (fun hlt => ?_) (fun hge => ?_)
  · have hk' : k < bs.length := by omega
    have hcl : bs[k].toNat < 256 := by have := UInt8.toNat_lt bs[k]; omega
    refine IxS.u8s (hb.le hle) hl (by omega) (by omega) ?_
    intro x hx
    rw [Int.toNat_natCast, List.getElem?_eq_getElem hk'] at hx
    cases hx
    refine UnI.mk ?_
    rw [byte_div hcl, byte_mod]
    refine ⟨by omega, by omega, ?_⟩
    refine LdV.of hs (v := .int .u64 (L (inB (bs.take k)) (bs[k].toNat / 64))) (by rw [show 0 + ((bs[k].toNat / 64 : Nat) : Int).toNat * 1 = bs[k].toNat / 64 by omega]; exact limb_get (by omega)) ?_
    refine UnI.mk (NnI.mk (by omega) ⟨by omega, by omega, ?_⟩)
    refine St1.to (cells4 (inB (bs.take (k + 1)))) hs (by show _ < 4; omega) rfl ?_ ?_
    · rw [show 0 + ((bs[k].toNat / 64 : Nat) : Int).toNat * 1 = bs[k].toNat / 64 by omega, limb_set _ hcl, inB_take hk']
    refine ⟨_, ?_, rfl, rfl, rfl, rfl, rfl, rfl, rfl, rfl, k + 1, ?_, rfl, by omega, set_same _ _ _, ?_, ?_⟩
    · omega
    · rw [wi (by omega) (by omega)]; omega
    · rw [set_other _ _ hne.symm]; exact h2
    · exact Chg.to_le (Chg.set mm _ _) hle (fun b e => by rw [show b = s3b from e]; exact hm3)
  · have : k = bs.length := by omega
    subst this
    rw [List.take_length] at hs
    refine get4 hs ?_
    refine out4 h2 ?_
    exact h _ (Chg.to_le (Chg.set mm _ _) hle (fun b e => by rw [show b = x2b from e]; exact hb2))
theorem ROf_spec {m : Mem} {a : Option Addr} {l c : Nat} {bs : List UInt8} (hb : CellsAt m a (u8s bs)) (hl : bs.length = l) (hmax : bs.length < 2 ^ 62) {R : Ending → Mem → Prop}
    (h : ∀ m', Le m m' → R (.returned (setv (inB bs))) m') : HC P eyotref8_Of.id #[.slice a l c] m R := by
  refine eyotref8_Of.ok _ _ _ _ _ ?_
  intro b2 hb2 b3 hb3
  have hne : b3 ≠ b2 := fun e => by subst e; rw [set_same] at hb3; cases hb3
  have hm3 : m b3 = none := by rw [set_other _ _ hne] at hb3; exact hb3
  refine ⟨fun N xa xl xc x2b x2o s3b s3o x8 mm => x2b = b2 ∧ x2o = 0 ∧ s3b = b3 ∧ s3o = 0 ∧ xa = a ∧ xl = l ∧ xc = c ∧ ∃ k : Nat, x8 = k ∧ N = l - k ∧ k ≤ l ∧
    mm b3 = some (.cells (cells4 (inB (bs.take k))) T_api_Set (0, 0)) ∧ mm b2 = some (.cells #[.int .u64 0, .int .u64 0, .int .u64 0, .int .u64 0] T_api_Set (0, 0)) ∧ Le m mm, l,
    ⟨rfl, rfl, rfl, rfl, rfl, rfl, rfl, 0, rfl, rfl, by omega, ?_, ?_, ?_⟩, ?_⟩
  · rw [set_same]; rw [List.take_zero, zero4]
  · rw [set_other _ _ hne.symm, set_same]
  · exact (Le.set hb2 _).trans (Le.set hb3 _)
  rintro N xa xl xc x2b x2o s3b s3o x8 mm ⟨rfl, rfl, rfl, rfl, rfl, rfl, rfl, k, rfl, rfl, hk, hs, h2, hle⟩
  refine BrD (fun hlt => ?_) (fun hge => ?_)
  · have hk' : k < bs.length := by omega
    have hcl : bs[k].toNat < 256 := by have := UInt8.toNat_lt bs[k]; omega
    refine ⟨mm, Le.refl _, ?_⟩
    refine IxS.u8s (hb.le hle) hl (by omega) (by omega) ?_
    intro x hx
    rw [Int.toNat_natCast, List.getElem?_eq_getElem hk'] at hx
    cases hx
    refine UnI.mk ?_
    rw [byte_div hcl]
    refine ⟨by omega, by omega, ?_⟩
    refine LdV.of hs (v := .int .u64 (L (inB (bs.take k)) (bs[k].toNat / 64))) (by rw [show 0 + ((bs[k].toNat / 64 : Nat) : Int).toNat * 1 = bs[k].toNat / 64 by omega]; exact limb_get (by omega)) ?_
    refine UnI.mk ?_
    refine IxS.u8s (hb.le hle) hl (by omega) (by omega) ?_
    intro x hx
    rw [Int.toNat_natCast, List.getElem?_eq_getElem hk'] at hx
    cases hx
    refine UnI.mk ?_
    rw [byte_mod]
    refine NnI.mk (by omega) ⟨by omega, by omega, ?_⟩
    refine St1.to (cells4 (inB (bs.take (k + 1)))) hs (by show _ < 4; omega) rfl ?_ ?_
    · rw [show 0 + ((bs[k].toNat / 64 : Nat) : Int).toNat * 1 = bs[k].toNat / 64 by omega, limb_set _ hcl, inB_take hk']
    refine ⟨_, ?_, rfl, rfl, rfl, rfl, rfl, rfl, rfl, k + 1, ?_, rfl, by omega, set_same _ _ _, ?_, ?_⟩
    · omega
    · rw [wi (by omega) (by omega)]; omega
    · rw [set_other _ _ hne.symm]; exact h2
    · exact Chg.to_le (Chg.set mm _ _) hle (fun b e => by rw [show b = s3b from e]; exact hm3)
  · have : k = bs.length := by omega
    subst this
    rw [List.take_length] at hs
    refine get4 hs ?_
    refine out4 h2 ?_
    exact h _ (Chg.to_le (Chg.set mm _ _) hle (fun b e => by rw [show b = x2b from e]; exact hb2))

theorem eU8 : ElemOK P T_sl_uint8 T_uint8 (.int .u8 0) 1 1 := .of (by kernel_rfl) (by kernel_rfl) rfl
/-- A row of bytes under way, new over ms. -/
structure RwB (ms mm : Mem) (a : Option Addr) (l c : Nat) (bs : List UInt8) : Prop where
  le : Le ms mm
  own : Own mm T_uint8 1 a l c (u8s bs)
  fr : Fresh ms a
theorem RwB.nil {ms mm : Mem} (h : Le ms mm) : RwB ms mm none 0 0 [] := ⟨h, Own.nil _ _ _, Fresh.none _⟩
theorem RwB.len {ms mm : Mem} {a : Option Addr} {l c : Nat} {bs : List UInt8} (h : RwB ms mm a l c bs) : bs.length = l := by have := h.own.1; simpa [u8s] using this
theorem RwB.mono {ms mm mm' : Mem} {a : Option Addr} {l c : Nat} {bs : List UInt8} (h : RwB ms mm a l c bs) (k : Le mm mm') : RwB ms mm' a l c bs := ⟨h.le.trans k, Own.le k h.own, h.fr⟩
theorem RwB.push {ms mm : Mem} {a : Option Addr} {l c : Nat} {bs : List UInt8} (h : RwB ms mm a l c bs) (x : UInt8) (hlen : l ≤ 1000000000)
    {ty : TypeId} {cs : Array Bool} {K : Value → Mem → Prop} {Pn : List PanicEntry → Mem → Prop}
    (k : ∀ a' c' m', RwB ms m' a' (l + 1) c' (bs ++ [x]) → K (.slice a' (l + 1) c') m') :
    ∀ b, mm b = none → BiN P .append #[T_sl_uint8, T_sl_uint8] ty cs #[.slice a l c, .slice (some ⟨b, 0, none⟩) 1 1] (mm.set b (.cells #[.int .u8 x.toNat] T_uint8 (0, 0))) K Pn := by
  refine push_one eU8 h.own rfl hlen (by omega) ?_
  intro a' c' m' hch ho hb
  refine k a' c' m' ⟨hch.to_le h.le (fun b e => h.fr b e), by simpa [u8s] using ho, ?_⟩
  rcases hb with hb | hb
  · intro b e; exact h.fr b (hb ▸ e)
  · exact Fresh.le h.le hb

/-- The bytes from one on. -/
def rng (a k : Nat) : List UInt8 := (List.range' a k).map UInt8.ofNat
theorem rng_len (a k : Nat) : (rng a k).length = k := by simp [rng]
theorem rng_succ (a k : Nat) : rng a (k + 1) = rng a k ++ [UInt8.ofNat (a + k)] := by simp [rng, List.range'_concat]
theorem inB_rng {a k : Nat} (h : a + k ≤ 256) (c : Nat) : inB (rng a k) c = (decide (a ≤ c) && decide (c < a + k)) := by
  induction k with
  | zero =>
    have : ¬ (a ≤ c ∧ c < a + 0) := by omega
    simp only [Nat.add_zero] at this ⊢
    by_cases h1 : a ≤ c
    · have : ¬ c < a := by omega
      simp [inB, rng, h1, this]
    · simp [inB, rng, h1]
  | succ k ih =>
    have ih := ih (by omega)
    have e : inB (rng a (k + 1)) c = (inB (rng a k) c || c == a + k) := by
      unfold inB
      rw [rng_succ, List.any_append]
      have : (UInt8.ofNat (a + k)).toNat = a + k := by rw [UInt8.toNat_ofNat']; omega
      rw [List.any_cons, List.any_nil, this, Bool.or_false]
    rw [e, ih]
    rw [Bool.eq_iff_iff]
    simp only [Bool.or_eq_true, Bool.and_eq_true, decide_eq_true_eq, beq_iff_eq]
    omega

/-- The bytes from one to another one. -/
abbrev fromTo (a b : Nat) : Nat → Bool := fun c => decide (a ≤ c) && decide (c ≤ b)
theorem run_spec {a b : Nat} (ha : a < 256) (hb : b < 256) {m : Mem} {R : Ending → Mem → Prop} (h : ∀ m', Le m m' → R (.returned (setv (fromTo a b))) m') :
    HC P class_run.id #[.int .u8 (a : Int), .int .u8 (b : Int)] m R := by
  refine class_run.ok _ _ _ _ ?_
  intro b4 hb4
  rw [wi (n := (a : Int)) (by omega) (by omega)]
  have hle0 := Le.set hb4 (.cells #[.int .u64 0, .int .u64 0, .int .u64 0, .int .u64 0] T_api_Set (0, 0))
  generalize hms : m.set b4 (.cells #[.int .u64 0, .int .u64 0, .int .u64 0, .int .u64 0] T_api_Set (0, 0)) = ms at hle0
  have h4 : ms b4 = some (.cells #[.int .u64 0, .int .u64 0, .int .u64 0, .int .u64 0] T_api_Set (0, 0)) := by rw [← hms]; exact set_same _ _ _
  refine ⟨fun N b1 x4b x4o la ll lc c6 mm => b1 = b ∧ x4b = b4 ∧ x4o = 0 ∧ ∃ k : Nat, ll = k ∧ c6 = ((a + k : Nat) : Int) ∧ N = 256 - k ∧ (k = 0 ∨ a + k ≤ b + 1) ∧ RwB ms mm la k lc (rng a k), 256,
    ⟨rfl, rfl, rfl, 0, rfl, rfl, rfl, .inl rfl, RwB.nil (Le.refl _)⟩, ?_⟩
  rintro N b1 x4b x4o la ll lc c6 mm ⟨rfl, rfl, rfl, k, rfl, rfl, rfl, hk, hr⟩
  unfold class_run.l1B
  rw [wi (n := (b : Int)) (by omega) (by omega)]
  refine BrD (fun hlt => ?_) (fun hge => ?_)
  · have hw : IntKind.u8.wrap ((a + ll : Nat) : Int) = (((UInt8.ofNat (a + ll)).toNat : Nat) : Int) := by
      rw [IntKind.wrap_u8, UInt8.toNat_ofNat']; omega
    rw [hw]
    refine hr.push _ (by omega) ?_
    intro a' c' m' hr'
    refine UnS.mk ?_
    refine ⟨_, ?_, rfl, rfl, rfl, ll + 1, rfl, ?_, rfl, .inr (by omega), by rw [rng_succ]; exact hr'⟩
    · omega
    · rw [wi (by omega) (by omega)]; omega
  · have hlen : (rng a ll).length = ll := rng_len a ll
    refine Of_spec hr.own.cells hlen (by omega) ?_
    intro m' hle
    refine ContSet.mk ?_
    refine out4 (hle _ _ (hr.le _ _ h4)) ?_
    have hk := h _ (Chg.to_le (Chg.set m' x4b (cells4 (inB (rng a ll)) |> fun c => .cells c T_api_Set (0, 0))) ((hle0.trans hr.le).trans hle) (fun b e => by rw [show b = x4b from e]; exact hb4))
    have e : setv (inB (rng a ll)) = setv (fromTo a b) := setv_eq fun c hc => by
      by_cases hab : a + ll ≤ 256
      · rw [inB_rng hab, Bool.eq_iff_iff]
        simp only [Bool.and_eq_true, decide_eq_true_eq]
        omega
      · omega
    show R (.returned (setv (inB (rng a ll)))) _
    rw [e]
    exact hk
end Go.E
