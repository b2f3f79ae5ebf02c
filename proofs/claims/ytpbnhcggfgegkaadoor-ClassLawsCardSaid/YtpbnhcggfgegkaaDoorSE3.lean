/- Sets of bytes: Go's functions with, Or, And, Not, Has. -/
import Derived.Test.YtpbnhcggfgegkaaDoorSE2
import Derived.Test.YtpbnhcggfgegkaaDoorH11
import Derived.Test.YtpbnhcggfgegkaaDoorG8c
set_option linter.unusedVariables false
set_option linter.unusedSimpArgs false
namespace Go.E
open Go.H
attribute [local irreducible] BiN MkS ConvN LookN MapUpN CallV HC

theorem St1.four {m : Mem} {b : Nat} {x0 x1 x2 x3 u0 u1 u2 u3 : Value} {e : TypeId} {K : Mem → Prop} (h : m b = some (.cells #[x0, x1, x2, x3] e (0, 0))) (h0 : notOne u0 = false) (h1 : notOne u1 = false) (h2 : notOne u2 = false) (h3 : notOne u3 = false)
    (k : K (m.set b (.cells #[u0, u1, u2, u3] e (0, 0)))) : St1 m b 0 u0 fun m1 => St1 m1 b 1 u1 fun m2 => St1 m2 b 2 u2 fun m3 => St1 m3 b 3 u3 K := by
  refine St1.to #[u0, x1, x2, x3] h (by simp) h0 rfl ?_
  refine St1.to #[u0, u1, x2, x3] (set_same _ _ _) (by simp) h1 rfl ?_
  rw [set_set]
  refine St1.to #[u0, u1, u2, x3] (set_same _ _ _) (by simp) h2 rfl ?_
  rw [set_set]
  refine St1.to #[u0, u1, u2, u3] (set_same _ _ _) (by simp) h3 rfl ?_
  rw [set_set]
  exact k
theorem get4 {m : Mem} {b : Nat} {u0 u1 u2 u3 : Int} {e : TypeId} {fr : Nat × Nat} {K : Int → Int → Int → Int → Prop} (h : m b = some (.cells #[.int .u64 u0, .int .u64 u1, .int .u64 u2, .int .u64 u3] e fr)) (k : K u0 u1 u2 u3) :
    LdV m b 0 fun v => UnI v .u64 fun x0 => LdV m b 1 fun v => UnI v .u64 fun x1 => LdV m b 2 fun v => UnI v .u64 fun x2 => LdV m b 3 fun v => UnI v .u64 fun x3 => K x0 x1 x2 x3 :=
  LdV.s0 h (LdV.s1 h (LdV.s2 h (LdV.s3 h k)))
theorem put4 {m : Mem} {b : Nat} {x0 x1 x2 x3 : Value} {u0 u1 u2 u3 : Int} {e : TypeId} {K : Mem → Prop} (h : m b = some (.cells #[x0, x1, x2, x3] e (0, 0)))
    (k : K (m.set b (.cells #[.int .u64 u0, .int .u64 u1, .int .u64 u2, .int .u64 u3] e (0, 0)))) : St1 m b 0 (.int .u64 u0) fun m1 => St1 m1 b 1 (.int .u64 u1) fun m2 => St1 m2 b 2 (.int .u64 u2) fun m3 => St1 m3 b 3 (.int .u64 u3) K :=
  St1.four h rfl rfl rfl rfl k
/-- A result is stored into its own place and read back. -/
theorem out4 {m : Mem} {b : Nat} {x0 x1 x2 x3 : Value} {u0 u1 u2 u3 : Int} {e : TypeId} {K : Int → Int → Int → Int → Mem → Prop} (h : m b = some (.cells #[x0, x1, x2, x3] e (0, 0)))
    (k : K u0 u1 u2 u3 (m.set b (.cells #[.int .u64 u0, .int .u64 u1, .int .u64 u2, .int .u64 u3] e (0, 0)))) :
    St1 m b 0 (.int .u64 u0) fun m1 => St1 m1 b 1 (.int .u64 u1) fun m2 => St1 m2 b 2 (.int .u64 u2) fun m3 => St1 m3 b 3 (.int .u64 u3) fun m4 =>
    LdV m4 b 0 fun v => UnI v .u64 fun x0 => LdV m4 b 1 fun v => UnI v .u64 fun x1 => LdV m4 b 2 fun v => UnI v .u64 fun x2 => LdV m4 b 3 fun v => UnI v .u64 fun x3 => K x0 x1 x2 x3 m4 :=
  put4 h (get4 (set_same _ _ _) k)
theorem UnSet.mk {u0 u1 u2 u3 : Int} {K : Int → Int → Int → Int → Prop} (k : K u0 u1 u2 u3) :
    UnAgg (.agg #[.int .u64 u0, .int .u64 u1, .int .u64 u2, .int .u64 u3]) fun l => UnCons l fun v l => UnI v .u64 fun x0 => UnCons l fun v l => UnI v .u64 fun x1 => UnCons l fun v l => UnI v .u64 fun x2 => UnCons l fun v l => UnI v .u64 fun x3 => UnNil l (K x0 x1 x2 x3) := k
theorem ContSet.mk {u0 u1 u2 u3 : Int} {K : Int → Int → Int → Int → Mem → Prop} {Pn : List PanicEntry → Mem → Prop} {m : Mem} (k : K u0 u1 u2 u3 m) :
    Cont (fun v m => UnAgg v fun l => UnCons l fun v l => UnI v .u64 fun x0 => UnCons l fun v l => UnI v .u64 fun x1 => UnCons l fun v l => UnI v .u64 fun x2 => UnCons l fun v l => UnI v .u64 fun x3 => UnNil l (K x0 x1 x2 x3 m)) Pn
      (.returned (.agg #[.int .u64 u0, .int .u64 u1, .int .u64 u2, .int .u64 u3])) m := k

theorem with_spec {fid : FuncId} {op : Int → Int → Int} (hop : ∀ (m : Mem) (x y : Int) (R : Ending → Mem → Prop), R (.returned (.int .u64 (op x y))) m → HC P fid #[.int .u64 x, .int .u64 y] m R)
    {a0 a1 a2 a3 b0 b1 b2 b3 : Int} {m : Mem} {R : Ending → Mem → Prop}
    (h : ∀ m', Le m m' → R (.returned (.agg #[.int .u64 (op a0 b0), .int .u64 (op a1 b1), .int .u64 (op a2 b2), .int .u64 (op a3 b3)])) m') :
    HC P class_with.id #[.agg #[.int .u64 a0, .int .u64 a1, .int .u64 a2, .int .u64 a3], .agg #[.int .u64 b0, .int .u64 b1, .int .u64 b2, .int .u64 b3], .func (.func fid) #[] #[]] m R := by
  refine class_with.ok _ _ _ _ _ _ _ _ _ _ _ ?_
  intro ba hba bb hbb b6 hb6
  have hx1 : Le m (m.set ba (.cells #[.int .u64 a0, .int .u64 a1, .int .u64 a2, .int .u64 a3] T_api_Set (0, 0))) := Le.set hba _
  have hne1 : bb ≠ ba := fun e => by subst e; rw [set_same] at hbb; cases hbb
  have hne2 : b6 ≠ bb := fun e => by subst e; rw [set_same] at hb6; cases hb6
  have hne3 : b6 ≠ ba := fun e => by subst e; rw [set_other _ _ hne1.symm, set_same] at hb6; cases hb6
  have hmb : m bb = none := by rw [set_other _ _ hne1] at hbb; exact hbb
  have hm6 : m b6 = none := by rw [set_other _ _ hne2, set_other _ _ hne3] at hb6; exact hb6
  let W : Nat → Nat → Int → Int → Int := fun i j x y => if j < i then op x y else x
  refine ⟨fun N f a3b a3o b4b b4o x6b x6o i mm => f = .func (.func fid) #[] #[] ∧ a3b = ba ∧ a3o = 0 ∧ b4b = bb ∧ b4o = 0 ∧ x6b = b6 ∧ x6o = 0 ∧ ∃ k : Nat, i = k ∧ N = 4 - k ∧ k ≤ 4 ∧
    mm ba = some (.cells #[.int .u64 (W k 0 a0 b0), .int .u64 (W k 1 a1 b1), .int .u64 (W k 2 a2 b2), .int .u64 (W k 3 a3 b3)] T_api_Set (0, 0)) ∧
    mm bb = some (.cells #[.int .u64 b0, .int .u64 b1, .int .u64 b2, .int .u64 b3] T_api_Set (0, 0)) ∧ mm b6 = some (.cells #[.int .u64 0, .int .u64 0, .int .u64 0, .int .u64 0] T_api_Set (0, 0)) ∧ Le m mm, 4,
    ⟨rfl, rfl, rfl, rfl, rfl, rfl, rfl, 0, rfl, rfl, by omega, ?_, ?_, set_same _ _ _, ?_⟩, ?_⟩
  · rw [set_other _ _ hne3.symm, set_other _ _ hne1.symm, set_same]; rfl
  · rw [set_other _ _ hne2.symm, set_same]
  · exact (hx1.trans (Le.set hbb _)).trans (Le.set hb6 _)
  rintro N f a3b a3o b4b b4o x6b x6o i mm ⟨rfl, rfl, rfl, rfl, rfl, rfl, rfl, k, rfl, rfl, hk4, hA, hB, h6, hle⟩
  refine BrD (fun hlt => ?_) (fun hge => ?_)
  · have hk : k < 4 := by omega
    refine ⟨mm, Le.refl _, ?_⟩
    refine ⟨by omega, by omega, ?_⟩
    have hk' : k = 0 ∨ k = 1 ∨ k = 2 ∨ k = 3 := by omega
    rcases hk' with rfl | rfl | rfl | rfl
    · refine LdV.of hA rfl ?_
      refine ⟨by omega, by omega, ?_⟩
      refine LdV.of hB rfl ?_
      refine CallV.of ?_
      refine hop _ _ _ _ ?_
      refine ⟨by omega, by omega, ?_⟩
      refine St1.to #[.int .u64 (W 1 0 a0 b0), .int .u64 (W 1 1 a1 b1), .int .u64 (W 1 2 a2 b2), .int .u64 (W 1 3 a3 b3)] hA (by simp) rfl rfl ?_
      refine ⟨_, ?_, rfl, rfl, rfl, rfl, rfl, rfl, rfl, 1, ?_, rfl, by omega, set_same _ _ _, ?_, ?_, ?_⟩
      · omega
      · rw [wi (by omega) (by omega)]; rfl
      · rw [set_other _ _ hne1]; exact hB
      · rw [set_other _ _ hne3]; exact h6
      · exact Chg.to_le (Chg.set mm _ _) hle (fun b e => by rw [show b = a3b from e]; exact hba)
    · refine LdV.of hA rfl ?_
      refine ⟨by omega, by omega, ?_⟩
      refine LdV.of hB rfl ?_
      refine CallV.of ?_
      refine hop _ _ _ _ ?_
      refine ⟨by omega, by omega, ?_⟩
      refine St1.to #[.int .u64 (W 2 0 a0 b0), .int .u64 (W 2 1 a1 b1), .int .u64 (W 2 2 a2 b2), .int .u64 (W 2 3 a3 b3)] hA (by simp) rfl rfl ?_
      refine ⟨_, ?_, rfl, rfl, rfl, rfl, rfl, rfl, rfl, 2, ?_, rfl, by omega, set_same _ _ _, ?_, ?_, ?_⟩
      · omega
      · rw [wi (by omega) (by omega)]; rfl
      · rw [set_other _ _ hne1]; exact hB
      · rw [set_other _ _ hne3]; exact h6
      · exact Chg.to_le (Chg.set mm _ _) hle (fun b e => by rw [show b = a3b from e]; exact hba)
    · refine LdV.of hA rfl ?_
      refine ⟨by omega, by omega, ?_⟩
      refine LdV.of hB rfl ?_
      refine CallV.of ?_
      refine hop _ _ _ _ ?_
      refine ⟨by omega, by omega, ?_⟩
      refine St1.to #[.int .u64 (W 3 0 a0 b0), .int .u64 (W 3 1 a1 b1), .int .u64 (W 3 2 a2 b2), .int .u64 (W 3 3 a3 b3)] hA (by simp) rfl rfl ?_
      refine ⟨_, ?_, rfl, rfl, rfl, rfl, rfl, rfl, rfl, 3, ?_, rfl, by omega, set_same _ _ _, ?_, ?_, ?_⟩
      · omega
      · rw [wi (by omega) (by omega)]; rfl
      · rw [set_other _ _ hne1]; exact hB
      · rw [set_other _ _ hne3]; exact h6
      · exact Chg.to_le (Chg.set mm _ _) hle (fun b e => by rw [show b = a3b from e]; exact hba)
    · refine LdV.of hA rfl ?_
      refine ⟨by omega, by omega, ?_⟩
      refine LdV.of hB rfl ?_
      refine CallV.of ?_
      refine hop _ _ _ _ ?_
      refine ⟨by omega, by omega, ?_⟩
      refine St1.to #[.int .u64 (W 4 0 a0 b0), .int .u64 (W 4 1 a1 b1), .int .u64 (W 4 2 a2 b2), .int .u64 (W 4 3 a3 b3)] hA (by simp) rfl rfl ?_
      refine ⟨_, ?_, rfl, rfl, rfl, rfl, rfl, rfl, rfl, 4, ?_, rfl, by omega, set_same _ _ _, ?_, ?_, ?_⟩
      · omega
      · rw [wi (by omega) (by omega)]; rfl
      · rw [set_other _ _ hne1]; exact hB
      · rw [set_other _ _ hne3]; exact h6
      · exact Chg.to_le (Chg.set mm _ _) hle (fun b e => by rw [show b = a3b from e]; exact hba)
  · have hk : k = 4 := by omega
    subst hk
    refine get4 hA ?_
    refine out4 h6 ?_
    exact h _ (Chg.to_le (Chg.set mm _ _) hle (fun b e => by rw [show b = x6b from e]; exact hm6))
theorem Or_spec {f g : Nat → Bool} {m : Mem} {R : Ending → Mem → Prop} (h : ∀ m', Le m m' → R (.returned (setv fun b => f b || g b)) m') : HC P class_Or.id #[setv f, setv g] m R := by
  refine class_Or.ok _ _ _ _ _ _ _ _ _ _ ?_
  intro ba hba bb hbb b4 hb4
  have hne : bb ≠ ba := fun e => by subst e; rw [set_same] at hbb; cases hbb
  have hne2 : b4 ≠ bb := fun e => by subst e; rw [set_same] at hb4; cases hb4
  have hne3 : b4 ≠ ba := fun e => by subst e; rw [set_other _ _ hne.symm, set_same] at hb4; cases hb4
  have hm4 : m b4 = none := by rw [set_other _ _ hne2, set_other _ _ hne3] at hb4; exact hb4
  have hle := ((Le.set hba (.cells #[.int .u64 (L f 0), .int .u64 (L f 1), .int .u64 (L f 2), .int .u64 (L f 3)] T_api_Set (0, 0))).trans (Le.set hbb (.cells #[.int .u64 (L g 0), .int .u64 (L g 1), .int .u64 (L g 2), .int .u64 (L g 3)] T_api_Set (0, 0)))).trans (Le.set hb4 (.cells #[.int .u64 0, .int .u64 0, .int .u64 0, .int .u64 0] T_api_Set (0, 0)))
  refine get4 (by rw [set_other _ _ hne3.symm, set_other _ _ hne.symm, set_same]) ?_
  refine get4 (by rw [set_other _ _ hne2.symm, set_same]) ?_
  refine with_spec (op := bitsV .or .u64) (fun m x y R k => class_Or_1.ok _ _ _ _ k) ?_
  intro m' hle'
  refine ContSet.mk ?_
  refine out4 (hle' _ _ (set_same _ _ _)) ?_
  have hk := h _ (Chg.to_le (Chg.set m' b4 (.cells #[.int .u64 (bitsV .or .u64 (L f 0) (L g 0)), .int .u64 (bitsV .or .u64 (L f 1) (L g 1)), .int .u64 (bitsV .or .u64 (L f 2) (L g 2)), .int .u64 (bitsV .or .u64 (L f 3) (L g 3))] T_api_Set (0, 0))) (hle.trans hle') (fun b e => by rw [show b = b4 from e]; exact hm4))
  simp only [L_or] at hk ⊢
  exact hk
theorem Not_spec {f : Nat → Bool} {m : Mem} {R : Ending → Mem → Prop} (h : ∀ m', Le m m' → R (.returned (setv fun b => !f b)) m') : HC P class_Not.id #[setv f] m R := by
  refine class_Not.ok _ _ _ _ _ _ ?_
  intro ba hba b4 hb4
  have hne3 : b4 ≠ ba := fun e => by subst e; rw [set_same] at hb4; cases hb4
  have hm4 : m b4 = none := by rw [set_other _ _ hne3] at hb4; exact hb4
  have hle := (Le.set hba (.cells #[.int .u64 (L f 0), .int .u64 (L f 1), .int .u64 (L f 2), .int .u64 (L f 3)] T_api_Set (0, 0))).trans (Le.set hb4 (.cells #[.int .u64 0, .int .u64 0, .int .u64 0, .int .u64 0] T_api_Set (0, 0)))
  refine get4 (by rw [set_other _ _ hne3.symm, set_same]) ?_
  refine get4 (by rw [set_other _ _ hne3.symm, set_same]) ?_
  refine with_spec (op := fun x _ => bitsV .xor .u64 18446744073709551615 x) (fun m x y R k => class_Not_1.ok _ _ _ _ k) ?_
  intro m' hle'
  refine ContSet.mk ?_
  refine out4 (hle' _ _ (set_same _ _ _)) ?_
  have hk := h _ (Chg.to_le (Chg.set m' b4 (.cells #[.int .u64 (bitsV .xor .u64 18446744073709551615 (L f 0)), .int .u64 (bitsV .xor .u64 18446744073709551615 (L f 1)), .int .u64 (bitsV .xor .u64 18446744073709551615 (L f 2)), .int .u64 (bitsV .xor .u64 18446744073709551615 (L f 3))] T_api_Set (0, 0))) (hle.trans hle') (fun b e => by rw [show b = b4 from e]; exact hm4))
  simp only [L_not] at hk ⊢
  exact hk

theorem byte_div {b : Nat} (hb : b < 256) : IntKind.u8.wrap (Int.tdiv (b : Int) 64) = ((b / 64 : Nat) : Int) := by
  rw [Int.tdiv_eq_ediv_of_nonneg (by omega), IntKind.wrap_u8]; omega
theorem byte_mod {b : Nat} : Int.tmod (b : Int) 64 = ((b % 64 : Nat) : Int) := by
  rw [Int.tmod_eq_emod_of_nonneg (by omega)]; omega
theorem limb_get {f : Nat → Bool} {k : Nat} (hk : k < 4) : (#[Value.int .u64 (L f 0), .int .u64 (L f 1), .int .u64 (L f 2), .int .u64 (L f 3)] : Array Value)[k]? = some (.int .u64 (L f k)) := by
  have : k = 0 ∨ k = 1 ∨ k = 2 ∨ k = 3 := by omega
  rcases this with rfl | rfl | rfl | rfl <;> rfl
theorem Has_spec {f : Nat → Bool} {b : Nat} (hb : b < 256) {m : Mem} {R : Ending → Mem → Prop} (h : ∀ m', Le m m' → R (.returned (.bool (f b))) m') : HC P class_Has.id #[setv f, .int .u8 (b : Int)] m R := by
  refine class_Has.ok _ _ _ _ _ _ _ ?_
  intro ba hba
  rw [byte_div hb, byte_mod]
  refine ⟨by omega, by omega, ?_⟩
  refine LdV.of (set_same _ _ _) (v := .int .u64 (L f (b / 64))) (by rw [show 0 + ((b / 64 : Nat) : Int).toNat * 1 = b / 64 by omega]; exact limb_get (by omega)) ?_
  refine UnI.mk (NnI.mk (by omega) ?_)
  rw [L_has _ _ (by omega), show 64 * (b / 64) + b % 64 = b by omega]
  exact h _ (Le.set hba _)
theorem RHas_spec {f : Nat → Bool} {b : Nat} (hb : b < 256) {m : Mem} {R : Ending → Mem → Prop} (h : ∀ m', Le m m' → R (.returned (.bool (f b))) m') : HC P eyotref8_Has.id #[setv f, .int .u8 (b : Int)] m R := by
  refine eyotref8_Has.ok _ _ _ _ _ _ _ ?_
  intro ba hba
  rw [byte_div hb, byte_mod]
  refine ⟨by omega, by omega, ?_⟩
  refine LdV.of (set_same _ _ _) (v := .int .u64 (L f (b / 64))) (by rw [show 0 + ((b / 64 : Nat) : Int).toNat * 1 = b / 64 by omega]; exact limb_get (by omega)) ?_
  refine UnI.mk (NnI.mk (by omega) ?_)
  rw [L_has _ _ (by omega), show 64 * (b / 64) + b % 64 = b by omega]
  exact h _ (Le.set hba _)
end Go.E
