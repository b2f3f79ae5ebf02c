/- Classes: Parse, what it answers. -/
import Derived.Test.YtpbnhcggfgegkaaDoorSC4
set_option linter.unusedVariables false
set_option linter.unusedSimpArgs false
namespace Go.E
open Go.H
attribute [local irreducible] BiN MkS ConvN LookN MapUpN CallV HC limb dbTab

/-- Three results under way. -/
structure PS (m mm : Mem) (b2 b3 b4 : Nat) (c2 : Array Value) (n e : Int) : Prop where
  le : Le m mm
  a2 : mm b2 = some (.cells c2 T_api_Set (0, 0))
  a3 : mm b3 = some (.cells #[.int .i64 n] T_int (0, 0))
  a4 : mm b4 = some (.cells #[.int .i64 e] T_api_Errno (0, 0))
  n23 : b2 ≠ b3
  n24 : b2 ≠ b4
  n34 : b3 ≠ b4
  w2 : m b2 = none
  w3 : m b3 = none
  w4 : m b4 = none
section
variable {m mm m' : Mem} {b2 b3 b4 : Nat} {c2 : Array Value} {n e : Int}
theorem PS.step (h : PS m mm b2 b3 b4 c2 n e) {r : Nat} (hr : m r = none) (h2 : b2 ≠ r) (h3 : b3 ≠ r) (h4 : b4 ≠ r) (k : Chg (fun b => b = r) mm m') : PS m m' b2 b3 b4 c2 n e :=
  ⟨k.to_le h.le (fun b x => by rw [show b = r from x]; exact hr), k.eq _ _ h.a2 h2, k.eq _ _ h.a3 h3, k.eq _ _ h.a4 h4, h.n23, h.n24, h.n34, h.w2, h.w3, h.w4⟩
theorem PS.mono (h : PS m mm b2 b3 b4 c2 n e) (k : Le mm m') : PS m m' b2 b3 b4 c2 n e :=
  ⟨h.le.trans k, k _ _ h.a2, k _ _ h.a3, k _ _ h.a4, h.n23, h.n24, h.n34, h.w2, h.w3, h.w4⟩
theorem PS.p2 (h : PS m mm b2 b3 b4 c2 n e) (c : Array Value) : PS m (mm.set b2 (.cells c T_api_Set (0, 0))) b2 b3 b4 c n e :=
  ⟨Chg.to_le (Chg.set mm _ _) h.le (fun b x => by rw [show b = b2 from x]; exact h.w2), set_same _ _ _, by rw [set_other _ _ h.n23.symm]; exact h.a3, by rw [set_other _ _ h.n24.symm]; exact h.a4, h.n23, h.n24, h.n34, h.w2, h.w3, h.w4⟩
theorem PS.p3 (h : PS m mm b2 b3 b4 c2 n e) (c : Int) : PS m (mm.set b3 (.cells #[.int .i64 c] T_int (0, 0))) b2 b3 b4 c2 c e :=
  ⟨Chg.to_le (Chg.set mm _ _) h.le (fun b x => by rw [show b = b3 from x]; exact h.w3), by rw [set_other _ _ h.n23]; exact h.a2, set_same _ _ _, by rw [set_other _ _ h.n34.symm]; exact h.a4, h.n23, h.n24, h.n34, h.w2, h.w3, h.w4⟩
theorem PS.p4 (h : PS m mm b2 b3 b4 c2 n e) (c : Int) : PS m (mm.set b4 (.cells #[.int .i64 c] T_api_Errno (0, 0))) b2 b3 b4 c2 n c :=
  ⟨Chg.to_le (Chg.set mm _ _) h.le (fun b x => by rw [show b = b4 from x]; exact h.w4), by rw [set_other _ _ h.n24]; exact h.a2, by rw [set_other _ _ h.n34]; exact h.a3, set_same _ _ _, h.n23, h.n24, h.n34, h.w2, h.w3, h.w4⟩
theorem PS.out {u0 u1 u2 u3 : Int} (h : PS m mm b2 b3 b4 #[.int .u64 u0, .int .u64 u1, .int .u64 u2, .int .u64 u3] n e) {R : Ending → Mem → Prop} (k : R (.returned (.tuple #[.agg #[.int .u64 u0, .int .u64 u1, .int .u64 u2, .int .u64 u3], .int .i64 n, .int .i64 e])) mm) :
    outP b2 b3 b4 R mm := get4 h.a2 (LdV.s0 h.a3 (UnI.mk (LdV.s0 h.a4 (UnI.mk k))))
theorem PS.fail {x0 x1 x2 x3 : Value} (h : PS m mm b2 b3 b4 #[x0, x1, x2, x3] n e) {R : Ending → Mem → Prop} (k : ∀ m', Le m m' → R (.returned (.tuple #[setv fun _ => false, .int .i64 0, .int .i64 2])) m') :
    DefR P class_Parse_1.id #[class_Parse_1.ptr b2, class_Parse_1.ptr b3, class_Parse_1.ptr b4] (outP b2 b3 b4 R) pan mm := by
  refine ⟨refusal, rfl, class_Parse_1.df_some _ _ _ _ _ ?_⟩
  intro b hb
  have h1 := h.mono (Le.set hb (.cells #[] T_class_refusal (0, 0)))
  refine put4 h1.a2 ?_
  have h2 := h1.p2 z4
  refine St1.to #[.int .i64 0] h2.a3 (by simp) rfl rfl ?_
  have h3 := h2.p3 0
  refine St1.to #[.int .i64 2] h3.a4 (by simp) rfl rfl ?_
  have h4 := h3.p4 2
  refine h4.out ?_
  have := k _ h4.le
  have hz : (setv fun _ => false) = .agg z4 := by unfold setv; rw [L_zero, L_zero, L_zero, L_zero]
  rw [hz] at this
  exact this
end

theorem empty_all {S : Nat → Bool} (h : emptyS S = true) : ∀ b, b < 256 → S b = false := by
  intro b hb
  unfold emptyS at h
  rw [List.all_eq_true] at h
  have := h b (by simpa using hb)
  simpa using this
theorem empty_ex {S : Nat → Bool} (h : ¬ emptyS S = true) : ∃ t, t < 256 ∧ S t = true ∧ ∀ j, j < t → S j = false := by
  have hex : ∃ t, t < 256 ∧ S t = true := by
    apply Decidable.byContradiction
    intro hn
    refine h ?_
    unfold emptyS
    rw [List.all_eq_true]
    intro b hb
    have hb : b < 256 := by simpa using hb
    cases hS : S b with
    | false => rfl
    | true => exact absurd ⟨b, hb, hS⟩ hn
  obtain ⟨t, ht⟩ := hex
  obtain ⟨k, hk, hm⟩ := least (p := fun t => t < 256 ∧ S t = true) ht
  refine ⟨k, hk.1, hk.2, fun j hj => ?_⟩
  have := hm j hj
  cases hS : S j with
  | false => rfl
  | true => exact absurd ⟨by omega, hS⟩ this

theorem ContTB.mk {a : Int} {b : Bool} {K : Int → Bool → Mem → Prop} {Pn : List PanicEntry → Mem → Prop} {m : Mem} (k : K a b m) :
    Cont (fun v m => UnTup v fun us0 => UnCons us0 fun w us1 => UnI w .u8 fun x0 => UnCons us1 fun w us2 => UnB w fun x1 => UnNil us2 (K x0 x1 m)) Pn (.returned (.tuple #[.int .u8 a, .bool b])) m := k
theorem Parse_spec {s : ByteArray} {m : Mem} (hG : Glob m) (hs : s.size < 2 ^ 62) {R : Ending → Mem → Prop}
    (k : ∀ S e, cls (lst s) = some (S, e) → ∀ m', Le m m' → R (.returned (.tuple #[setv S, .int .i64 (e : Nat), .int .i64 0])) m')
    (kp : cls (lst s) = none → ∀ m', Le m m' → R (.returned (.tuple #[setv fun _ => false, .int .i64 0, .int .i64 2])) m') :
    HC P class_Parse.id #[.string s] m R := by
  refine class_Parse.okD _ _ _ ?_
  intro b2 h2 b3 h3 b4 h4
  have n32 : b3 ≠ b2 := fun e => by subst e; rw [set_same] at h3; cases h3
  have n43 : b4 ≠ b3 := fun e => by subst e; rw [set_same] at h4; cases h4
  have n42 : b4 ≠ b2 := fun e => by subst e; rw [set_other _ _ n32.symm, set_same] at h4; cases h4
  have w3 : m b3 = none := by rw [set_other _ _ n32] at h3; exact h3
  have w4 : m b4 = none := by rw [set_other _ _ n43, set_other _ _ n42] at h4; exact h4
  have p0 : PS m (((m.set b2 (.cells z4 T_api_Set (0, 0))).set b3 (.cells #[.int .i64 0] T_int (0, 0))).set b4 (.cells #[.int .i64 0] T_api_Errno (0, 0))) b2 b3 b4 z4 0 0 :=
    ⟨((Le.set h2 _).trans (Le.set h3 _)).trans (Le.set h4 _), by rw [set_other _ _ n42.symm, set_other _ _ n32.symm, set_same], by rw [set_other _ _ n43.symm, set_same], set_same _ _ _, n32.symm, n42.symm, n43.symm, h2, w3, w4⟩
  generalize ((m.set b2 (.cells z4 T_api_Set (0, 0))).set b3 (.cells #[.int .i64 0] T_int (0, 0))).set b4 (.cells #[.int .i64 0] T_api_Errno (0, 0)) = m3 at p0
  intro r hr
  have p1 := p0.mono (Le.set hr (.cells #[.string s, .int .i64 0] T_class_reader (0, 0)))
  have hrm : m r = none := p0.le.new hr
  have e2 : b2 ≠ r := fun e => by subst e; rw [p0.a2] at hr; cases hr
  have e3 : b3 ≠ r := fun e => by subst e; rw [p0.a3] at hr; cases hr
  have e4 : b4 ≠ r := fun e => by subst e; rw [p0.a4] at hr; cases hr
  unfold cls at k kp
  refine class_spec (r := r) (s := s) (set_same _ _ _) hs (fun S e hc m4 hch hr4 => ?_) (fun hc m4 hch => ?_)
  rotate_left
  · rw [hc] at kp
    exact (p1.step hrm e2 e3 e4 hch).fail (kp rfl)
  rw [hc] at k kp
  dsimp only at k kp
  have p2 := p1.step hrm e2 e3 e4 hch
  refine ContSet.mk ?_
  refine put4 p2.a2 ?_
  have p3 := p2.p2 (cells4 S)
  refine get4 p3.a2 ?_
  by_cases hem : emptyS S = true
  · rw [if_pos hem] at kp
    refine Least_none (empty_all hem) ?_
    intro m5 hle5
    refine ContTB.mk ?_
    exact (p3.mono hle5).fail (kp rfl)
  · rw [if_neg hem] at k
    obtain ⟨t, ht, hf, hl⟩ := empty_ex hem
    refine Least_some ht hf hl (hG.le p3.le) ?_
    intro m5 hle5
    have p4 := p3.mono hle5
    have hr5 : rdr m5 r s e := hle5 _ _ (by rw [set_other _ _ e2.symm]; exact hr4)
    refine ContTB.mk ?_
    refine ⟨m5, Le.refl _, ?_⟩
    refine get4 p4.a2 ?_
    refine LdV.s1 hr5 (UnI.mk ?_)
    refine put4 p4.a2 ?_
    have p5 := p4.p2 (cells4 S)
    refine ⟨_, ?_, Le.refl _, ?_⟩
    · intro b o hb
      by_cases eb : b = b2
      · subst eb; rw [p4.a2] at hb; cases hb; exact set_same _ _ _
      · rw [set_other _ _ eb]; exact hb
    refine St1.to #[.int .i64 (e : Nat)] p5.a3 (by simp) rfl rfl ?_
    have p6 := p5.p3 (e : Nat)
    refine St1.to #[.int .i64 0] p6.a4 (by simp) rfl rfl ?_
    have p7 := p6.p4 0
    refine class_Parse_1.df_none _ _ _ _ _ ?_
    intro b hb
    have p8 := p7.mono (Le.set hb (.cells #[] T_class_refusal (0, 0)))
    exact p8.out (k S e rfl _ p8.le)
end Go.E
