/- Layer 8: ClassBack, ClassSigns. -/
import Derived.Test.YtpbnhcggfgegkaaDoorKP2
set_option linter.unusedVariables false
set_option linter.unusedSimpArgs false
set_option maxRecDepth 20000
namespace Go.E
open Go.H
attribute [local irreducible] BiN MkS ConvN LookN MapUpN CallV HC limb dbTab

/-- What Parse answers: a set, how long, a fault. -/
def res (o : Option ((Nat → Bool) × Nat)) : (Nat → Bool) × Nat × Nat := match o with | some (S, e) => (S, e, 0) | none => (fun _ => false, 0, 2)
theorem Parse_any {s : ByteArray} {m : Mem} (hG : Glob m) (hs : s.size < 2 ^ 62) {R : Ending → Mem → Prop}
    (k : ∀ m', Le m m' → R (.returned (.tuple #[setv (res (cls (lst s))).1, .int .i64 ((res (cls (lst s))).2.1 : Nat), .int .i64 ((res (cls (lst s))).2.2 : Nat)])) m') : HC P class_Parse.id #[.string s] m R := by
  refine Parse_spec hG hs (fun S e hc m1 hle1 => ?_) (fun hc m1 hle1 => ?_)
  · have := k m1 hle1; rw [hc] at this; exact this
  · have := k m1 hle1; rw [hc] at this; exact this
theorem wf_u64 {n : Int} (h : (Lit.int .u64 n).wf = true) : 0 ≤ n ∧ n < 18446744073709551616 := by
  have e1 : IntKind.u64.min = 0 := rfl
  have e2 : IntKind.u64.max = 18446744073709551615 := rfl
  simp only [Lit.wf, e1, e2, Bool.and_eq_true, decide_eq_true_eq] at h
  omega
theorem Arg_set {W : World} {v : Value} (h : Arg P W T_api_Set v) : ∃ f, v = setv f := by
  obtain ⟨cs, rfl, hr⟩ := h.agg (by kernel_rfl)
  obtain ⟨hl, he⟩ := Rd.array (n := 4) (e := T_uint64) (by kernel_rfl) hr
  have hc1 : P.cellsOf T_uint64 = 1 := by kernel_rfl
  have hc4 : P.cellsOf T_api_Set = 4 := by kernel_rfl
  rw [hc1] at he; rw [hc4] at hl
  match cs, hl with
  | [x0, x1, x2, x3], _ =>
    obtain ⟨n0, e0, w0⟩ := Rd.int (k := .u64) (by kernel_rfl) (he 0 (by omega))
    obtain ⟨n1, e1, w1⟩ := Rd.int (k := .u64) (by kernel_rfl) (he 1 (by omega))
    obtain ⟨n2, e2, w2⟩ := Rd.int (k := .u64) (by kernel_rfl) (he 2 (by omega))
    obtain ⟨n3, e3, w3⟩ := Rd.int (k := .u64) (by kernel_rfl) (he 3 (by omega))
    cases e0; cases e1; cases e2; cases e3
    have r : ∀ n : Int, (Lit.int .u64 n).wf = true → ∃ k : Nat, n = (k : Int) ∧ k < 18446744073709551616 := by
      intro n hn
      have hn := wf_u64 hn
      exact ⟨n.toNat, by omega, by omega⟩
    obtain ⟨k0, rfl, b0⟩ := r _ w0
    obtain ⟨k1, rfl, b1⟩ := r _ w1
    obtain ⟨k2, rfl, b2⟩ := r _ w2
    obtain ⟨k3, rfl, b3⟩ := r _ w3
    obtain ⟨f, rfl, rfl, rfl, rfl⟩ := limb_all b0 b1 b2 b3
    exact ⟨f, rfl⟩

theorem ClassBack_m {f : Nat → Bool} {more : ByteArray} {m : Mem} (hG : Glob m) : HC P eyotlaw8_ClassBack.id #[setv f, .string more] m (Fine m) := by
  refine eyotlaw8_ClassBack.ok _ _ _ _ _ _ _ ?_
  intro bs hbs
  have hle0 := Le.set hbs (.cells (cells4 f) T_api_Set (0, 0))
  have es : (m.set bs (.cells (cells4 f) T_api_Set (0, 0))) bs = some (.cells (cells4 f) T_api_Set (0, 0)) := set_same _ _ _
  generalize (m.set bs (.cells (cells4 f) T_api_Set (0, 0))) = m0 at hle0 es
  refine begun_spec (hG.le hle0) ?_
  intro m1 hle1
  have hle01 := hle0.trans hle1
  dsimp only [Cont]
  refine UnB.mk ?_
  refine Br.f rfl ?_
  refine BrD (fun h => ⟨rfl, hle01⟩) (fun h => ?_)
  have es1 := hle1 _ _ es
  refine get4 es1 ?_
  refine REmpty_spec ?_
  intro m2 hle2
  have hle02 := hle01.trans hle2
  dsimp only [Cont]
  refine UnB.mk ?_
  refine Br.mk (fun _ => ⟨rfl, hle02⟩) (fun hem => ?_)
  have es2 := hle2 _ _ es1
  refine get4 es2 ?_
  refine Show_spec ?_
  intro m3 hle3
  have hle03 := hle02.trans hle3
  dsimp only [Cont]
  refine UnStr.mk ?_
  obtain ⟨f', hc, hf'⟩ := cls_shW (f := f) (by simp [hem]) (lst more)
  have hsh : (shW f).length ≤ 10000 := by
    unfold shW
    have hj : ∀ rs : List (Nat × Nat), rs = runL f 256 → (brk rs).length ≤ 10000 := by
      intro rs e
      have h1 := joinR_len rs
      have h2 := run_len f 256
      rw [← e] at h2
      unfold brk
      simp; omega
    split
    · simp
    split
    · simp
    · split
      · rename_i a b h
        split
        · have := sgT_len a; omega
        · exact hj _ h.symm
      · exact hj _ rfl
  have hcat : bstr (shW f) ++ more = bstr (shW f ++ lst more) := by rw [← bstr_append, bstr_lst]
  refine ⟨by rw [bstr_size]; omega, ?_⟩
  refine Parse_any (hG.le hle03) (by rw [ByteArray.size_append, bstr_size]; omega) ?_
  rw [hcat, lst_bstr, hc]
  intro m4 hle4
  refine ContP.mk ?_
  refine own4 ?_
  intro ba m5 hle5 hba ea
  refine BrEt rfl ?_
  refine BrEt (by rw [bstr_size]; rfl) ?_
  refine get4 ea ?_
  refine get4 (hle5 _ _ (hle4 _ _ (hle3 _ _ es2))) ?_
  have : eqL [.int .u64 (L f' 0), .int .u64 (L f' 1), .int .u64 (L f' 2), .int .u64 (L f' 3)] [.int .u64 (L f 0), .int .u64 (L f 1), .int .u64 (L f 2), .int .u64 (L f 3)] = true :=
    (eq4 _ _).mpr hf'
  rw [show (res (some (f', (shW f).length))).1 = f' from rfl, this]
  exact ⟨rfl, (hle03.trans hle4).trans hle5⟩
theorem ClassBack_arg {W : World} {v w : Value} (hG : Glob (heapM W)) (h : Arg P W T_api_Set v) (h2 : Arg P W T_string w) : HC P eyotlaw8_ClassBack.id #[v, w] (heapM W) (Fine (heapM W)) := by
  obtain ⟨f, rfl⟩ := Arg_set h
  obtain ⟨s, rfl, hs⟩ := h2.str (by kernel_rfl)
  exact ClassBack_m hG
end Go.E
