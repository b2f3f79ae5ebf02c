/- Functions with one deferred closure that recovers, behind any code that may return ahead of it. -/
import Derived.Test.YtjdkdeekniephaaHD
set_option linter.unusedSimpArgs false
set_option linter.unusedVariables false
namespace Go.H

/-- A rest of a function's body, told by the machine's own rule. -/
def DW (P : Program) (fn : Func) (R : Ending → Mem → Prop) (c : Code) (ρ : Env) (m : Mem) : Prop :=
  ∀ (a : Act) (w : World) (m0 : Mem) (w0 : World), Ag fn.ntmps ⟨[], 0, fun _ => undef⟩ ρ a → Fit m w → Fr m0 m w0 w →
    c.wp P (bodyPostD P fn fun e w' => ∃ m', e ≠ .outgrown ∧ R e m' ∧ Fit m' w' ∧ Fr m0 m' w0 w') a w

theorem HC_of_DW {P : Program} {f : FuncId} {fn : Func} {c : Code} {args : Array Value} {m : Mem} {R : Ending → Mem → Prop}
    (hf : P.funcs[f]? = some fn) (hb : fn.body = some c) (hn : (fn.name == "runtime.NumGoroutine") = false) (hsz : args.size ≤ fn.ntmps)
    (h : DW P fn R c (argE args.toList) m) : HC P f args m R := by
  refine .inl ⟨fun w => callFunc_enters hf hn (by rw [hb]; rfl) args w, fun w hF => ?_⟩
  refine calls_of_wp_defers hf hb ?_
  have hA : Ag fn.ntmps ⟨[], 0, fun _ => undef⟩ (argE args.toList) { tmps := args ++ Array.replicate (fn.ntmps - args.size) undef, defers := [] } := by
    refine ⟨by simp; omega, fun t => ?_, rfl, fun t ht => absurd ht (Nat.not_lt_zero t)⟩
    simp only [argE, Array.getD_eq_getD_getElem?, Array.getElem?_append, List.getD_eq_getElem?_getD, Array.getElem?_toList]
    split
    · rfl
    · rename_i hlt
      rw [Array.getElem?_replicate]
      have : args[t]? = none := by simp; omega
      rw [this]
      split <;> rfl
  exact h _ w m w hA hF (Fr.refl _ _)

/-- What a piece ahead of the deferral leaves. -/
def aheadQ (P : Program) (fn : Func) (R : Ending → Mem → Prop) (K : Env → Mem → Prop) : Exit → Env → Mem → Prop
  | .normal, ρ, m => K ρ m
  | .ret, ρ, m => resT P ρ m fn.results.toList fun vs => R (.returned (pack vs)) m
  | _, _, _ => False

theorem DW_seq {P : Program} {tb : Nat → Tab} {fn : Func} {od : Nat → Ord} {R : Ending → Mem → Prop} {x y : Code} {ρ : Env} {m : Mem}
    (hm : P.follows .mixedOrders = true) (hok : codeOk P od tb 0 fn.ntmps x = true)
    (h : cpt P od (panicR R) x (aheadQ P fn R (DW P fn R y)) ρ m) : DW P fn R (.seq x y) ρ m := by
  intro a w m0 w0 hA hF hf
  refine wp_seq (Code.wp_mono (fun e a' w' hq => ?_) (cpt_sound hm x _ _ m hok h _ w hA hF m w (Fr.refl _ _)))
  cases e with
  | normal =>
    obtain ⟨ρ', m', hK, hA', hF', hf'⟩ := hq
    exact hK a' w' m0 w0 hA' hF' (hf.trans hf')
  | ret =>
    obtain ⟨ρ', m', hK, hA', hF', hf'⟩ := hq
    obtain ⟨vs, hR, hrun⟩ := results_run hA' hK
    show Leaves P fn a'.tmps _ a'.defers .returning w'
    rw [hA'.defers]
    exact ⟨_, hrun w' hF', m', by simp, hR, hF', hf.trans hf'⟩
  | panic ch =>
    obtain ⟨hd, m', hp, hF', hf'⟩ := hq
    show Leaves P fn a'.tmps _ a'.defers (.panicking ch) w'
    rw [hd.1]
    exact ⟨m', by simp, hp, hF', hf.trans hf'⟩
  | outgrown => exact hq.elim
  | exit i => obtain ⟨ρ', m', hK, _⟩ := hq; exact hK.elim
  | goto i => obtain ⟨ρ', m', hK, _⟩ := hq; exact hK.elim

theorem DW_defer {P : Program} {tb : Nat → Tab} {fn gn : Func} {rest : Code} {od : Nat → Ord} {ρ : Env} {m : Mem} {R : Ending → Mem → Prop}
    {id d lo : Nat} {g : FuncId} {capOps : Array Operand} {ty1 ty2 : TypeId} {p1 p2 : String} {a1' a2 : Array Edge} {tys : Array TypeId}
    (hg : P.funcs[g]? = some gn) (hgb : gn.body.isNone = false) (hgn : (gn.name == "runtime.NumGoroutine") = false)
    (hm : P.follows .mixedOrders = true)
    (hok : codeOk P od tb lo fn.ntmps rest = true) (hd : Nat.blt d fn.ntmps = true) (hlow : lowRes fn lo = true)
    (h : restP P od fn rest g (capOps.map (evr ρ)) R (upd ρ d (.func (.func g) #[] (capOps.map (evr ρ)))) m) :
    DW P fn R (.seq (.region id #[⟨some d, .makeFunc (.func g) #[] capOps, ty1, p1, a1', none⟩, ⟨none, .defer ⟨.value (.tmp d), #[], tys⟩, ty2, p2, a2, none⟩] false) rest) ρ m := by
  intro a1 w1 m0 w0 hA1 hF1 hf1
  refine wp_seq (wp_region_list ?_)
  have hd' : d < fn.ntmps := by simpa using hd
  have hA2 := hA1.put (dst := some d) (fun d' e => by cases e; exact ⟨Nat.zero_le _, hd'⟩) (.func (.func g) #[] (capOps.map (evr ρ)))
  have hr := h
  generalize hcaps : capOps.map (evr ρ) = caps at hr hA2
  have hinv : ∀ w : World, (invoke (.fn (.func g) caps) #[]).run P w = .ok (.enter g caps) w := by
    intro w
    show (callFunc g (#[] ++ caps)).run P w = _
    rw [Array.empty_append]
    exact callFunc_enters hg hgn hgb caps w
  have e1 : (execOp a1.eval ⟨some d, .makeFunc (.func g) #[] capOps, ty1, p1, a1', none⟩).run P w1 = .ok (.value (.func (.func g) #[] caps)) w1 := by
    rw [hA1.eval]
    simp [execOp, Instr.makeFunc, hcaps]
  have e2 : (execOp (a1.put (some d) (.func (.func g) #[] caps)).eval ⟨none, .defer ⟨.value (.tmp d), #[], tys⟩, ty2, p2, a2, none⟩).run P w1 = .ok (.defer { target := .fn (.func g) caps, args := #[] }) w1 := by
    rw [hA2.eval]
    simp [execOp, resolve, evr, putE, upd_same, Deferred.ofValue]
  refine .inl ?_
  unfold Oper.wp
  rw [e1]
  refine .inl ?_
  show Oper.wp P _ _ w1 _ _
  unfold Oper.wp
  rw [e2]
  rw [Oper.upon_defer]
  show rest.wp P _ _ w1
  generalize ha3 : (({ a1.put (some d) (.func (.func g) #[] caps) with defers := { target := .fn (.func g) caps, args := #[] } :: (a1.put (some d) (.func (.func g) #[] caps)).defers } : Act).put none undef) = a3
  have hA3 : Ag fn.ntmps ⟨[{ target := .fn (.func g) caps, args := #[] }], lo, upd ρ d (.func (.func g) #[] caps)⟩ (upd ρ d (.func (.func g) #[] caps)) a3 := by
    subst ha3
    exact ⟨hA2.size, hA2.get, congrArg _ hA2.defers, fun _ _ => rfl⟩
  have hz : ∀ (tm : Array Value), (∀ t, t < lo → tm.getD t undef = upd ρ d (.func (.func g) #[] caps) t) →
      ∀ r ∈ fn.results.toList, ∀ t, (match r with | .tmp t' => t' | .cell t' _ => t') = t → tm.getD t undef = upd ρ d (.func (.func g) #[] caps) t := by
    intro tm ht r hr t e
    have := List.all_eq_true.1 hlow r hr
    refine ht t ?_
    cases r <;> simp only at e this <;> subst e <;> simpa using this
  have fin : ∀ (x : Option Value) (tm : Array Value) (m2 : Mem) (w2 : World), (∀ t, t < lo → tm.getD t undef = upd ρ d (.func (.func g) #[] caps) t) → Fit m2 w2 → Fr m0 m2 w0 w2 →
      DF P g caps x m2 (fun m' => resT P (upd ρ d (.func (.func g) #[] caps)) m' fn.results.toList fun vs => R (.returned (pack vs)) m') →
      Leaves P fn tm (fun e w' => ∃ m', e ≠ .outgrown ∧ R e m' ∧ Fit m' w' ∧ Fr m0 m' w0 w') [{ target := .fn (.func g) caps, args := #[] }] (modeB x) w2 := by
    intro x tm m2 w2 ht hF2 hf2 hdf
    refine leaves_cons (f := g) (args := caps) (by cases x <;> simp [modeB]) (hinv _) ((hdf w2 hF2).mono ?_)
    rintro e u' w3 ⟨⟨v, rfl⟩, rfl, m3, hK, hF3, hf3⟩
    show Leaves P fn tm _ [] (settle (modeE x)) w3
    rw [settle_modeE]
    obtain ⟨vs, hR, hrun⟩ := results_low (hz tm ht) hK
    exact ⟨_, hrun w3 hF3, m3, by simp, hR, hF3, hf2.trans hf3⟩
  refine Code.wp_mono (fun e a' w' hq => ?_) (cpt_sound hm rest _ _ m hok hr a3 w1 hA3 hF1 m0 w0 hf1)
  have fin2 : ∀ {ρ' m'}, Ag fn.ntmps ⟨[{ target := .fn (.func g) caps, args := #[] }], lo, upd ρ d (.func (.func g) #[] caps)⟩ ρ' a' → Fit m' w' → Fr m0 m' w0 w' →
      DF P g caps none m' (fun m' => resT P (upd ρ d (.func (.func g) #[] caps)) m' fn.results.toList fun vs => R (.returned (pack vs)) m') →
      Leaves P fn a'.tmps (fun e w' => ∃ m', e ≠ .outgrown ∧ R e m' ∧ Fit m' w' ∧ Fr m0 m' w0 w') a'.defers .returning w' := by
    intro ρ' m' hA' hF' hf' hdf
    rw [hA'.defers]
    exact fin none a'.tmps m' w' hA'.pan.2 hF' hf' hdf
  cases e with
  | normal => obtain ⟨ρ', m', hK, hA', hF', hf'⟩ := hq; exact fin2 hA' hF' hf' hK
  | ret => obtain ⟨ρ', m', hK, hA', hF', hf'⟩ := hq; exact fin2 hA' hF' hf' hK
  | panic ch =>
    obtain ⟨⟨hd1, hlo⟩, m', ⟨v, hch, hp⟩, hF', hf'⟩ := hq
    subst hch
    show Leaves P fn a'.tmps _ a'.defers _ w'
    rw [hd1]
    exact fin (some v) a'.tmps m' w' hlo hF' hf' hp
  | outgrown => exact hq.elim
  | exit i => obtain ⟨ρ', m', hK, _⟩ := hq; exact hK.elim
  | goto i => obtain ⟨ρ', m', hK, _⟩ := hq; exact hK.elim
end Go.H
