import Derived.Test.YtjdkdeekniephaaH8
import Derived.Test.YtjdkdeekniephaaGX
import Derived.WalkKit
import Derived.Recover
import Derived.RegionTactic
import Derived.BigRegion
import Derived.Deep.RegionHeld
set_option linter.unusedVariables false
namespace Go.E
open Go.H Go.Proofs

/-- A call of a function with a body enters it. -/
theorem HC_he {f : FuncId} {fn : Func} {args : Array Value} {m : Mem} {R : Ending → Mem → Prop} (hf : P.funcs[f]? = some fn) (hb : fn.body.isNone = false) (hn : (fn.name == "runtime.NumGoroutine") = false) (h : HC P f args m R) : HE P f args m R := by
  rcases h with h | h
  · exact h
  · exfalso
    unfold callFunc at h
    rw [pt_bind] at h
    have h2 : pt P (match P.funcs[f]? with
      | none => Go.stuck "call: no such function"
      | some fn => if fn.name == "runtime.NumGoroutine" then pure Next.numGoroutine else if fn.body.isNone then (do
          mark (.extern f)
          if let some e := Extern.findNext fn then return ← e args
          match Extern.find fn with
          | some e => pure (.value (← e args))
          | none =>
            if fn.name.endsWith ".init" && !fn.name.startsWith "(" && !fn.name.startsWith "gosem." then pure (.value (.tuple #[]))
            else unsupported (.extern fn.name)) else pure (.enter f args)) (fun nx m' => match nx with | .value v => R (.returned v) m' | _ => False) (fun v m' => R (.panicked [{ v := v, recovered := false }]) m') m := h
    rw [hf] at h2
    simp only [hn, hb] at h2
    exact h2
/-- the deferred 'func() { _ = recover() }' -/
theorem safe1_ret (w : World) : CallsD Try.prog 46 #[] .returning w fun e u' w' => e = .returned (.tuple #[]) ∧ u' = .returning ∧ w' = w := by
  refine callsD_of_wpS Try.func46 rfl fun c₀ cs hu => ?_
  apply wpS_region
  cases c₀
  simp_all [wpOpsS, go_sem, recoverD, Try.ntmps46, bodyPostS, results, Try.results46]
theorem safe1_pan (v : Value) (w : World) : CallsD Try.prog 46 #[] (.panicking [{ v := v, recovered := false }]) w fun e u' w' =>
    e = .returned (.tuple #[]) ∧ u' = .panicking [{ v := v, recovered := true }] ∧ w' = w := by
  refine callsD_of_wpS Try.func46 rfl fun c₀ cs hu => ?_
  apply wpS_region
  simp [wpOpsS, go_sem, recoverD, hu, Try.ntmps46, bodyPostS, results, Try.results46]
  
theorem safe_int {g : FuncId} {gn : Func} {cap : Array Value} {m : Mem} {R R0 : Ending → Mem → Prop} (hg : P.funcs[g]? = some gn) (hgb : gn.body.isNone = false) (hgn : (gn.name == "runtime.NumGoroutine") = false) (h0 : HC P g cap m R0)
    (hR : ∀ e m', R0 e m' → (∃ n, e = .returned (.int .i64 n) ∧ R e m') ∨ (∃ v, e = .panicked [{ v := v, recovered := false }] ∧ R (.returned (.int .i64 0)) m')) :
    HC P page_safe_int.id #[.func (.func g) #[] cap] m R := by
  refine .inl ⟨fun w => callFunc_enters Try.func35 (by kernel_rfl) (by kernel_rfl) _ w, fun w hF => ?_⟩
  have h := HC_he hg hgb hgn h0
  have h1 := h.1
  have h2 := h.2 w hF
  go_enter_defers Try.func35, Try.ntmps35
  go_wp2_with fail
  refine h2.mono ?_
  rintro e w1 ⟨m1, hne, hr, hF1, hf1⟩
  rcases hR e m1 hr with ⟨n, rfl, hR1⟩ | ⟨v, rfl, hR1⟩
  · dsimp only
    go_wp2_with fail
    refine leaves_cons (f := 46) (args := #[]) (by simp) (by simp [go_sem]) ?_
    refine (safe1_ret _).mono ?_
    rintro e u' w'' ⟨rfl, rfl, rfl⟩
    exact ⟨_, results_tmp (t := 2) rfl _ _ _, m1, by simp, hR1, hF1, hf1⟩
  · dsimp only
    refine leaves_cons (f := 46) (args := #[]) (by simp) (by simp [go_sem]) ?_
    refine (safe1_pan v _).mono ?_
    rintro e u' w'' ⟨rfl, rfl, rfl⟩
    exact ⟨_, results_tmp (t := 2) rfl _ _ _, m1, by simp, hR1, hF1, hf1⟩


/-- the deferred 'func() { _ = recover() }' -/
theorem safe2_ret (w : World) : CallsD Try.prog 47 #[] .returning w fun e u' w' => e = .returned (.tuple #[]) ∧ u' = .returning ∧ w' = w := by
  refine callsD_of_wpS Try.func47 rfl fun c₀ cs hu => ?_
  apply wpS_region
  cases c₀
  simp_all [wpOpsS, go_sem, recoverD, Try.ntmps47, bodyPostS, results, Try.results47]
theorem safe2_pan (v : Value) (w : World) : CallsD Try.prog 47 #[] (.panicking [{ v := v, recovered := false }]) w fun e u' w' =>
    e = .returned (.tuple #[]) ∧ u' = .panicking [{ v := v, recovered := true }] ∧ w' = w := by
  refine callsD_of_wpS Try.func47 rfl fun c₀ cs hu => ?_
  apply wpS_region
  simp [wpOpsS, go_sem, recoverD, hu, Try.ntmps47, bodyPostS, results, Try.results47]
  
theorem safe_s_int {g : FuncId} {gn : Func} {cap : Array Value} {m : Mem} {R R0 : Ending → Mem → Prop} (hg : P.funcs[g]? = some gn) (hgb : gn.body.isNone = false) (hgn : (gn.name == "runtime.NumGoroutine") = false) (h0 : HC P g cap m R0)
    (hR : ∀ e m', R0 e m' → (∃ a l c, e = .returned (.slice a l c) ∧ R e m') ∨ (∃ v, e = .panicked [{ v := v, recovered := false }] ∧ R (.returned (.slice none 0 0)) m')) :
    HC P page_safe_s_int.id #[.func (.func g) #[] cap] m R := by
  refine .inl ⟨fun w => callFunc_enters Try.func37 (by kernel_rfl) (by kernel_rfl) _ w, fun w hF => ?_⟩
  have h := HC_he hg hgb hgn h0
  have h1 := h.1
  have h2 := h.2 w hF
  go_enter_defers Try.func37, Try.ntmps37
  go_wp2_with fail
  refine h2.mono ?_
  rintro e w1 ⟨m1, hne, hr, hF1, hf1⟩
  rcases hR e m1 hr with ⟨a, l, c, rfl, hR1⟩ | ⟨v, rfl, hR1⟩
  · dsimp only
    go_wp2_with fail
    refine leaves_cons (f := 47) (args := #[]) (by simp) (by simp [go_sem]) ?_
    refine (safe2_ret _).mono ?_
    rintro e u' w'' ⟨rfl, rfl, rfl⟩
    exact ⟨_, results_tmp (t := 2) rfl _ _ _, m1, by simp, hR1, hF1, hf1⟩
  · dsimp only
    refine leaves_cons (f := 47) (args := #[]) (by simp) (by simp [go_sem]) ?_
    refine (safe2_pan v _).mono ?_
    rintro e u' w'' ⟨rfl, rfl, rfl⟩
    exact ⟨_, results_tmp (t := 2) rfl _ _ _, m1, by simp, hR1, hF1, hf1⟩


theorem wp_nilc {P : Program} {o : Oper} {a : Act} {w : World} {next : Act → World → Prop} {Q : Exit → Act → World → Prop} {x : Operand} (ho : o.op = .nilCheck x) (hx : a.eval x = .pointer none)
    (h : Q (.panic (nilPanic P)) a w) : Oper.wp P o a w next Q := by
  have e : (execOp a.eval o).run P w = .halt (.panic (.iface P.rt.errorString (strVal "invalid memory address or nil pointer dereference"))) w := by
    simp only [execOp, ho, hx]
    simp [go_sem]
  unfold Oper.wp
  rw [e]
  exact h
theorem count_nil_fn (c o : Nat) (w : World) (hc : w.cell? ⟨c, o, none⟩ = some (.pointer none)) : Calls Try.prog 36 #[.pointer (some ⟨c, o, none⟩)] w fun e w' => e = .panicked (nilPanic Try.prog) ∧ w' = w.drew := by
  go_enter Try.func36, Try.ntmps36
  go_wp2
  refine wp_region_held_drew (S := fun w' => w'.cell? ⟨c, o, none⟩ = some (.pointer none)) (by kernel_rfl) (by simpa using hc) (fun hS => ?_)
  refine wpAnyH_take (i := 0) (v := .pointer none) rfl (by kernel_rfl) (by kernel_rfl) (by kernel_rfl) (fun _ _ _ h => h) (Or.inl ⟨rfl, fun w hw => ?_⟩) hS ?_
  · go_simp
  refine wpAnyH_take (i := 5) (v := .pointer none) rfl (by kernel_rfl) (by kernel_rfl) (by kernel_rfl) (fun _ _ _ h => h) (Or.inl ⟨rfl, fun w hw => ?_⟩) hS ?_
  · go_simp
  refine wpAnyH_take (i := 11) (v := .pointer none) rfl (by kernel_rfl) (by kernel_rfl) (by kernel_rfl) (fun _ _ _ h => h) (Or.inl ⟨rfl, fun w hw => ?_⟩) hS ?_
  · go_simp
  refine wpAnyH_all (rs := [1, 6, 12]) (by kernel_rfl) (by simp) ?_
  intro i hi
  simp only [List.mem_cons, List.not_mem_nil, or_false] at hi
  rcases hi with rfl | rfl | rfl
  · exact Or.inl (wp_nilc (x := .tmp 2) rfl rfl ⟨rfl, rfl, rfl⟩)
  · exact Or.inl (wp_nilc (x := .tmp 7) rfl rfl ⟨rfl, rfl, rfl⟩)
  · exact Or.inl (wp_nilc (x := .tmp 13) rfl rfl ⟨rfl, rfl, rfl⟩)

theorem count_nil {m : Mem} {c o : Nat} (hc : m.cell c o = some (.pointer none)) {R : Ending → Mem → Prop} (h : R (.panicked (nilPanic P)) m) : HC P page_Pages_Count_1.id #[.pointer (some ⟨c, o, none⟩)] m R := by
  refine .inl ⟨fun w => callFunc_enters Try.func36 (by kernel_rfl) (by kernel_rfl) _ w, fun w hF => ?_⟩
  refine (count_nil_fn c o w (cell?_of hF rfl hc)).mono ?_
  rintro e w' ⟨rfl, rfl⟩
  exact ⟨m, by simp, h, hF, rfl, rfl, rfl, Nat.le_refl _, fun _ _ _ => rfl, fun _ _ h => h⟩
end Go.E
