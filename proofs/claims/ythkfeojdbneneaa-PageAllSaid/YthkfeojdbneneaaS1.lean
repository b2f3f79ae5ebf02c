import Derived.Test.YthkfeojdbneneaaH8
import Derived.Test.YthkfeojdbneneaaG3
import Derived.WalkKit
import Derived.Recover
import Derived.RegionTactic
import Derived.BigRegion
import Derived.Deep.RegionHeld
set_option linter.unusedVariables false
namespace Go.E
open Go.H Go.Proofs

/-- the deferred 'func() { _ = recover() }' -/
theorem safe1_ret (w : World) : CallsD Try.prog 26 #[] .returning w fun e u' w' => e = .returned (.tuple #[]) ∧ u' = .returning ∧ w' = w := by
  refine callsD_of_wpS Try.func26 rfl fun c₀ cs hu => ?_
  apply wpS_region
  cases c₀
  simp_all [wpOpsS, go_sem, recoverD, Try.ntmps26, bodyPostS, results, Try.results26]
theorem safe1_pan (v : Value) (w : World) : CallsD Try.prog 26 #[] (.panicking [{ v := v, recovered := false }]) w fun e u' w' =>
    e = .returned (.tuple #[]) ∧ u' = .panicking [{ v := v, recovered := true }] ∧ w' = w := by
  refine callsD_of_wpS Try.func26 rfl fun c₀ cs hu => ?_
  apply wpS_region
  simp [wpOpsS, go_sem, recoverD, hu, Try.ntmps26, bodyPostS, results, Try.results26]
  
theorem safe_int {g : FuncId} {cap : Array Value} {m : Mem} {R R0 : Ending → Mem → Prop} (h : HC P g cap m R0)
    (hR : ∀ e m', R0 e m' → (∃ n, e = .returned (.int .i64 n) ∧ R e m') ∨ (∃ v, e = .panicked [{ v := v, recovered := false }] ∧ R (.returned (.int .i64 0)) m')) :
    HC P page_safe_int.id #[.func (.func g) #[] cap] m R := by
  refine ⟨fun w => callFunc_enters Try.func20 (by kernel_rfl) (by kernel_rfl) _ w, fun w hF => ?_⟩
  have h1 := h.1
  have h2 := h.2 w hF
  go_enter_defers Try.func20, Try.ntmps20
  go_wp2_with fail
  refine h2.mono ?_
  rintro e w1 ⟨m1, hne, hr, hF1, hf1⟩
  rcases hR e m1 hr with ⟨n, rfl, hR1⟩ | ⟨v, rfl, hR1⟩
  · dsimp only
    go_wp2_with fail
    refine leaves_cons (f := 26) (args := #[]) (by simp) (by simp [go_sem]) ?_
    refine (safe1_ret _).mono ?_
    rintro e u' w'' ⟨rfl, rfl, rfl⟩
    exact ⟨_, results_tmp (t := 2) rfl _ _ _, m1, by simp, hR1, hF1, hf1⟩
  · dsimp only
    refine leaves_cons (f := 26) (args := #[]) (by simp) (by simp [go_sem]) ?_
    refine (safe1_pan v _).mono ?_
    rintro e u' w'' ⟨rfl, rfl, rfl⟩
    exact ⟨_, results_tmp (t := 2) rfl _ _ _, m1, by simp, hR1, hF1, hf1⟩


/-- the deferred 'func() { _ = recover() }' -/
theorem safe2_ret (w : World) : CallsD Try.prog 27 #[] .returning w fun e u' w' => e = .returned (.tuple #[]) ∧ u' = .returning ∧ w' = w := by
  refine callsD_of_wpS Try.func27 rfl fun c₀ cs hu => ?_
  apply wpS_region
  cases c₀
  simp_all [wpOpsS, go_sem, recoverD, Try.ntmps27, bodyPostS, results, Try.results27]
theorem safe2_pan (v : Value) (w : World) : CallsD Try.prog 27 #[] (.panicking [{ v := v, recovered := false }]) w fun e u' w' =>
    e = .returned (.tuple #[]) ∧ u' = .panicking [{ v := v, recovered := true }] ∧ w' = w := by
  refine callsD_of_wpS Try.func27 rfl fun c₀ cs hu => ?_
  apply wpS_region
  simp [wpOpsS, go_sem, recoverD, hu, Try.ntmps27, bodyPostS, results, Try.results27]
  
theorem safe_s_int {g : FuncId} {cap : Array Value} {m : Mem} {R R0 : Ending → Mem → Prop} (h : HC P g cap m R0)
    (hR : ∀ e m', R0 e m' → (∃ a l c, e = .returned (.slice a l c) ∧ R e m') ∨ (∃ v, e = .panicked [{ v := v, recovered := false }] ∧ R (.returned (.slice none 0 0)) m')) :
    HC P page_safe_s_int.id #[.func (.func g) #[] cap] m R := by
  refine ⟨fun w => callFunc_enters Try.func22 (by kernel_rfl) (by kernel_rfl) _ w, fun w hF => ?_⟩
  have h1 := h.1
  have h2 := h.2 w hF
  go_enter_defers Try.func22, Try.ntmps22
  go_wp2_with fail
  refine h2.mono ?_
  rintro e w1 ⟨m1, hne, hr, hF1, hf1⟩
  rcases hR e m1 hr with ⟨a, l, c, rfl, hR1⟩ | ⟨v, rfl, hR1⟩
  · dsimp only
    go_wp2_with fail
    refine leaves_cons (f := 27) (args := #[]) (by simp) (by simp [go_sem]) ?_
    refine (safe2_ret _).mono ?_
    rintro e u' w'' ⟨rfl, rfl, rfl⟩
    exact ⟨_, results_tmp (t := 2) rfl _ _ _, m1, by simp, hR1, hF1, hf1⟩
  · dsimp only
    refine leaves_cons (f := 27) (args := #[]) (by simp) (by simp [go_sem]) ?_
    refine (safe2_pan v _).mono ?_
    rintro e u' w'' ⟨rfl, rfl, rfl⟩
    exact ⟨_, results_tmp (t := 2) rfl _ _ _, m1, by simp, hR1, hF1, hf1⟩


theorem wp_nilc {P : Program} {o : Oper} {a : Act} {w : World} {next : Act → World → Prop} {Q : Exit → Act → World → Prop} {x : Operand} (ho : o.op = .nilCheck x) (hx : a.eval x = .pointer none)
    (h : Q (.panic (nilPanic P)) a w) : Oper.wp P o a w next Q := by
  have e : (execOp a.eval o).run P w = .halt (.panic (.iface P.rt.errorString (strVal "invalid memory address or nil pointer dereference"))) w := by
    simp only [execOp, ho, hx]
    simp [go_sem]
  unfold Oper.wp
  rw [e]
  exact h
theorem count_nil_fn (c o : Nat) (w : World) (hc : w.cell? ⟨c, o, none⟩ = some (.pointer none)) : Calls Try.prog 21 #[.pointer (some ⟨c, o, none⟩)] w fun e w' => e = .panicked (nilPanic Try.prog) ∧ w' = w.drew := by
  go_enter Try.func21, Try.ntmps21
  go_wp2
  refine wp_region_held_drew (S := fun w' => w'.cell? ⟨c, o, none⟩ = some (.pointer none)) (by kernel_rfl) (by simpa using hc) (fun hS => ?_)
  refine wpAnyH_take (i := 0) (v := .pointer none) rfl (by kernel_rfl) (by kernel_rfl) (by kernel_rfl) (fun _ _ _ h => h) (Or.inl ⟨rfl, fun w hw => ?_⟩) hS ?_
  · go_simp
  refine wpAnyH_take (i := 5) (v := .pointer none) rfl (by kernel_rfl) (by kernel_rfl) (by kernel_rfl) (fun _ _ _ h => h) (Or.inl ⟨rfl, fun w hw => ?_⟩) hS ?_
  · go_simp
  refine wpAnyH_take (i := 11) (v := .pointer none) rfl (by kernel_rfl) (by kernel_rfl) (by kernel_rfl) (fun _ _ _ h => h) (Or.inl ⟨rfl, fun w hw => ?_⟩) hS ?_
  · go_simp
  refine wpAnyH_all (rs := [1, 6, 12]) (by kernel_rfl) (by simp) ?_
  intro i hi
  simp only [List.mem_cons, List.not_mem_nil, or_false] at hi
  rcases hi with rfl | rfl | rfl
  · exact Or.inl (wp_nilc (x := .tmp 2) rfl rfl ⟨rfl, rfl, rfl⟩)
  · exact Or.inl (wp_nilc (x := .tmp 7) rfl rfl ⟨rfl, rfl, rfl⟩)
  · exact Or.inl (wp_nilc (x := .tmp 13) rfl rfl ⟨rfl, rfl, rfl⟩)

theorem count_nil {m : Mem} {c o : Nat} (hc : m.cell c o = some (.pointer none)) {R : Ending → Mem → Prop} (h : R (.panicked (nilPanic P)) m) : HC P page_Pages_Count_1.id #[.pointer (some ⟨c, o, none⟩)] m R := by
  refine ⟨fun w => callFunc_enters Try.func21 (by kernel_rfl) (by kernel_rfl) _ w, fun w hF => ?_⟩
  refine (count_nil_fn c o w (cell?_of hF rfl hc)).mono ?_
  rintro e w' ⟨rfl, rfl⟩
  exact ⟨m, by simp, h, hF, rfl, rfl, rfl, Nat.le_refl _, fun _ _ _ => rfl, fun _ _ h => h⟩
end Go.E
