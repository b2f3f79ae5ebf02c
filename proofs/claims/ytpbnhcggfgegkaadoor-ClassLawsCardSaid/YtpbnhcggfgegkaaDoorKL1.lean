/- Layer 8: begun, ClassParses. -/
import Derived.Test.YtpbnhcggfgegkaaDoorSH3
import Derived.Test.YtpbnhcggfgegkaaDoorHF
set_option linter.unusedVariables false
set_option linter.unusedSimpArgs false
set_option maxRecDepth 20000
namespace Go.E
open Go.H
attribute [local irreducible] BiN MkS ConvN LookN MapUpN CallV HC limb dbTab

/-- A law's end: true, and nothing turned. -/
def Fine (m : Mem) : Ending → Mem → Prop := fun e m' => e = .returned (.bool true) ∧ Le m m'
theorem ContP.mk {u0 u1 u2 u3 n e : Int} {K : Int → Int → Int → Int → Int → Int → Mem → Prop} {Pn : List PanicEntry → Mem → Prop} {m : Mem} (k : K u0 u1 u2 u3 n e m) :
    Cont (fun v m => UnTup v fun us0 => UnCons us0 fun w us1 => UnAgg w fun l => UnCons l fun v l => UnI v .u64 fun x0 => UnCons l fun v l => UnI v .u64 fun x1 => UnCons l fun v l => UnI v .u64 fun x2 => UnCons l fun v l => UnI v .u64 fun x3 => UnNil l (
      UnCons us1 fun w us2 => UnI w .i64 fun n => UnCons us2 fun w us3 => UnI w .i64 fun e => UnNil us3 (K x0 x1 x2 x3 n e m))) Pn
      (.returned (.tuple #[.agg #[.int .u64 u0, .int .u64 u1, .int .u64 u2, .int .u64 u3], .int .i64 n, .int .i64 e])) m := k
/-- A set in a place of its own. -/
theorem own4 {m : Mem} {t : TypeId} {u0 u1 u2 u3 : Int} {x0 x1 x2 x3 : Value} {K : Nat → Mem → Prop}
    (k : ∀ b m', Le m m' → m b = none → m' b = some (.cells #[.int .u64 u0, .int .u64 u1, .int .u64 u2, .int .u64 u3] t (0, 0)) → K b m') :
    NewC m #[x0, x1, x2, x3] t fun b m1 => St1 m1 b 0 (.int .u64 u0) fun m2 => St1 m2 b 1 (.int .u64 u1) fun m3 => St1 m3 b 2 (.int .u64 u2) fun m4 => St1 m4 b 3 (.int .u64 u3) fun m5 => K b m5 := by
  intro b hb
  refine put4 (set_same _ _ _) ?_
  rw [set_set]
  exact k b _ (Le.set hb _) hb (set_same _ _ _)

theorem cls_begun : cls (lst (ByteArray.mk #[91, 97, 45, 99, 93, 120])) = some (fromTo 97 99, 5) := by kernel_rfl
theorem show_begun : shW (fromTo 97 99) = [91, 97, 45, 99, 93] := by decide +kernel

theorem begun_spec {m : Mem} (hG : Glob m) {R : Ending → Mem → Prop} (k : ∀ m', Le m m' → R (.returned (.bool true)) m') : HC P eyotlaw8_begun.id #[] m R := by
  refine eyotlaw8_begun.ok _ _ ?_
  refine Parse_spec hG (by decide) (fun S e hc m1 hle1 => ?_) (fun hc => by rw [cls_begun] at hc; cases hc)
  rw [cls_begun] at hc
  cases hc
  refine ContP.mk ?_
  refine own4 ?_
  intro b m2 hle2 hb e2
  refine get4 e2 ?_
  refine Least_some (t := 97) (by omega) (by decide) (by decide) (hG.le (hle1.trans hle2)) ?_
  intro m3 hle3
  refine ContTB.mk ?_
  refine ⟨m3, Le.refl _, ?_⟩
  refine BrEt rfl ?_
  refine BrEt rfl ?_
  have e3 := hle3 _ _ e2
  refine get4 e3 ?_
  refine Has_spec (b := 98) (by omega) ?_
  intro m4 hle4
  dsimp only [Cont]
  refine UnB.mk (Lk.all hle4 ?_)
  refine Br.t (by decide) ?_
  have e4 := hle4 _ _ e3
  refine get4 e4 ?_
  refine Has_spec (b := 100) (by omega) ?_
  intro m5 hle5
  dsimp only [Cont]
  refine UnB.mk (Lk.all hle5 ?_)
  refine Br.t (by decide) ?_
  refine Br.t rfl ?_
  refine BrEt rfl ?_
  have e5 := hle5 _ _ e4
  refine get4 e5 ?_
  refine Show_spec ?_
  intro m6 hle6
  dsimp only [Cont]
  refine UnStr.mk (Lk.all hle6 ?_)
  rw [show_begun]
  refine Br.t (beq_self_eq_true ((ByteArray.mk #[91, 97, 45, 99, 93]).toList)) ?_
  have e6 := hle6 _ _ e5
  refine get4 e6 ?_
  intro b44 hb44
  refine Lk.all (Le.set hb44 _) ?_
  refine Of_spec (bs := [97, 98, 99]) (cells_at (set_same _ _ _) rfl) rfl (by simp) ?_
  intro m7 hle7
  refine ContSet.mk ?_
  refine Lk.all hle7 ?_
  have : eqL [.int .u64 (L (inB [97, 98, 99]) 0), .int .u64 (L (inB [97, 98, 99]) 1), .int .u64 (L (inB [97, 98, 99]) 2), .int .u64 (L (inB [97, 98, 99]) 3)] [.int .u64 (L (fromTo 97 99) 0), .int .u64 (L (fromTo 97 99) 1), .int .u64 (L (fromTo 97 99) 2), .int .u64 (L (fromTo 97 99) 3)] = true :=
    (eq4 _ _).mpr (by decide)
  rw [this]
  exact k _ ((((((hle1.trans hle2).trans hle3).trans hle4).trans hle5).trans hle6).trans ((Le.set hb44 _).trans hle7))

theorem ClassParses_m {s : ByteArray} {m : Mem} (hG : Glob m) : HC P eyotlaw8_ClassParses.id #[.string s] m (Fine m) := by
  refine eyotlaw8_ClassParses.ok _ _ _ ?_
  refine begun_spec hG ?_
  intro m1 hle1
  dsimp only [Cont]
  refine UnB.mk ?_
  refine Br.f rfl ?_
  refine BrD (fun h => ⟨rfl, hle1⟩) (fun h => ?_)
  cases hc : cls (lst s) with
  | some x =>
    obtain ⟨S, e⟩ := x
    refine Parse_spec (hG.le hle1) (by omega) (fun S' e' hc' m2 hle2 => ?_) (fun hc' => by rw [hc] at hc'; cases hc')
    rw [hc] at hc'; cases hc'
    refine ContP.mk ?_
    refine own4 ?_
    intro ba m3 hle3 hba ea
    refine RClass_spec (by omega) (fun S' e' hc' m4 hle4 => ?_) (fun hc' => by rw [hc] at hc'; cases hc')
    rw [hc] at hc'; cases hc'
    refine ContP.mk ?_
    refine own4 ?_
    intro bb m5 hle5 hbb eb
    refine get4 (hle5 _ _ (hle4 _ _ ea)) ?_
    refine get4 eb ?_
    refine Br.t ((eq4 _ _).mpr fun _ _ => rfl) ?_
    refine BrEt rfl ?_
    exact ⟨rfl, (((hle1.trans hle2).trans hle3).trans hle4).trans hle5⟩
  | none =>
    refine Parse_spec (hG.le hle1) (by omega) (fun S' e' hc' => by rw [hc] at hc'; cases hc') (fun hc' m2 hle2 => ?_)
    refine ContP.mk ?_
    refine own4 ?_
    intro ba m3 hle3 hba ea
    refine RClass_spec (by omega) (fun S' e' hc' => by rw [hc] at hc'; cases hc') (fun hc' m4 hle4 => ?_)
    refine ContP.mk ?_
    refine own4 ?_
    intro bb m5 hle5 hbb eb
    refine get4 (hle5 _ _ (hle4 _ _ ea)) ?_
    refine get4 eb ?_
    refine Br.t ((eq4 _ _).mpr fun _ _ => rfl) ?_
    refine BrEt rfl ?_
    exact ⟨rfl, (((hle1.trans hle2).trans hle3).trans hle4).trans hle5⟩
theorem Glob.of_cells {W : World} (h : ∀ r (hr : r < dbTab.length), W.cell? ⟨0, r, none⟩ = some (.int .u8 ((dbTab[r] : Nat) : Int))) : Glob (heapM W) := by
  refine CellsAt.given (a := ⟨0, 0, none⟩) fun j u hu => ?_
  rw [List.getElem?_map] at hu
  by_cases hj : j < dbTab.length
  · rw [List.getElem?_eq_getElem hj] at hu
    cases hu
    have := h j hj
    have e : (⟨0, 0, none⟩ : Addr).add j = ⟨0, j, none⟩ := by cases j with | zero => rfl | succ j => simp [Addr.add]
    rw [e]; exact this
  · rw [List.getElem?_eq_none (by omega)] at hu
    cases hu
theorem ClassParses_arg {W : World} {v : Value} (hG : Glob (heapM W)) (h : Arg P W T_string v) : HC P eyotlaw8_ClassParses.id #[v] (heapM W) (Fine (heapM W)) := by
  obtain ⟨s, rfl, hs⟩ := h.str (by kernel_rfl)
  exact ClassParses_m hG
end Go.E
