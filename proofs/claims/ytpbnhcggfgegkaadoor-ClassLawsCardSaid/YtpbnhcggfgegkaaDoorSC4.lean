/- Classes: Parse. -/
import Derived.Test.YtpbnhcggfgegkaaDoorSC3
set_option linter.unusedVariables false
set_option linter.unusedSimpArgs false
set_option maxRecDepth 100000
namespace Go.E
open Go.H
attribute [local irreducible] BiN MkS ConvN LookN MapUpN CallV HC limb dbTab

namespace class_Parse_1
noncomputable def fn : Func := Go.Proofs.Tryd.f28
noncomputable def body : Code := fn.body.getD .skip
noncomputable def ops : Array Oper := match sL body with | .region _ o _ => o | _ => #[]
def od : Nat → Ord := fun _ => .done
def tb : Nat → Tab := fun _ => (0, [], [])
abbrev ptr (b : Nat) : Value := .pointer (some ⟨b, 0, none⟩)
theorem df_none (b2 b3 b4 : Nat) (K : Mem → Prop) (m : Mem) (h : NewC m #[] T_class_refusal fun _ m1 => K m1) : DF P id #[ptr b2, ptr b3, ptr b4] none m K := by
  refine DF_of (tb := tb) (od := od) (gn := fn) (id := 0) (d := 6) (ops := ops) (ol := ops.toList.tail) (rest := sR body) (tys := #[]) (ty := 20) (pos := "class.go:167") (af := #[])
    Go.Proofs.Tryd.func28 (by kernel_rfl) follows (by kernel_rfl) (by kernel_rfl) (by kernel_rfl) (of_decide_eq_true (by kernel_rfl)) (by kernel_rfl) ?_
  have e : (NewC m #[] T_class_refusal fun _ m1 => K m1) = hops P ops (fun ρ m => cpt P od (fun _ _ => False) (sR body) (doneQ K) ρ m) (fun _ _ => False) ops.toList.tail (upd (argE (#[ptr b2, ptr b3, ptr b4] : Array Value).toList) 6 (recV none)) m := by kernel_rfl
  exact Eq.mp e h
theorem df_some (b2 b3 b4 : Nat) (K : Mem → Prop) (m : Mem) (h : NewC m #[] T_class_refusal fun _ m1 => St1 m1 b2 0 (.int .u64 0) fun m2 => St1 m2 b2 1 (.int .u64 0) fun m3 => St1 m3 b2 2 (.int .u64 0) fun m4 => St1 m4 b2 3 (.int .u64 0) fun m5 =>
    St1 m5 b3 0 (.int .i64 0) fun m6 => St1 m6 b4 0 (.int .i64 2) K) : DF P id #[ptr b2, ptr b3, ptr b4] (some refusal) m K := by
  refine DF_of (tb := tb) (od := od) (gn := fn) (id := 0) (d := 6) (ops := ops) (ol := ops.toList.tail) (rest := sR body) (tys := #[]) (ty := 20) (pos := "class.go:167") (af := #[])
    Go.Proofs.Tryd.func28 (by kernel_rfl) follows (by kernel_rfl) (by kernel_rfl) (by kernel_rfl) (of_decide_eq_true (by kernel_rfl)) (by kernel_rfl) ?_
  have e : (NewC m #[] T_class_refusal fun _ m1 => St1 m1 b2 0 (.int .u64 0) fun m2 => St1 m2 b2 1 (.int .u64 0) fun m3 => St1 m3 b2 2 (.int .u64 0) fun m4 => St1 m4 b2 3 (.int .u64 0) fun m5 =>
    St1 m5 b3 0 (.int .i64 0) fun m6 => St1 m6 b4 0 (.int .i64 2) K) = hops P ops (fun ρ m => cpt P od (fun _ _ => False) (sR body) (doneQ K) ρ m) (fun _ _ => False) ops.toList.tail (upd (argE (#[ptr b2, ptr b3, ptr b4] : Array Value).toList) 6 (recV (some refusal))) m := by kernel_rfl
  exact Eq.mp e h
end class_Parse_1

/-- Reading the results. -/
def outP (b2 b3 b4 : Nat) (R : Ending → Mem → Prop) (m : Mem) : Prop :=
  LdV m b2 0 fun v => UnI v .u64 fun x0 => LdV m b2 1 fun v => UnI v .u64 fun x1 => LdV m b2 2 fun v => UnI v .u64 fun x2 => LdV m b2 3 fun v => UnI v .u64 fun x3 =>
  LdV m b3 0 fun v => UnI v .i64 fun n => LdV m b4 0 fun v => UnI v .i64 fun e => R (.returned (.tuple #[.agg #[.int .u64 x0, .int .u64 x1, .int .u64 x2, .int .u64 x3], .int .i64 n, .int .i64 e])) m
namespace class_Parse
open class_Parse_1 (ptr)
theorem okD (s : ByteArray) (R : Ending → Mem → Prop) (m : Mem) (h : NewC m z4 T_api_Set fun b2 m1 => NewC m1 #[.int .i64 0] T_int fun b3 m2 => NewC m2 #[.int .i64 0] T_api_Errno fun b4 m3 =>
    e0 s b2 b3 b4 (DefR P class_Parse_1.id #[ptr b2, ptr b3, ptr b4] (outP b2 b3 b4 R)) m3) : HC P id #[.string s] m R := by
  refine HC_defer (tb := tb) (od := od) (fn := fn) (gn := Go.Proofs.Tryd.f28) (r0 := sL (fn.body.getD .skip)) (rest := body) (id := 1) (d := 8) (lo := 5) (g := class_Parse_1.id) (capOps := #[.tmp 2, .tmp 3, .tmp 4]) (ty1 := 1) (ty2 := 0) (p1 := "class.go:166") (p2 := "class.go:166")
    (a1' := #[]) (a2 := #[Go.Edge.mk 0 Go.Ground.data]) (tys := #[])
    Go.Proofs.Tryd.func11 (by kernel_rfl) Go.Proofs.Tryd.func28 (by kernel_rfl) (by kernel_rfl) (by kernel_rfl) follows (by kernel_rfl) cok (by kernel_rfl) (by kernel_rfl) (of_decide_eq_true (by kernel_rfl)) ?_
  have e : (NewC m z4 T_api_Set fun b2 m1 => NewC m1 #[.int .i64 0] T_int fun b3 m2 => NewC m2 #[.int .i64 0] T_api_Errno fun b4 m3 =>
      Exit.normal = Exit.normal ∧ cpt P od (panicR (DefR P class_Parse_1.id #[ptr b2, ptr b3, ptr b4] (outP b2 b3 b4 R))) body (bodyQ P fnR (DefR P class_Parse_1.id #[ptr b2, ptr b3, ptr b4] (outP b2 b3 b4 R)))
        (upd (upd (upd (upd (argE (#[.string s] : Array Value).toList) 2 (.pointer (some ⟨b2, 0, none⟩))) 3 (.pointer (some ⟨b3, 0, none⟩))) 4 (.pointer (some ⟨b4, 0, none⟩))) 8 (.func (.func 28) #[] #[.pointer (some ⟨b2, 0, none⟩), .pointer (some ⟨b3, 0, none⟩), .pointer (some ⟨b4, 0, none⟩)])) m3) =
      cpt P od (fun _ _ => False) (sL (fn.body.getD .skip)) (fun e ρ m => e = Exit.normal ∧ restP P od fn body class_Parse_1.id ((#[.tmp 2, .tmp 3, .tmp 4] : Array Operand).map (evr ρ)) R (upd ρ 8 (.func (.func class_Parse_1.id) #[] ((#[.tmp 2, .tmp 3, .tmp 4] : Array Operand).map (evr ρ)))) m) (argE (#[.string s] : Array Value).toList) m := by kernel_rfl
  refine Eq.mp e ?_
  intro b2 h2 b3 h3 b4 h4
  exact ⟨rfl, ok _ _ _ _ _ _ (h b2 h2 b3 h3 b4 h4)⟩
end class_Parse
end Go.E
