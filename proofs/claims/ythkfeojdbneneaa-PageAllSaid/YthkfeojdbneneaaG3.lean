/- Printed by this project's own gen.py: the shallow forms of Go functions over the logic H, and that the machine meets them. -/
import Derived.Test.YthkfeojdbneneaaH7
import Derived.Test.YthkfeojdbneneaaProg
set_option linter.unusedVariables false
set_option maxRecDepth 100000
namespace Go.E
open Go.H
noncomputable section
noncomputable abbrev P : Program := Go.Proofs.Try.prog
theorem follows : P.follows .mixedOrders = true := by kernel_rfl
abbrev T_int : TypeId := 3
abbrev T_map_int_bool : TypeId := 44
abbrev T_page_Pages : TypeId := 46
abbrev T_ptr_page_Pages : TypeId := 24
abbrev T_sl_int : TypeId := 33
abbrev T_sl_uint8 : TypeId := 22
abbrev T_uint8 : TypeId := 5
namespace page_safe_int
def id : FuncId := 20
end page_safe_int
namespace page_safe_s_int
def id : FuncId := 22
end page_safe_s_int
namespace page_safe_int_1
def id : FuncId := 26
end page_safe_int_1
namespace page_safe_s_int_1
def id : FuncId := 27
end page_safe_s_int_1
def eyotlaw3_PageWhole.id : FuncId := 3
def eyotlaw3_PageBytes.id : FuncId := 4
def eyotlaw3_PageFaults.id : FuncId := 5
def eyotlaw3_PageAll.id : FuncId := 6
def eyotlaw3_begun.id : FuncId := 7
def page_New.id : FuncId := 8
def page_Pages_Count.id : FuncId := 9
def page_Pages_Read.id : FuncId := 10
def page_Pages_Reads.id : FuncId := 11
def page_Pages_Fault.id : FuncId := 12
def eyotref13_SameInts.id : FuncId := 13
def eyotlaw0_Twin.id : FuncId := 14
def eyotlaw0_Kept.id : FuncId := 15
def eyotlaw0_Spoil.id : FuncId := 16
def page_Pages_Clear.id : FuncId := 17
def page_Pages_Len.id : FuncId := 18
def slices_Clone_s_byte_byte.id : FuncId := 19
def page_Pages_Count_1.id : FuncId := 21
def page_Pages_Reads_1.id : FuncId := 23
def slices_Clone_s_int_int.id : FuncId := 24
def page_Pages_Len_1.id : FuncId := 25
/-! ### eyot/eyotlaw3.PageWhole -/
namespace eyotlaw3_PageWhole
noncomputable def fn : Func := Go.Proofs.Try.f3
noncomputable def body : Code := fn.body.getD .skip
def od : Nat → List (Nat × Bool) := fun _ => []
def tb : Nat → List Row := fun _ => []
def k2E (K : Option Addr → Nat → Nat → Int → Option Addr → Option Addr → Nat → Nat → Int → Option Addr → Nat → Nat → Mem → Prop) : Env → Mem → Prop := fun ρ m => UnS (ρ 0) fun x0a x0l x0c => UnI (ρ 5) .i64 fun x5 => UnP (ρ 6) fun x6 => UnS (ρ 8) fun x8a x8l x8c => UnI (ρ 9) .i64 fun x9 => UnS (ρ 10) fun x10a x10l x10c => K x0a x0l x0c x5 x6 x8a x8l x8c x9 x10a x10l x10c m
def k2 (K1 : Option Addr → Nat → Nat → Int → Option Addr → Option Addr → Nat → Nat → Int → Mem → Prop) (x0a : Option Addr) (x0l : Nat) (x0c : Nat) (x5 : Int) (x6 : Option Addr) (x8a : Option Addr) (x8l : Nat) (x8c : Nat) (x9 : Int) (x10a : Option Addr) (x10l : Nat) (x10c : Nat) (R : Ending → Mem → Prop) (m : Mem) : Prop :=
  BiN P .append #[T_sl_uint8, T_sl_uint8] T_sl_uint8 #[false, false] #[.slice x8a x8l x8c, .slice x10a x10l x10c] m (fun w m1 =>
    UnS w fun x79a x79l x79c =>
    K1 x0a x0l x0c x5 x6 x79a x79l x79c (IntKind.i64.wrap (x9 + 1)) m1) (panicR R)
noncomputable def k2A (K1 : Option Addr → Nat → Nat → Int → Option Addr → Option Addr → Nat → Nat → Int → Mem → Prop) (R : Ending → Mem → Prop) : ACode := (.code (sR (sR (bB (sL (sR (lP (bB (sR (sL (sR (sR (sR (sR (sR (sR (sR (body))))))))))))))))))
def k3E (K : Option Addr → Nat → Nat → Int → Option Addr → Nat → Nat → Mem → Prop) : Env → Mem → Prop := fun ρ m => UnS (ρ 0) fun x0a x0l x0c => UnI (ρ 5) .i64 fun x5 => UnS (ρ 8) fun x8a x8l x8c => K x0a x0l x0c x5 x8a x8l x8c m
def k3  (x0a : Option Addr) (x0l : Nat) (x0c : Nat) (x5 : Int) (x8a : Option Addr) (x8l : Nat) (x8c : Nat) (R : Ending → Mem → Prop) (m : Mem) : Prop :=
  MkS P m T_sl_uint8 (.int .i64 4001) (.int .i64 4001) (fun w m1 =>
    UnS w fun x81a x81l x81c =>
    HC P page_New.id #[.slice x81a x81l x81c, .int .i64 x5] m1 (Cont (fun v m2 =>
        UnTup v fun us0 =>
        UnCons us0 fun w us1 =>
        UnP w fun x83_0 =>
        UnCons us1 fun w us2 =>
        UnI w .i64 fun x83_1 =>
        UnNil us2 (
          B2S m2 x8a x8l fun s87 =>
          B2S m2 x0a x0l fun s89 =>
          Br (s87.toList == s89.toList) (
            R (.returned (.bool (x83_1 == 1))) m2) (
            R (.returned (.bool false)) m2))) (panicR R))) (panicR R)
noncomputable def k3A  (R : Ending → Mem → Prop) : ACode := (.code (sR (sR (sR (sR (sR (sR (sR (sR (body))))))))))
def l1E (K : Option Addr → Nat → Nat → Int → Option Addr → Option Addr → Nat → Nat → Int → Mem → Prop) : Env → Mem → Prop := fun ρ m => UnS (ρ 0) fun x0a x0l x0c => UnI (ρ 5) .i64 fun x5 => UnP (ρ 6) fun x6 => UnS (ρ 8) fun x8a x8l x8c => UnI (ρ 9) .i64 fun x9 => K x0a x0l x0c x5 x6 x8a x8l x8c x9 m
def l1B  (K1 : Option Addr → Nat → Nat → Int → Option Addr → Option Addr → Nat → Nat → Int → Mem → Prop) (x0a : Option Addr) (x0l : Nat) (x0c : Nat) (x5 : Int) (x6 : Option Addr) (x8a : Option Addr) (x8l : Nat) (x8c : Nat) (x9 : Int) (R : Ending → Mem → Prop) (m : Mem) : Prop :=
  HC P page_Pages_Count.id #[.pointer x6] m (Cont (fun v m1 =>
      UnI v .i64 fun x37 =>
      Br (decide (x9 < x37)) (
        Br (decide (x9 < 500)) (
          HC P page_Pages_Read.id #[.pointer x6, .int .i64 x9] m1 (Cont (fun v m2 =>
              UnTup v fun us0 =>
              UnCons us0 fun w us1 =>
              UnS w fun x48_0a x48_0l x48_0c =>
              UnCons us1 fun w us2 =>
              UnI w .i64 fun x48_1 =>
              UnNil us2 (
                Br (x48_1 != 0) (
                  R (.returned (.bool false)) m2) (
                  Br (decide (((x48_0l : Nat) : Int) < 1)) (
                    R (.returned (.bool false)) m2) (
                    Br (decide (((x48_0l : Nat) : Int) > x5)) (
                      R (.returned (.bool false)) m2) (
                      Br (decide (((x48_0l : Nat) : Int) < x5)) (
                        HC P page_Pages_Count.id #[.pointer x6] m2 (Cont (fun v m3 =>
                        UnI v .i64 fun x72 =>
                        Br (decide (x9 < (IntKind.i64.wrap (x72 - 1)))) (
                        R (.returned (.bool false)) m3) (
                        k2 K1 x0a x0l x0c x5 x6 x8a x8l x8c x9 x48_0a x48_0l x48_0c R m3)) (panicR R))) (
                        k2 K1 x0a x0l x0c x5 x6 x8a x8l x8c x9 x48_0a x48_0l x48_0c R m2)))))) (panicR R))) (
          k3  x0a x0l x0c x5 x8a x8l x8c R m1)) (
        k3  x0a x0l x0c x5 x8a x8l x8c R m1)) (panicR R))
def l1  (x0a : Option Addr) (x0l : Nat) (x0c : Nat) (x5 : Int) (x6 : Option Addr) (x8a : Option Addr) (x8l : Nat) (x8c : Nat) (x9 : Int) (R : Ending → Mem → Prop) (m : Mem) : Prop :=
  ∃ (I : Nat → Option Addr → Nat → Nat → Int → Option Addr → Option Addr → Nat → Nat → Int → Mem → Prop) (N : Nat), I N x0a x0l x0c x5 x6 x8a x8l x8c x9 m ∧ ∀ N x0a x0l x0c x5 x6 x8a x8l x8c x9 m, I N x0a x0l x0c x5 x6 x8a x8l x8c x9 m → l1B  (fun x0a x0l x0c x5 x6 x8a x8l x8c x9 m => ∃ N1, N1 < N ∧ I N1 x0a x0l x0c x5 x6 x8a x8l x8c x9 m) x0a x0l x0c x5 x6 x8a x8l x8c x9 R m
noncomputable def l1A  (K1 : Option Addr → Nat → Nat → Int → Option Addr → Option Addr → Nat → Nat → Int → Mem → Prop) (R : Ending → Mem → Prop) : ACode := (.seq (.code (sL (lP (bB (sR (sL (sR (sR (sR (sR (sR (sR (sR (body)))))))))))))) (.seq (.block 1 (.seq (.code (sL (bB (sL (sR (lP (bB (sR (sL (sR (sR (sR (sR (sR (sR (sR (body))))))))))))))))) (.seq (.code (sL (sR (bB (sL (sR (lP (bB (sR (sL (sR (sR (sR (sR (sR (sR (sR (body)))))))))))))))))) (.cut (k2E fun x0a x0l x0c x5 x6 x8a x8l x8c x9 x10a x10l x10c m => k2 K1 x0a x0l x0c x5 x6 x8a x8l x8c x9 x10a x10l x10c R m) (sR (sR (bB (sL (sR (lP (bB (sR (sL (sR (sR (sR (sR (sR (sR (sR (body))))))))))))))))))))) (.code (sR (sR (lP (bB (sR (sL (sR (sR (sR (sR (sR (sR (sR (body)))))))))))))))))
def e0 (a0a : Option Addr) (a0l : Nat) (a0c : Nat) (a1 : Int) (R : Ending → Mem → Prop) (m : Mem) : Prop :=
  HC P eyotlaw3_begun.id #[] m (Cont (fun v m1 =>
      UnB v fun x14 =>
      Br (!x14) (
        R (.returned (.bool false)) m1) (
        Br (decide (((a0l : Nat) : Int) > 400)) (
          R (.returned (.bool true)) m1) (
          HC P page_New.id #[.slice a0a a0l a0c, .int .i64 (IntKind.i64.wrap (1 + (Int.tmod (IntKind.i64.wrap a1) 60)))] m1 (Cont (fun v m2 =>
              UnTup v fun us0 =>
              UnCons us0 fun w us1 =>
              UnP w fun x26_0 =>
              UnCons us1 fun w us2 =>
              UnI w .i64 fun x26_1 =>
              UnNil us2 (
                Br (x26_1 != 0) (
                  R (.returned (.bool false)) m2) (
                  Br x26_0.isNone (
                    R (.returned (.bool false)) m2) (
                    l1  a0a a0l a0c (IntKind.i64.wrap (1 + (Int.tmod (IntKind.i64.wrap a1) 60))) x26_0 none 0 0 0 R m2)))) (panicR R))))) (panicR R))
noncomputable def e0A (R : Ending → Mem → Prop) : ACode := (.seq (.code (sL (body))) (.seq (.code (sL (sR (body)))) (.seq (.code (sL (sR (sR (body))))) (.seq (.code (sL (sR (sR (sR (body)))))) (.seq (.code (sL (sR (sR (sR (sR (body))))))) (.seq (.code (sL (sR (sR (sR (sR (sR (body)))))))) (.seq (.code (sL (sR (sR (sR (sR (sR (sR (body))))))))) (.seq (.seq (.code (sL (sL (sR (sR (sR (sR (sR (sR (sR (body))))))))))) (.block 0 (.cut (l1E fun x0a x0l x0c x5 x6 x8a x8l x8c x9 m => l1  x0a x0l x0c x5 x6 x8a x8l x8c x9 R m) (.loop (lP (bB (sR (sL (sR (sR (sR (sR (sR (sR (sR (body)))))))))))))))) (.cut (k3E fun x0a x0l x0c x5 x8a x8l x8c m => k3  x0a x0l x0c x5 x8a x8l x8c R m) (sR (sR (sR (sR (sR (sR (sR (sR (body))))))))))))))))))
theorem k2_eq (K1 : Option Addr → Nat → Nat → Int → Option Addr → Option Addr → Nat → Nat → Int → Mem → Prop) (R : Ending → Mem → Prop) (x0a : Option Addr) (x0l : Nat) (x0c : Nat) (x5 : Int) (x6 : Option Addr) (x8a : Option Addr) (x8l : Nat) (x8c : Nat) (x9 : Int) (x10a : Option Addr) (x10l : Nat) (x10c : Nat) (ρ : Env) (m : Mem) : k2 K1 x0a x0l x0c x5 x6 x8a x8l x8c x9 x10a x10l x10c R m = acpt P od (panicR R) (k2A K1 R) (blockQ 1 (thenQ (acpt P od (panicR R) (.code (sR (sR (lP (bB (sR (sL (sR (sR (sR (sR (sR (sR (sR (body))))))))))))))) (thenQ (l1E K1) (blockQ 0 (thenQ (acpt P od (panicR R) (.cut (k3E fun x0a x0l x0c x5 x8a x8l x8c m => k3  x0a x0l x0c x5 x8a x8l x8c R m) (sR (sR (sR (sR (sR (sR (sR (sR (body)))))))))) (bodyQ P fn R)) (bodyQ P fn R))))) (thenQ (l1E K1) (blockQ 0 (thenQ (acpt P od (panicR R) (.cut (k3E fun x0a x0l x0c x5 x8a x8l x8c m => k3  x0a x0l x0c x5 x8a x8l x8c R m) (sR (sR (sR (sR (sR (sR (sR (sR (body)))))))))) (bodyQ P fn R)) (bodyQ P fn R)))))) (upd (upd (upd (upd (upd (upd ρ 10 (.slice x10a x10l x10c)) 9 (.int .i64 x9)) 8 (.slice x8a x8l x8c)) 6 (.pointer x6)) 5 (.int .i64 x5)) 0 (.slice x0a x0l x0c)) m := by kernel_rfl
theorem k2_er (K1 : Option Addr → Nat → Nat → Int → Option Addr → Option Addr → Nat → Nat → Int → Mem → Prop) (R : Ending → Mem → Prop) : (k2A K1 R).erase = sR (sR (bB (sL (sR (lP (bB (sR (sL (sR (sR (sR (sR (sR (sR (sR (body)))))))))))))))) := by kernel_rfl
theorem k2_ok (K1 : Option Addr → Nat → Nat → Int → Option Addr → Option Addr → Nat → Nat → Int → Mem → Prop) (R : Ending → Mem → Prop) (ρ : Env) (m : Mem) (h : (k2E fun x0a x0l x0c x5 x6 x8a x8l x8c x9 x10a x10l x10c m => k2 K1 x0a x0l x0c x5 x6 x8a x8l x8c x9 x10a x10l x10c R m) ρ m) : cpt P od (panicR R) (sR (sR (bB (sL (sR (lP (bB (sR (sL (sR (sR (sR (sR (sR (sR (sR (body))))))))))))))))) (blockQ 1 (thenQ (acpt P od (panicR R) (.code (sR (sR (lP (bB (sR (sL (sR (sR (sR (sR (sR (sR (sR (body))))))))))))))) (thenQ (l1E K1) (blockQ 0 (thenQ (acpt P od (panicR R) (.cut (k3E fun x0a x0l x0c x5 x8a x8l x8c m => k3  x0a x0l x0c x5 x8a x8l x8c R m) (sR (sR (sR (sR (sR (sR (sR (sR (body)))))))))) (bodyQ P fn R)) (bodyQ P fn R))))) (thenQ (l1E K1) (blockQ 0 (thenQ (acpt P od (panicR R) (.cut (k3E fun x0a x0l x0c x5 x8a x8l x8c m => k3  x0a x0l x0c x5 x8a x8l x8c R m) (sR (sR (sR (sR (sR (sR (sR (sR (body)))))))))) (bodyQ P fn R)) (bodyQ P fn R)))))) ρ m := by
  unfold k2E at h
  obtain ⟨x0a, x0l, x0c, e0, h⟩ := h.ex
  obtain ⟨x5, e5, h⟩ := h.ex
  obtain ⟨x6, e6, h⟩ := h.ex
  obtain ⟨x8a, x8l, x8c, e8, h⟩ := h.ex
  obtain ⟨x9, e9, h⟩ := h.ex
  obtain ⟨x10a, x10l, x10c, e10, h⟩ := h.ex
  rw [← upd_self e0, ← upd_self e5, ← upd_self e6, ← upd_self e8, ← upd_self e9, ← upd_self e10]
  rw [← k2_er K1 R]
  refine acpt_sound (P := P) (k2A K1 R) _ _ _ True.intro ?_
  exact Eq.mp (k2_eq K1 R x0a x0l x0c x5 x6 x8a x8l x8c x9 x10a x10l x10c ρ m) h
theorem k3_eq  (R : Ending → Mem → Prop) (x0a : Option Addr) (x0l : Nat) (x0c : Nat) (x5 : Int) (x8a : Option Addr) (x8l : Nat) (x8c : Nat) (ρ : Env) (m : Mem) : k3  x0a x0l x0c x5 x8a x8l x8c R m = acpt P od (panicR R) (k3A  R) (bodyQ P fn R) (upd (upd (upd ρ 8 (.slice x8a x8l x8c)) 5 (.int .i64 x5)) 0 (.slice x0a x0l x0c)) m := by kernel_rfl
theorem k3_er  (R : Ending → Mem → Prop) : (k3A  R).erase = sR (sR (sR (sR (sR (sR (sR (sR (body)))))))) := by kernel_rfl
theorem k3_ok  (R : Ending → Mem → Prop) (ρ : Env) (m : Mem) (h : (k3E fun x0a x0l x0c x5 x8a x8l x8c m => k3  x0a x0l x0c x5 x8a x8l x8c R m) ρ m) : cpt P od (panicR R) (sR (sR (sR (sR (sR (sR (sR (sR (body))))))))) (bodyQ P fn R) ρ m := by
  unfold k3E at h
  obtain ⟨x0a, x0l, x0c, e0, h⟩ := h.ex
  obtain ⟨x5, e5, h⟩ := h.ex
  obtain ⟨x8a, x8l, x8c, e8, h⟩ := h.ex
  rw [← upd_self e0, ← upd_self e5, ← upd_self e8]
  rw [← k3_er  R]
  refine acpt_sound (P := P) (k3A  R) _ _ _ True.intro ?_
  exact Eq.mp (k3_eq  R x0a x0l x0c x5 x8a x8l x8c ρ m) h
theorem l1_eq  (K1 : Option Addr → Nat → Nat → Int → Option Addr → Option Addr → Nat → Nat → Int → Mem → Prop) (R : Ending → Mem → Prop) (x0a : Option Addr) (x0l : Nat) (x0c : Nat) (x5 : Int) (x6 : Option Addr) (x8a : Option Addr) (x8l : Nat) (x8c : Nat) (x9 : Int) (ρ : Env) (m : Mem) : l1B  K1 x0a x0l x0c x5 x6 x8a x8l x8c x9 R m = acpt P od (panicR R) (l1A  K1 R) (thenQ (l1E K1) (blockQ 0 (thenQ (acpt P od (panicR R) (.cut (k3E fun x0a x0l x0c x5 x8a x8l x8c m => k3  x0a x0l x0c x5 x8a x8l x8c R m) (sR (sR (sR (sR (sR (sR (sR (sR (body)))))))))) (bodyQ P fn R)) (bodyQ P fn R)))) (upd (upd (upd (upd (upd ρ 9 (.int .i64 x9)) 8 (.slice x8a x8l x8c)) 6 (.pointer x6)) 5 (.int .i64 x5)) 0 (.slice x0a x0l x0c)) m := by kernel_rfl
theorem l1_er  (K1 : Option Addr → Nat → Nat → Int → Option Addr → Option Addr → Nat → Nat → Int → Mem → Prop) (R : Ending → Mem → Prop) : (l1A  K1 R).erase = lP (bB (sR (sL (sR (sR (sR (sR (sR (sR (sR (body))))))))))) := by kernel_rfl
theorem l1_ok  (R : Ending → Mem → Prop) (ρ : Env) (m : Mem) (h : (l1E fun x0a x0l x0c x5 x6 x8a x8l x8c x9 m => l1  x0a x0l x0c x5 x6 x8a x8l x8c x9 R m) ρ m) : cpt P od (panicR R) (.loop (lP (bB (sR (sL (sR (sR (sR (sR (sR (sR (sR (body))))))))))))) (blockQ 0 (thenQ (acpt P od (panicR R) (.cut (k3E fun x0a x0l x0c x5 x8a x8l x8c m => k3  x0a x0l x0c x5 x8a x8l x8c R m) (sR (sR (sR (sR (sR (sR (sR (sR (body)))))))))) (bodyQ P fn R)) (bodyQ P fn R))) ρ m := by
  unfold l1E at h
  obtain ⟨x0a, x0l, x0c, e0, h⟩ := h.ex
  obtain ⟨x5, e5, h⟩ := h.ex
  obtain ⟨x6, e6, h⟩ := h.ex
  obtain ⟨x8a, x8l, x8c, e8, h⟩ := h.ex
  obtain ⟨x9, e9, h⟩ := h.ex
  obtain ⟨I, N, h0, hs⟩ := h
  refine ⟨fun N => l1E (I N), N, (by show l1E (I N) ρ m; unfold l1E; rw [e0, e5, e6, e8, e9]; exact h0), ?_⟩
  clear h0 e0 e5 e6 e8 e9
  intro N ρ m h
  unfold l1E at h
  obtain ⟨x0a, x0l, x0c, e0, h⟩ := h.ex
  obtain ⟨x5, e5, h⟩ := h.ex
  obtain ⟨x6, e6, h⟩ := h.ex
  obtain ⟨x8a, x8l, x8c, e8, h⟩ := h.ex
  obtain ⟨x9, e9, h⟩ := h.ex
  refine cpt_mono (P := P) (lP (bB (sR (sL (sR (sR (sR (sR (sR (sR (sR (body)))))))))))) (Q := thenQ (l1E fun x0a x0l x0c x5 x6 x8a x8l x8c x9 m => ∃ N1, N1 < N ∧ I N1 x0a x0l x0c x5 x6 x8a x8l x8c x9 m) (blockQ 0 (thenQ (acpt P od (panicR R) (.cut (k3E fun x0a x0l x0c x5 x8a x8l x8c m => k3  x0a x0l x0c x5 x8a x8l x8c R m) (sR (sR (sR (sR (sR (sR (sR (sR (body)))))))))) (bodyQ P fn R)) (bodyQ P fn R)))) (fun e ρ m h => ?_) ρ m ?_
  · cases e with
    | normal =>
      have h : l1E (fun x0a x0l x0c x5 x6 x8a x8l x8c x9 m => ∃ N1, N1 < N ∧ I N1 x0a x0l x0c x5 x6 x8a x8l x8c x9 m) ρ m := h
      unfold l1E at h
      obtain ⟨x0a, x0l, x0c, e0, h⟩ := h.ex
      obtain ⟨x5, e5, h⟩ := h.ex
      obtain ⟨x6, e6, h⟩ := h.ex
      obtain ⟨x8a, x8l, x8c, e8, h⟩ := h.ex
      obtain ⟨x9, e9, h⟩ := h.ex
      obtain ⟨N1, hlt, h⟩ := h
      exact ⟨N1, hlt, (by show l1E (I N1) ρ m; unfold l1E; rw [e0, e5, e6, e8, e9]; exact h)⟩
    | _ => exact h
  have hh := hs N x0a x0l x0c x5 x6 x8a x8l x8c x9 m h
  generalize (fun x0a x0l x0c x5 x6 x8a x8l x8c x9 m => ∃ N1, N1 < N ∧ I N1 x0a x0l x0c x5 x6 x8a x8l x8c x9 m : Option Addr → Nat → Nat → Int → Option Addr → Option Addr → Nat → Nat → Int → Mem → Prop) = K1 at hh ⊢
  rw [← upd_self e0, ← upd_self e5, ← upd_self e6, ← upd_self e8, ← upd_self e9]
  rw [← l1_er  K1 R]
  refine acpt_sound (P := P) (l1A  K1 R) _ _ _ ⟨⟨True.intro, ⟨⟨(fun ρ m h => k2_ok K1 R ρ m h), True.intro⟩, True.intro⟩⟩, True.intro⟩ ?_
  exact Eq.mp (l1_eq  K1 R x0a x0l x0c x5 x6 x8a x8l x8c x9 ρ m) hh
theorem e0_eq (a0a : Option Addr) (a0l : Nat) (a0c : Nat) (a1 : Int) (R : Ending → Mem → Prop) (m : Mem) : e0 a0a a0l a0c a1 R m = acpt P od (panicR R) (e0A R) (bodyQ P fn R) (argE (#[.slice a0a a0l a0c, .int .u8 a1] : Array Value).toList) m := by kernel_rfl
theorem ok (a0a : Option Addr) (a0l : Nat) (a0c : Nat) (a1 : Int) (R : Ending → Mem → Prop) (m : Mem) (h : e0 a0a a0l a0c a1 R m) : HC P id #[.slice a0a a0l a0c, .int .u8 a1] m R := by
  refine HC_of (fn := fn) (c := body) (od := od) (tb := tb) Go.Proofs.Try.func3 (by kernel_rfl) (by kernel_rfl) follows (by kernel_rfl) (of_decide_eq_true (by kernel_rfl)) ?_
  have he : (e0A R).erase = body := by kernel_rfl
  rw [← he]
  refine acpt_sound (P := P) (e0A R) _ _ _ ⟨⟨⟨⟨⟨⟨⟨⟨(fun ρ m h => k3_ok  R ρ m h), ⟨(fun ρ m h => l1_ok  R ρ m h), True.intro⟩⟩, True.intro⟩, True.intro⟩, True.intro⟩, True.intro⟩, True.intro⟩, True.intro⟩, True.intro⟩ ?_
  exact Eq.mp (e0_eq a0a a0l a0c a1 R m) h
end eyotlaw3_PageWhole

/-! ### eyot/eyotlaw3.PageBytes -/
namespace eyotlaw3_PageBytes
noncomputable def fn : Func := Go.Proofs.Try.f4
noncomputable def body : Code := fn.body.getD .skip
def od : Nat → List (Nat × Bool) := fun | 13 => [(0, false), (1, false), (2, false), (3, true), (4, true), (5, true), (6, false), (7, false), (8, false), (9, false), (10, false), (11, true), (12, true), (13, true), (14, true), (15, true), (16, true), (17, true), (18, false), (19, false), (20, false), (21, false), (22, false), (23, false), (24, false), (25, false), (26, false), (27, false), (28, false), (29, false), (30, false), (31, false), (32, true), (35, true), (37, true), (38, true), (33, false), (34, false), (36, false), (39, false), (40, false), (41, false), (42, true), (44, true), (46, true), (47, true), (43, false), (45, false), (48, false), (49, false), (50, false), (51, false), (52, false), (53, false), (54, false), (55, false), (56, false)] | _ => []
def tb : Nat → List Row := fun | 13 => [(0, 4096, 69), (1, 295147905179352825856, 70), (2, 590295810358705651712, 71), (4, 1180591620717411304448, 72), (4, 1180591620717411303552, 73), (28, 8264141345021879123968, 74), (4, 1180591620717411305472, 75), (68, 20070057552195992158208, 76), (164, 48404256449413863440384, 77), (260, 76738455346631734722560, 78), (516, 151115727451828646838272, 79), (1024, 302231454903657293678592, 80), (1024, 302231454903657293677568, 81), (1024, 302231454903657293676672, 82), (13312, 3929008913747544817795072, 83), (19456, 5742397643169488579854336, 84), (33792, 9973638011820690691325952, 85), (1024, 302231454903657293676545, 86), (1024, 302231454903657293677568, 87), (394240, 116359110137908058065469440, 88), (525312, 155044736365576191656067072, 89), (1115136, 329130054390082792813756416, 90), (2098176, 619272251097593794743238656, 91), (4195328, 1237940039285380274899124224, 92), (8388608, 2475880078570760549798264832, 93), (25165824, 7427640235712281649394745344, 94), (41943040, 12379400392853802748991242240, 95), (75497472, 19807040628566084398385987584, 96), (134217728, 39614081257132168796772040704, 97), (402653184, 118842243771396506390315925504, 98), (671088640, 198070406285660843983859875840, 99), (1207959552, 316912650057057350374175801344, 100), (2147483648, 633825300114114700748351602944, 101), (6442450944, 1901475900342344102245054808064, 102), (10737418240, 3169126500570573503741758013440, 103), (2147483648, 633825300114114700748351602816, 104), (53687091200, 15845632502852867518708790067200, 105), (2147483648, 633825300114114700748351602689, 106), (139586437120, 41198644507417455548642854174720, 107), (345744867328, 102045873318372466820484608032768, 108), (551903297536, 162893102129327478092326361890816, 109), (1108101562368, 324518553658426726783156020576256, 110), (2199023255552, 649037107316853453566312041152768, 111), (6597069766656, 1947111321950560360698936123457536, 112), (2199023255552, 649037107316853453566312041152640, 113), (28587302322176, 8437482395119094896362056534982656, 114), (2199023255552, 649037107316853453566312041152513, 115), (72567767433216, 21418224541456163967688297358032896, 116), (178120883699712, 52572005692665129738871275333353472, 117), (283673999966208, 83725786843874095510054253308674048, 118), (571746046443520, 166153499473114484112975882535043072, 119), (1125899906842624, 332306998946228968225951765070086400, 120), (3377699720527872, 996920996838686904677855295210258432, 121), (5629499534213120, 1661534994731144841129758825350430720, 122), (10133099161583616, 2990762990516060714033565885630775296, 123), (19140298416324608, 5649218982085892459841180006191464448, 124), (72057594037927935, 10633823966279326983230456482242756608, 7)] | _ => []
def e0 (a0a : Option Addr) (a0l : Nat) (a0c : Nat) (a1 : Int) (a2 : Int) (R : Ending → Mem → Prop) (m : Mem) : Prop :=
  HC P eyotlaw3_begun.id #[] m (Cont (fun v m1 =>
      UnB v fun x17 =>
      Br (!x17) (
        R (.returned (.bool false)) m1) (
        Br (((a0l : Nat) : Int) == 0) (
          R (.returned (.bool true)) m1) (
          Br (decide (((a0l : Nat) : Int) > 300)) (
            R (.returned (.bool true)) m1) (
            HC P page_New.id #[.slice a0a a0l a0c, .int .i64 (IntKind.i64.wrap (1 + (Int.tmod (IntKind.i64.wrap a1) 40)))] m1 (Cont (fun v m2 =>
                UnTup v fun us0 =>
                UnCons us0 fun w us1 =>
                UnP w fun x34_0 =>
                UnCons us1 fun w us2 =>
                UnI w .i64 fun x34_1 =>
                UnNil us2 (
                  Br (x34_1 != 0) (
                    R (.returned (.bool false)) m2) (
                    Br x34_0.isNone (
                      R (.returned (.bool false)) m2) (
                      NzI ((a0l : Nat) : Int) (
                        NzI (IntKind.i64.wrap (1 + (Int.tmod (IntKind.i64.wrap a1) 40))) (
                        HC P page_Pages_Read.id #[.pointer x34_0, .int .i64 (IntKind.i64.wrap (Int.tdiv (Int.tmod (IntKind.i64.wrap a2) ((a0l : Nat) : Int)) (IntKind.i64.wrap (1 + (Int.tmod (IntKind.i64.wrap a1) 40)))))] m2 (Cont (fun v m3 =>
                        UnTup v fun us0 =>
                        UnCons us0 fun w us1 =>
                        UnS w fun x53_0a x53_0l x53_0c =>
                        UnCons us1 fun w us2 =>
                        UnI w .i64 fun x53_1 =>
                        UnNil us2 (
                        HC P page_Pages_Count.id #[.pointer x34_0] m3 (Cont (fun v m4 =>
                        UnI v .i64 fun x59 =>
                        HC P page_Pages_Read.id #[.pointer x34_0, .int .i64 x59] m4 (Cont (fun v m5 =>
                        UnTup v fun us0 =>
                        UnCons us0 fun w us1 =>
                        UnS w fun x60_0a x60_0l x60_0c =>
                        UnCons us1 fun w us2 =>
                        UnI w .i64 fun x60_1 =>
                        UnNil us2 (
                        HC P page_Pages_Read.id #[.pointer x34_0, .int .i64 (-1)] m5 (Cont (fun v m6 =>
                        UnTup v fun us0 =>
                        UnCons us0 fun w us1 =>
                        UnS w fun x65_0a x65_0l x65_0c =>
                        UnCons us1 fun w us2 =>
                        UnI w .i64 fun x65_1 =>
                        UnNil us2 (
                        Sub m6 fun r7 =>
                        Br (x53_1 == 0) (
                        NzI (IntKind.i64.wrap (1 + (Int.tmod (IntKind.i64.wrap a1) 40))) (
                        Br (decide ((Int.tmod (Int.tmod (IntKind.i64.wrap a2) ((a0l : Nat) : Int)) (IntKind.i64.wrap (1 + (Int.tmod (IntKind.i64.wrap a1) 40)))) < ((x53_0l : Nat) : Int))) (
                        NzI (IntKind.i64.wrap (1 + (Int.tmod (IntKind.i64.wrap a1) 40))) (
                        IxS x53_0a x53_0l (Int.tmod (Int.tmod (IntKind.i64.wrap a2) ((a0l : Nat) : Int)) (IntKind.i64.wrap (1 + (Int.tmod (IntKind.i64.wrap a1) 40)))) 1 fun x83b x83o =>
                        LdV r7 x83b x83o fun v =>
                        UnI v .u8 fun x84 =>
                        IxS a0a a0l (Int.tmod (IntKind.i64.wrap a2) ((a0l : Nat) : Int)) 1 fun x87b x87o =>
                        LdV m6 x87b x87o fun v =>
                        UnI v .u8 fun x88 =>
                        Br (x84 == x88) (
                        Br (x60_1 == 1) (
                        Br (x65_1 == 1) (
                        HC P page_Pages_Count.id #[.pointer x34_0] m6 (Cont (fun v m8 =>
                        UnI v .i64 fun x101 =>
                        Lk r7 m8 fun r9 =>
                        Br (decide ((IntKind.i64.wrap ((IntKind.i64.wrap (x101 - 1)) * (IntKind.i64.wrap (1 + (Int.tmod (IntKind.i64.wrap a1) 40))))) < ((a0l : Nat) : Int))) (
                        HC P page_Pages_Count.id #[.pointer x34_0] m8 (Cont (fun v m10 =>
                        UnI v .i64 fun x111 =>
                        Lk r9 m10 fun r11 =>
                        Br (decide ((IntKind.i64.wrap (x111 * (IntKind.i64.wrap (1 + (Int.tmod (IntKind.i64.wrap a1) 40))))) ≥ ((a0l : Nat) : Int))) (
                        HC P page_Pages_Reads.id #[.pointer x34_0] m10 (Cont (fun v m12 =>
                        UnS v fun x120a x120l x120c =>
                        Lk r11 m12 fun r13 =>
                        R (.returned (.bool (((x120l : Nat) : Int) == 1))) m12) (panicR R))) (
                        R (.returned (.bool false)) m10)) (panicR R))) (
                        R (.returned (.bool false)) m8)) (panicR R))) (
                        R (.returned (.bool false)) m6)) (
                        R (.returned (.bool false)) m6)) (
                        R (.returned (.bool false)) m6))) (
                        R (.returned (.bool false)) m6))) (
                        R (.returned (.bool false)) m6))) (panicR R)))) (panicR R))) (panicR R)))) (panicR R)))))))) (panicR R)))))) (panicR R))
noncomputable def e0A (R : Ending → Mem → Prop) : ACode := (.code (body))
theorem e0_eq (a0a : Option Addr) (a0l : Nat) (a0c : Nat) (a1 : Int) (a2 : Int) (R : Ending → Mem → Prop) (m : Mem) : e0 a0a a0l a0c a1 a2 R m = acpt P od (panicR R) (e0A R) (bodyQ P fn R) (argE (#[.slice a0a a0l a0c, .int .u8 a1, .int .u16 a2] : Array Value).toList) m := by kernel_rfl
theorem ok (a0a : Option Addr) (a0l : Nat) (a0c : Nat) (a1 : Int) (a2 : Int) (R : Ending → Mem → Prop) (m : Mem) (h : e0 a0a a0l a0c a1 a2 R m) : HC P id #[.slice a0a a0l a0c, .int .u8 a1, .int .u16 a2] m R := by
  refine HC_of (fn := fn) (c := body) (od := od) (tb := tb) Go.Proofs.Try.func4 (by kernel_rfl) (by kernel_rfl) follows (by kernel_rfl) (of_decide_eq_true (by kernel_rfl)) ?_
  have he : (e0A R).erase = body := by kernel_rfl
  rw [← he]
  refine acpt_sound (P := P) (e0A R) _ _ _ True.intro ?_
  exact Eq.mp (e0_eq a0a a0l a0c a1 a2 R m) h
end eyotlaw3_PageBytes

/-! ### eyot/eyotlaw3.PageFaults -/
namespace eyotlaw3_PageFaults
noncomputable def fn : Func := Go.Proofs.Try.f5
noncomputable def body : Code := fn.body.getD .skip
def od : Nat → List (Nat × Bool) := fun _ => []
def tb : Nat → List Row := fun _ => []
def k6E (K : Option Addr → Option Addr → Nat → Nat → Option Addr → Nat → Nat → Int → Int → Bool → Mem → Prop) : Env → Mem → Prop := fun ρ m => UnP (ρ 9) fun x9 => UnS (ρ 11) fun x11a x11l x11c => UnS (ρ 12) fun x12a x12l x12c => UnI (ρ 13) .i64 fun x13 => UnI (ρ 16) .i64 fun x16 => UnB (ρ 17) fun x17 => K x9 x11a x11l x11c x12a x12l x12c x13 x16 x17 m
def k6 (K1 : Option Addr → Option Addr → Nat → Nat → Option Addr → Nat → Nat → Int → Mem → Prop) (K4 : Option Addr → Option Addr → Nat → Nat → Option Addr → Nat → Nat → Int → Int → Mem → Prop) (x9 : Option Addr) (x11a : Option Addr) (x11l : Nat) (x11c : Nat) (x12a : Option Addr) (x12l : Nat) (x12c : Nat) (x13 : Int) (x16 : Int) (x17 : Bool) (R : Ending → Mem → Prop) (m : Mem) : Prop :=
  HC P page_Pages_Read.id #[.pointer x9, .int .i64 x16] m (Cont (fun v m1 =>
      UnTup v fun us0 =>
      UnCons us0 fun w us1 =>
      UnS w fun x106_0a x106_0l x106_0c =>
      UnCons us1 fun w us2 =>
      UnI w .i64 fun x106_1 =>
      UnNil us2 (
        NewC m1 #[.int .i64 x16] T_int fun b111 m2 =>
        BiN P .append #[T_sl_int, T_sl_int] T_sl_int #[false, false] #[.slice x12a x12l x12c, .slice (some ⟨b111, 0, none⟩) 1 1] m2 (fun w m3 =>
          UnS w fun x112a x112l x112c =>
          Br (!((x106_1 == 11) == x17)) (
            R (.returned (.bool false)) m3) (
            Br (x106_1 != 0) (
              Br (x106_1 != 11) (
                R (.returned (.bool false)) m3) (
                K4 x9 x11a x11l x11c x112a x112l x112c x13 (IntKind.i64.wrap (x16 + 1)) m3)) (
              K4 x9 x11a x11l x11c x112a x112l x112c x13 (IntKind.i64.wrap (x16 + 1)) m3))) (panicR R))) (panicR R))
noncomputable def k6A (K1 : Option Addr → Option Addr → Nat → Nat → Option Addr → Nat → Nat → Int → Mem → Prop) (K4 : Option Addr → Option Addr → Nat → Nat → Option Addr → Nat → Nat → Int → Int → Mem → Prop) (R : Ending → Mem → Prop) : ACode := (.code (sR (sR (bB (sL (sR (lP (bB (sR (sR (sR (sR (bB (sL (sR (lP (bB (sR (sL (sR (sR (sR (sR (sR (sR (sR (body)))))))))))))))))))))))))))
def l5E (K : Option Addr → Option Addr → Nat → Nat → Option Addr → Nat → Nat → Int → Int → Bool → Int → Mem → Prop) : Env → Mem → Prop := fun ρ m => UnP (ρ 9) fun x9 => UnS (ρ 11) fun x11a x11l x11c => UnS (ρ 12) fun x12a x12l x12c => UnI (ρ 13) .i64 fun x13 => UnI (ρ 16) .i64 fun x16 => UnB (ρ 17) fun x17 => UnI (ρ 18) .i64 fun x18 => K x9 x11a x11l x11c x12a x12l x12c x13 x16 x17 x18 m
def l5B (K1 : Option Addr → Option Addr → Nat → Nat → Option Addr → Nat → Nat → Int → Mem → Prop) (K4 : Option Addr → Option Addr → Nat → Nat → Option Addr → Nat → Nat → Int → Int → Mem → Prop) (K5 : Option Addr → Option Addr → Nat → Nat → Option Addr → Nat → Nat → Int → Int → Bool → Int → Mem → Prop) (x9 : Option Addr) (x11a : Option Addr) (x11l : Nat) (x11c : Nat) (x12a : Option Addr) (x12l : Nat) (x12c : Nat) (x13 : Int) (x16 : Int) (x17 : Bool) (x18 : Int) (R : Ending → Mem → Prop) (m : Mem) : Prop :=
  IxS x11a x11l x13 1 fun x85b x85o =>
  LdV m x85b x85o fun v =>
  UnS v fun x86a x86l x86c =>
  Br (decide (x18 < ((x86l : Nat) : Int))) (
    Br x17 (
      K5 x9 x11a x11l x11c x12a x12l x12c x13 x16 true (IntKind.i64.wrap (x18 + 1)) m) (
      IxS x11a x11l x13 1 fun x95b x95o =>
      LdV m x95b x95o fun v =>
      UnS v fun x96a x96l x96c =>
      IxS x96a x96l x18 1 fun x98b x98o =>
      LdV m x98b x98o fun v =>
      UnI v .i64 fun x99 =>
      K5 x9 x11a x11l x11c x12a x12l x12c x13 x16 (x99 == x16) (IntKind.i64.wrap (x18 + 1)) m)) (
    k6 K1 K4 x9 x11a x11l x11c x12a x12l x12c x13 x16 x17 R m)
def l5 (K1 : Option Addr → Option Addr → Nat → Nat → Option Addr → Nat → Nat → Int → Mem → Prop) (K4 : Option Addr → Option Addr → Nat → Nat → Option Addr → Nat → Nat → Int → Int → Mem → Prop) (x9 : Option Addr) (x11a : Option Addr) (x11l : Nat) (x11c : Nat) (x12a : Option Addr) (x12l : Nat) (x12c : Nat) (x13 : Int) (x16 : Int) (x17 : Bool) (x18 : Int) (R : Ending → Mem → Prop) (m : Mem) : Prop :=
  ∃ (I : Nat → Option Addr → Option Addr → Nat → Nat → Option Addr → Nat → Nat → Int → Int → Bool → Int → Mem → Prop) (N : Nat), I N x9 x11a x11l x11c x12a x12l x12c x13 x16 x17 x18 m ∧ ∀ N x9 x11a x11l x11c x12a x12l x12c x13 x16 x17 x18 m, I N x9 x11a x11l x11c x12a x12l x12c x13 x16 x17 x18 m → l5B K1 K4 (fun x9 x11a x11l x11c x12a x12l x12c x13 x16 x17 x18 m => ∃ N1, N1 < N ∧ I N1 x9 x11a x11l x11c x12a x12l x12c x13 x16 x17 x18 m) x9 x11a x11l x11c x12a x12l x12c x13 x16 x17 x18 R m
noncomputable def l5A (K1 : Option Addr → Option Addr → Nat → Nat → Option Addr → Nat → Nat → Int → Mem → Prop) (K4 : Option Addr → Option Addr → Nat → Nat → Option Addr → Nat → Nat → Int → Int → Mem → Prop) (K5 : Option Addr → Option Addr → Nat → Nat → Option Addr → Nat → Nat → Int → Int → Bool → Int → Mem → Prop) (R : Ending → Mem → Prop) : ACode := (.code (lP (bB (sR (sL (sR (bB (sL (sR (lP (bB (sR (sR (sR (sR (bB (sL (sR (lP (bB (sR (sL (sR (sR (sR (sR (sR (sR (sR (body))))))))))))))))))))))))))))))
def l4E (K : Option Addr → Option Addr → Nat → Nat → Option Addr → Nat → Nat → Int → Int → Mem → Prop) : Env → Mem → Prop := fun ρ m => UnP (ρ 9) fun x9 => UnS (ρ 11) fun x11a x11l x11c => UnS (ρ 12) fun x12a x12l x12c => UnI (ρ 13) .i64 fun x13 => UnI (ρ 16) .i64 fun x16 => K x9 x11a x11l x11c x12a x12l x12c x13 x16 m
def l4B (K1 : Option Addr → Option Addr → Nat → Nat → Option Addr → Nat → Nat → Int → Mem → Prop) (K4 : Option Addr → Option Addr → Nat → Nat → Option Addr → Nat → Nat → Int → Int → Mem → Prop) (x9 : Option Addr) (x11a : Option Addr) (x11l : Nat) (x11c : Nat) (x12a : Option Addr) (x12l : Nat) (x12c : Nat) (x13 : Int) (x16 : Int) (R : Ending → Mem → Prop) (m : Mem) : Prop :=
  HC P page_Pages_Count.id #[.pointer x9] m (Cont (fun v m1 =>
      UnI v .i64 fun x78 =>
      Br (decide (x16 < x78)) (
        l5 K1 K4 x9 x11a x11l x11c x12a x12l x12c x13 x16 false 0 R m1) (
        K1 x9 x11a x11l x11c x12a x12l x12c (IntKind.i64.wrap (x13 + 1)) m1)) (panicR R))
def l4 (K1 : Option Addr → Option Addr → Nat → Nat → Option Addr → Nat → Nat → Int → Mem → Prop) (x9 : Option Addr) (x11a : Option Addr) (x11l : Nat) (x11c : Nat) (x12a : Option Addr) (x12l : Nat) (x12c : Nat) (x13 : Int) (x16 : Int) (R : Ending → Mem → Prop) (m : Mem) : Prop :=
  ∃ (I : Nat → Option Addr → Option Addr → Nat → Nat → Option Addr → Nat → Nat → Int → Int → Mem → Prop) (N : Nat), I N x9 x11a x11l x11c x12a x12l x12c x13 x16 m ∧ ∀ N x9 x11a x11l x11c x12a x12l x12c x13 x16 m, I N x9 x11a x11l x11c x12a x12l x12c x13 x16 m → l4B K1 (fun x9 x11a x11l x11c x12a x12l x12c x13 x16 m => ∃ N1, N1 < N ∧ I N1 x9 x11a x11l x11c x12a x12l x12c x13 x16 m) x9 x11a x11l x11c x12a x12l x12c x13 x16 R m
noncomputable def l4A (K1 : Option Addr → Option Addr → Nat → Nat → Option Addr → Nat → Nat → Int → Mem → Prop) (K4 : Option Addr → Option Addr → Nat → Nat → Option Addr → Nat → Nat → Int → Int → Mem → Prop) (R : Ending → Mem → Prop) : ACode := (.seq (.code (sL (lP (bB (sR (sR (sR (sR (bB (sL (sR (lP (bB (sR (sL (sR (sR (sR (sR (sR (sR (sR (body))))))))))))))))))))))) (.seq (.block 5 (.seq (.code (sL (bB (sL (sR (lP (bB (sR (sR (sR (sR (bB (sL (sR (lP (bB (sR (sL (sR (sR (sR (sR (sR (sR (sR (body)))))))))))))))))))))))))) (.seq (.seq (.code (sL (sL (sR (bB (sL (sR (lP (bB (sR (sR (sR (sR (bB (sL (sR (lP (bB (sR (sL (sR (sR (sR (sR (sR (sR (sR (body)))))))))))))))))))))))))))) (.block 6 (.cut (l5E fun x9 x11a x11l x11c x12a x12l x12c x13 x16 x17 x18 m => l5 K1 K4 x9 x11a x11l x11c x12a x12l x12c x13 x16 x17 x18 R m) (.loop (lP (bB (sR (sL (sR (bB (sL (sR (lP (bB (sR (sR (sR (sR (bB (sL (sR (lP (bB (sR (sL (sR (sR (sR (sR (sR (sR (sR (body))))))))))))))))))))))))))))))))) (.cut (k6E fun x9 x11a x11l x11c x12a x12l x12c x13 x16 x17 m => k6 K1 K4 x9 x11a x11l x11c x12a x12l x12c x13 x16 x17 R m) (sR (sR (bB (sL (sR (lP (bB (sR (sR (sR (sR (bB (sL (sR (lP (bB (sR (sL (sR (sR (sR (sR (sR (sR (sR (body)))))))))))))))))))))))))))))) (.code (sR (sR (lP (bB (sR (sR (sR (sR (bB (sL (sR (lP (bB (sR (sL (sR (sR (sR (sR (sR (sR (sR (body))))))))))))))))))))))))))
def k3E (K : Option Addr → Option Addr → Nat → Nat → Option Addr → Nat → Nat → Int → Mem → Prop) : Env → Mem → Prop := fun ρ m => UnP (ρ 9) fun x9 => UnS (ρ 11) fun x11a x11l x11c => UnS (ρ 12) fun x12a x12l x12c => UnI (ρ 13) .i64 fun x13 => K x9 x11a x11l x11c x12a x12l x12c x13 m
def k3 (K1 : Option Addr → Option Addr → Nat → Nat → Option Addr → Nat → Nat → Int → Mem → Prop) (x9 : Option Addr) (x11a : Option Addr) (x11l : Nat) (x11c : Nat) (x12a : Option Addr) (x12l : Nat) (x12c : Nat) (x13 : Int) (R : Ending → Mem → Prop) (m : Mem) : Prop :=
  l4 K1 x9 x11a x11l x11c x12a x12l x12c x13 0 R m
noncomputable def k3A (K1 : Option Addr → Option Addr → Nat → Nat → Option Addr → Nat → Nat → Int → Mem → Prop) (R : Ending → Mem → Prop) : ACode := (.seq (.code (sL (sR (sR (sR (bB (sL (sR (lP (bB (sR (sL (sR (sR (sR (sR (sR (sR (sR (body)))))))))))))))))))) (.block 4 (.cut (l4E fun x9 x11a x11l x11c x12a x12l x12c x13 x16 m => l4 K1 x9 x11a x11l x11c x12a x12l x12c x13 x16 R m) (.loop (lP (bB (sR (sR (sR (sR (bB (sL (sR (lP (bB (sR (sL (sR (sR (sR (sR (sR (sR (sR (body)))))))))))))))))))))))))
def l2E (K : Option Addr → Option Addr → Nat → Nat → Option Addr → Nat → Nat → Int → Option Addr → Nat → Nat → Int → Mem → Prop) : Env → Mem → Prop := fun ρ m => UnP (ρ 9) fun x9 => UnS (ρ 11) fun x11a x11l x11c => UnS (ρ 12) fun x12a x12l x12c => UnI (ρ 13) .i64 fun x13 => UnS (ρ 14) fun x14a x14l x14c => UnI (ρ 15) .i64 fun x15 => K x9 x11a x11l x11c x12a x12l x12c x13 x14a x14l x14c x15 m
def l2B (K1 : Option Addr → Option Addr → Nat → Nat → Option Addr → Nat → Nat → Int → Mem → Prop) (K2 : Option Addr → Option Addr → Nat → Nat → Option Addr → Nat → Nat → Int → Option Addr → Nat → Nat → Int → Mem → Prop) (x9 : Option Addr) (x11a : Option Addr) (x11l : Nat) (x11c : Nat) (x12a : Option Addr) (x12l : Nat) (x12c : Nat) (x13 : Int) (x14a : Option Addr) (x14l : Nat) (x14c : Nat) (x15 : Int) (R : Ending → Mem → Prop) (m : Mem) : Prop :=
  Br (decide (x15 < ((x14l : Nat) : Int))) (
    IxS x14a x14l x15 1 fun x75b x75o =>
    St1 m x75b x75o (.int .i64 (-5)) fun m1 =>
    K2 x9 x11a x11l x11c x12a x12l x12c x13 x14a x14l x14c (IntKind.i64.wrap (x15 + 1)) m1) (
    k3 K1 x9 x11a x11l x11c x12a x12l x12c x13 R m)
def l2 (K1 : Option Addr → Option Addr → Nat → Nat → Option Addr → Nat → Nat → Int → Mem → Prop) (x9 : Option Addr) (x11a : Option Addr) (x11l : Nat) (x11c : Nat) (x12a : Option Addr) (x12l : Nat) (x12c : Nat) (x13 : Int) (x14a : Option Addr) (x14l : Nat) (x14c : Nat) (x15 : Int) (R : Ending → Mem → Prop) (m : Mem) : Prop :=
  ∃ (I : Nat → Option Addr → Option Addr → Nat → Nat → Option Addr → Nat → Nat → Int → Option Addr → Nat → Nat → Int → Mem → Prop) (N : Nat), I N x9 x11a x11l x11c x12a x12l x12c x13 x14a x14l x14c x15 m ∧ ∀ N x9 x11a x11l x11c x12a x12l x12c x13 x14a x14l x14c x15 m, I N x9 x11a x11l x11c x12a x12l x12c x13 x14a x14l x14c x15 m → l2B K1 (fun x9 x11a x11l x11c x12a x12l x12c x13 x14a x14l x14c x15 m => ∃ N1, N1 < N ∧ I N1 x9 x11a x11l x11c x12a x12l x12c x13 x14a x14l x14c x15 m) x9 x11a x11l x11c x12a x12l x12c x13 x14a x14l x14c x15 R m
noncomputable def l2A (K1 : Option Addr → Option Addr → Nat → Nat → Option Addr → Nat → Nat → Int → Mem → Prop) (K2 : Option Addr → Option Addr → Nat → Nat → Option Addr → Nat → Nat → Int → Option Addr → Nat → Nat → Int → Mem → Prop) (R : Ending → Mem → Prop) : ACode := (.code (lP (bB (sR (sL (sR (sR (bB (sL (sR (lP (bB (sR (sL (sR (sR (sR (sR (sR (sR (sR (body))))))))))))))))))))))
def k7E (K : Option Addr → Option Addr → Nat → Nat → Mem → Prop) : Env → Mem → Prop := fun ρ m => UnP (ρ 9) fun x9 => UnS (ρ 12) fun x12a x12l x12c => K x9 x12a x12l x12c m
def k7  (x9 : Option Addr) (x12a : Option Addr) (x12l : Nat) (x12c : Nat) (R : Ending → Mem → Prop) (m : Mem) : Prop :=
  HC P page_Pages_Reads.id #[.pointer x9] m (Cont (fun v m1 =>
      UnS v fun x126a x126l x126c =>
      HC P eyotref13_SameInts.id #[.slice x126a x126l x126c, .slice x12a x12l x12c] m1 (Cont (fun v m2 =>
          UnB v fun x128 =>
          R (.returned (.bool x128)) m2) (panicR R))) (panicR R))
noncomputable def k7A  (R : Ending → Mem → Prop) : ACode := (.code (sR (sR (sR (sR (sR (sR (sR (sR (body))))))))))
def l1E (K : Option Addr → Option Addr → Nat → Nat → Option Addr → Nat → Nat → Int → Mem → Prop) : Env → Mem → Prop := fun ρ m => UnP (ρ 9) fun x9 => UnS (ρ 11) fun x11a x11l x11c => UnS (ρ 12) fun x12a x12l x12c => UnI (ρ 13) .i64 fun x13 => K x9 x11a x11l x11c x12a x12l x12c x13 m
def l1B  (K1 : Option Addr → Option Addr → Nat → Nat → Option Addr → Nat → Nat → Int → Mem → Prop) (x9 : Option Addr) (x11a : Option Addr) (x11l : Nat) (x11c : Nat) (x12a : Option Addr) (x12l : Nat) (x12c : Nat) (x13 : Int) (R : Ending → Mem → Prop) (m : Mem) : Prop :=
  Br (decide (x13 < 3)) (
    NewC m #[] T_int fun b58 m1 =>
    IxS x11a x11l x13 1 fun x61b x61o =>
    LdV m1 x61b x61o fun v =>
    UnS v fun x62a x62l x62c =>
    BiN P .append #[T_sl_int, T_sl_int] T_sl_int #[false, false] #[.slice (some ⟨b58, 0, none⟩) 0 0, .slice x62a x62l x62c] m1 (fun w m2 =>
      UnS w fun x63a x63l x63c =>
      HC P page_Pages_Fault.id #[.pointer x9, .slice x63a x63l x63c] m2 (Cont (fun v m3 =>
          UnTup v fun us0 =>
          UnNil us0 (
            l2 K1 x9 x11a x11l x11c x12a x12l x12c x13 x63a x63l x63c 0 R m3)) (panicR R))) (panicR R)) (
    k7  x9 x12a x12l x12c R m)
def l1  (x9 : Option Addr) (x11a : Option Addr) (x11l : Nat) (x11c : Nat) (x12a : Option Addr) (x12l : Nat) (x12c : Nat) (x13 : Int) (R : Ending → Mem → Prop) (m : Mem) : Prop :=
  ∃ (I : Nat → Option Addr → Option Addr → Nat → Nat → Option Addr → Nat → Nat → Int → Mem → Prop) (N : Nat), I N x9 x11a x11l x11c x12a x12l x12c x13 m ∧ ∀ N x9 x11a x11l x11c x12a x12l x12c x13 m, I N x9 x11a x11l x11c x12a x12l x12c x13 m → l1B  (fun x9 x11a x11l x11c x12a x12l x12c x13 m => ∃ N1, N1 < N ∧ I N1 x9 x11a x11l x11c x12a x12l x12c x13 m) x9 x11a x11l x11c x12a x12l x12c x13 R m
noncomputable def l1A  (K1 : Option Addr → Option Addr → Nat → Nat → Option Addr → Nat → Nat → Int → Mem → Prop) (R : Ending → Mem → Prop) : ACode := (.seq (.code (sL (lP (bB (sR (sL (sR (sR (sR (sR (sR (sR (sR (body)))))))))))))) (.seq (.block 1 (.seq (.code (sL (bB (sL (sR (lP (bB (sR (sL (sR (sR (sR (sR (sR (sR (sR (body))))))))))))))))) (.seq (.code (sL (sR (bB (sL (sR (lP (bB (sR (sL (sR (sR (sR (sR (sR (sR (sR (body)))))))))))))))))) (.seq (.seq (.code (sL (sL (sR (sR (bB (sL (sR (lP (bB (sR (sL (sR (sR (sR (sR (sR (sR (sR (body)))))))))))))))))))) (.block 2 (.cut (l2E fun x9 x11a x11l x11c x12a x12l x12c x13 x14a x14l x14c x15 m => l2 K1 x9 x11a x11l x11c x12a x12l x12c x13 x14a x14l x14c x15 R m) (.loop (lP (bB (sR (sL (sR (sR (bB (sL (sR (lP (bB (sR (sL (sR (sR (sR (sR (sR (sR (sR (body))))))))))))))))))))))))) (.cut (k3E fun x9 x11a x11l x11c x12a x12l x12c x13 m => k3 K1 x9 x11a x11l x11c x12a x12l x12c x13 R m) (sR (sR (sR (bB (sL (sR (lP (bB (sR (sL (sR (sR (sR (sR (sR (sR (sR (body))))))))))))))))))))))) (.code (sR (sR (lP (bB (sR (sL (sR (sR (sR (sR (sR (sR (sR (body)))))))))))))))))
def e0 (a0a : Option Addr) (a0l : Nat) (a0c : Nat) (a1 : Int) (a2a : Option Addr) (a2l : Nat) (a2c : Nat) (a3a : Option Addr) (a3l : Nat) (a3c : Nat) (R : Ending → Mem → Prop) (m : Mem) : Prop :=
  HC P eyotlaw3_begun.id #[] m (Cont (fun v m1 =>
      UnB v fun x21 =>
      Br (!x21) (
        R (.returned (.bool false)) m1) (
        Br (decide (((a0l : Nat) : Int) > 200)) (
          R (.returned (.bool true)) m1) (
          Br (decide (((a2l : Nat) : Int) > 8)) (
            R (.returned (.bool true)) m1) (
            Br (decide (((a3l : Nat) : Int) > 8)) (
              R (.returned (.bool true)) m1) (
              HC P page_New.id #[.slice a0a a0l a0c, .int .i64 (IntKind.i64.wrap (1 + (Int.tmod (IntKind.i64.wrap a1) 30)))] m1 (Cont (fun v m2 =>
                  UnTup v fun us0 =>
                  UnCons us0 fun w us1 =>
                  UnP w fun x42_0 =>
                  UnCons us1 fun w us2 =>
                  UnI w .i64 fun x42_1 =>
                  UnNil us2 (
                    Br (x42_1 != 0) (
                      R (.returned (.bool false)) m2) (
                      Br x42_0.isNone (
                        R (.returned (.bool false)) m2) (
                        NewC m2 #[.slice a2a a2l a2c, .slice a3a a3l a3c, .slice none 0 0] T_sl_int fun b53 m3 =>
                        l1  x42_0 (some ⟨b53, 0, none⟩) 3 3 none 0 0 0 R m3)))) (panicR R))))))) (panicR R))
noncomputable def e0A (R : Ending → Mem → Prop) : ACode := (.seq (.code (sL (body))) (.seq (.code (sL (sR (body)))) (.seq (.code (sL (sR (sR (body))))) (.seq (.code (sL (sR (sR (sR (body)))))) (.seq (.code (sL (sR (sR (sR (sR (body))))))) (.seq (.code (sL (sR (sR (sR (sR (sR (body)))))))) (.seq (.code (sL (sR (sR (sR (sR (sR (sR (body))))))))) (.seq (.seq (.code (sL (sL (sR (sR (sR (sR (sR (sR (sR (body))))))))))) (.block 0 (.cut (l1E fun x9 x11a x11l x11c x12a x12l x12c x13 m => l1  x9 x11a x11l x11c x12a x12l x12c x13 R m) (.loop (lP (bB (sR (sL (sR (sR (sR (sR (sR (sR (sR (body)))))))))))))))) (.cut (k7E fun x9 x12a x12l x12c m => k7  x9 x12a x12l x12c R m) (sR (sR (sR (sR (sR (sR (sR (sR (body))))))))))))))))))
theorem k6_eq (K1 : Option Addr → Option Addr → Nat → Nat → Option Addr → Nat → Nat → Int → Mem → Prop) (K4 : Option Addr → Option Addr → Nat → Nat → Option Addr → Nat → Nat → Int → Int → Mem → Prop) (R : Ending → Mem → Prop) (x9 : Option Addr) (x11a : Option Addr) (x11l : Nat) (x11c : Nat) (x12a : Option Addr) (x12l : Nat) (x12c : Nat) (x13 : Int) (x16 : Int) (x17 : Bool) (ρ : Env) (m : Mem) : k6 K1 K4 x9 x11a x11l x11c x12a x12l x12c x13 x16 x17 R m = acpt P od (panicR R) (k6A K1 K4 R) (blockQ 5 (thenQ (acpt P od (panicR R) (.code (sR (sR (lP (bB (sR (sR (sR (sR (bB (sL (sR (lP (bB (sR (sL (sR (sR (sR (sR (sR (sR (sR (body)))))))))))))))))))))))) (thenQ (l4E K4) (blockQ 4 (blockQ 1 (thenQ (acpt P od (panicR R) (.code (sR (sR (lP (bB (sR (sL (sR (sR (sR (sR (sR (sR (sR (body))))))))))))))) (thenQ (l1E K1) (blockQ 0 (thenQ (acpt P od (panicR R) (.cut (k7E fun x9 x12a x12l x12c m => k7  x9 x12a x12l x12c R m) (sR (sR (sR (sR (sR (sR (sR (sR (body)))))))))) (bodyQ P fn R)) (bodyQ P fn R))))) (thenQ (l1E K1) (blockQ 0 (thenQ (acpt P od (panicR R) (.cut (k7E fun x9 x12a x12l x12c m => k7  x9 x12a x12l x12c R m) (sR (sR (sR (sR (sR (sR (sR (sR (body)))))))))) (bodyQ P fn R)) (bodyQ P fn R))))))))) (thenQ (l4E K4) (blockQ 4 (blockQ 1 (thenQ (acpt P od (panicR R) (.code (sR (sR (lP (bB (sR (sL (sR (sR (sR (sR (sR (sR (sR (body))))))))))))))) (thenQ (l1E K1) (blockQ 0 (thenQ (acpt P od (panicR R) (.cut (k7E fun x9 x12a x12l x12c m => k7  x9 x12a x12l x12c R m) (sR (sR (sR (sR (sR (sR (sR (sR (body)))))))))) (bodyQ P fn R)) (bodyQ P fn R))))) (thenQ (l1E K1) (blockQ 0 (thenQ (acpt P od (panicR R) (.cut (k7E fun x9 x12a x12l x12c m => k7  x9 x12a x12l x12c R m) (sR (sR (sR (sR (sR (sR (sR (sR (body)))))))))) (bodyQ P fn R)) (bodyQ P fn R)))))))))) (upd (upd (upd (upd (upd (upd ρ 17 (.bool x17)) 16 (.int .i64 x16)) 13 (.int .i64 x13)) 12 (.slice x12a x12l x12c)) 11 (.slice x11a x11l x11c)) 9 (.pointer x9)) m := by kernel_rfl
theorem k6_er (K1 : Option Addr → Option Addr → Nat → Nat → Option Addr → Nat → Nat → Int → Mem → Prop) (K4 : Option Addr → Option Addr → Nat → Nat → Option Addr → Nat → Nat → Int → Int → Mem → Prop) (R : Ending → Mem → Prop) : (k6A K1 K4 R).erase = sR (sR (bB (sL (sR (lP (bB (sR (sR (sR (sR (bB (sL (sR (lP (bB (sR (sL (sR (sR (sR (sR (sR (sR (sR (body))))))))))))))))))))))))) := by kernel_rfl
theorem k6_ok (K1 : Option Addr → Option Addr → Nat → Nat → Option Addr → Nat → Nat → Int → Mem → Prop) (K4 : Option Addr → Option Addr → Nat → Nat → Option Addr → Nat → Nat → Int → Int → Mem → Prop) (R : Ending → Mem → Prop) (ρ : Env) (m : Mem) (h : (k6E fun x9 x11a x11l x11c x12a x12l x12c x13 x16 x17 m => k6 K1 K4 x9 x11a x11l x11c x12a x12l x12c x13 x16 x17 R m) ρ m) : cpt P od (panicR R) (sR (sR (bB (sL (sR (lP (bB (sR (sR (sR (sR (bB (sL (sR (lP (bB (sR (sL (sR (sR (sR (sR (sR (sR (sR (body)))))))))))))))))))))))))) (blockQ 5 (thenQ (acpt P od (panicR R) (.code (sR (sR (lP (bB (sR (sR (sR (sR (bB (sL (sR (lP (bB (sR (sL (sR (sR (sR (sR (sR (sR (sR (body)))))))))))))))))))))))) (thenQ (l4E K4) (blockQ 4 (blockQ 1 (thenQ (acpt P od (panicR R) (.code (sR (sR (lP (bB (sR (sL (sR (sR (sR (sR (sR (sR (sR (body))))))))))))))) (thenQ (l1E K1) (blockQ 0 (thenQ (acpt P od (panicR R) (.cut (k7E fun x9 x12a x12l x12c m => k7  x9 x12a x12l x12c R m) (sR (sR (sR (sR (sR (sR (sR (sR (body)))))))))) (bodyQ P fn R)) (bodyQ P fn R))))) (thenQ (l1E K1) (blockQ 0 (thenQ (acpt P od (panicR R) (.cut (k7E fun x9 x12a x12l x12c m => k7  x9 x12a x12l x12c R m) (sR (sR (sR (sR (sR (sR (sR (sR (body)))))))))) (bodyQ P fn R)) (bodyQ P fn R))))))))) (thenQ (l4E K4) (blockQ 4 (blockQ 1 (thenQ (acpt P od (panicR R) (.code (sR (sR (lP (bB (sR (sL (sR (sR (sR (sR (sR (sR (sR (body))))))))))))))) (thenQ (l1E K1) (blockQ 0 (thenQ (acpt P od (panicR R) (.cut (k7E fun x9 x12a x12l x12c m => k7  x9 x12a x12l x12c R m) (sR (sR (sR (sR (sR (sR (sR (sR (body)))))))))) (bodyQ P fn R)) (bodyQ P fn R))))) (thenQ (l1E K1) (blockQ 0 (thenQ (acpt P od (panicR R) (.cut (k7E fun x9 x12a x12l x12c m => k7  x9 x12a x12l x12c R m) (sR (sR (sR (sR (sR (sR (sR (sR (body)))))))))) (bodyQ P fn R)) (bodyQ P fn R)))))))))) ρ m := by
  unfold k6E at h
  obtain ⟨x9, e9, h⟩ := h.ex
  obtain ⟨x11a, x11l, x11c, e11, h⟩ := h.ex
  obtain ⟨x12a, x12l, x12c, e12, h⟩ := h.ex
  obtain ⟨x13, e13, h⟩ := h.ex
  obtain ⟨x16, e16, h⟩ := h.ex
  obtain ⟨x17, e17, h⟩ := h.ex
  rw [← upd_self e9, ← upd_self e11, ← upd_self e12, ← upd_self e13, ← upd_self e16, ← upd_self e17]
  rw [← k6_er K1 K4 R]
  refine acpt_sound (P := P) (k6A K1 K4 R) _ _ _ True.intro ?_
  exact Eq.mp (k6_eq K1 K4 R x9 x11a x11l x11c x12a x12l x12c x13 x16 x17 ρ m) h
theorem l5_eq (K1 : Option Addr → Option Addr → Nat → Nat → Option Addr → Nat → Nat → Int → Mem → Prop) (K4 : Option Addr → Option Addr → Nat → Nat → Option Addr → Nat → Nat → Int → Int → Mem → Prop) (K5 : Option Addr → Option Addr → Nat → Nat → Option Addr → Nat → Nat → Int → Int → Bool → Int → Mem → Prop) (R : Ending → Mem → Prop) (x9 : Option Addr) (x11a : Option Addr) (x11l : Nat) (x11c : Nat) (x12a : Option Addr) (x12l : Nat) (x12c : Nat) (x13 : Int) (x16 : Int) (x17 : Bool) (x18 : Int) (ρ : Env) (m : Mem) : l5B K1 K4 K5 x9 x11a x11l x11c x12a x12l x12c x13 x16 x17 x18 R m = acpt P od (panicR R) (l5A K1 K4 K5 R) (thenQ (l5E K5) (blockQ 6 (thenQ (acpt P od (panicR R) (.cut (k6E fun x9 x11a x11l x11c x12a x12l x12c x13 x16 x17 m => k6 K1 K4 x9 x11a x11l x11c x12a x12l x12c x13 x16 x17 R m) (sR (sR (bB (sL (sR (lP (bB (sR (sR (sR (sR (bB (sL (sR (lP (bB (sR (sL (sR (sR (sR (sR (sR (sR (sR (body))))))))))))))))))))))))))) (blockQ 5 (thenQ (acpt P od (panicR R) (.code (sR (sR (lP (bB (sR (sR (sR (sR (bB (sL (sR (lP (bB (sR (sL (sR (sR (sR (sR (sR (sR (sR (body)))))))))))))))))))))))) (thenQ (l4E K4) (blockQ 4 (blockQ 1 (thenQ (acpt P od (panicR R) (.code (sR (sR (lP (bB (sR (sL (sR (sR (sR (sR (sR (sR (sR (body))))))))))))))) (thenQ (l1E K1) (blockQ 0 (thenQ (acpt P od (panicR R) (.cut (k7E fun x9 x12a x12l x12c m => k7  x9 x12a x12l x12c R m) (sR (sR (sR (sR (sR (sR (sR (sR (body)))))))))) (bodyQ P fn R)) (bodyQ P fn R))))) (thenQ (l1E K1) (blockQ 0 (thenQ (acpt P od (panicR R) (.cut (k7E fun x9 x12a x12l x12c m => k7  x9 x12a x12l x12c R m) (sR (sR (sR (sR (sR (sR (sR (sR (body)))))))))) (bodyQ P fn R)) (bodyQ P fn R))))))))) (thenQ (l4E K4) (blockQ 4 (blockQ 1 (thenQ (acpt P od (panicR R) (.code (sR (sR (lP (bB (sR (sL (sR (sR (sR (sR (sR (sR (sR (body))))))))))))))) (thenQ (l1E K1) (blockQ 0 (thenQ (acpt P od (panicR R) (.cut (k7E fun x9 x12a x12l x12c m => k7  x9 x12a x12l x12c R m) (sR (sR (sR (sR (sR (sR (sR (sR (body)))))))))) (bodyQ P fn R)) (bodyQ P fn R))))) (thenQ (l1E K1) (blockQ 0 (thenQ (acpt P od (panicR R) (.cut (k7E fun x9 x12a x12l x12c m => k7  x9 x12a x12l x12c R m) (sR (sR (sR (sR (sR (sR (sR (sR (body)))))))))) (bodyQ P fn R)) (bodyQ P fn R))))))))))) (blockQ 5 (thenQ (acpt P od (panicR R) (.code (sR (sR (lP (bB (sR (sR (sR (sR (bB (sL (sR (lP (bB (sR (sL (sR (sR (sR (sR (sR (sR (sR (body)))))))))))))))))))))))) (thenQ (l4E K4) (blockQ 4 (blockQ 1 (thenQ (acpt P od (panicR R) (.code (sR (sR (lP (bB (sR (sL (sR (sR (sR (sR (sR (sR (sR (body))))))))))))))) (thenQ (l1E K1) (blockQ 0 (thenQ (acpt P od (panicR R) (.cut (k7E fun x9 x12a x12l x12c m => k7  x9 x12a x12l x12c R m) (sR (sR (sR (sR (sR (sR (sR (sR (body)))))))))) (bodyQ P fn R)) (bodyQ P fn R))))) (thenQ (l1E K1) (blockQ 0 (thenQ (acpt P od (panicR R) (.cut (k7E fun x9 x12a x12l x12c m => k7  x9 x12a x12l x12c R m) (sR (sR (sR (sR (sR (sR (sR (sR (body)))))))))) (bodyQ P fn R)) (bodyQ P fn R))))))))) (thenQ (l4E K4) (blockQ 4 (blockQ 1 (thenQ (acpt P od (panicR R) (.code (sR (sR (lP (bB (sR (sL (sR (sR (sR (sR (sR (sR (sR (body))))))))))))))) (thenQ (l1E K1) (blockQ 0 (thenQ (acpt P od (panicR R) (.cut (k7E fun x9 x12a x12l x12c m => k7  x9 x12a x12l x12c R m) (sR (sR (sR (sR (sR (sR (sR (sR (body)))))))))) (bodyQ P fn R)) (bodyQ P fn R))))) (thenQ (l1E K1) (blockQ 0 (thenQ (acpt P od (panicR R) (.cut (k7E fun x9 x12a x12l x12c m => k7  x9 x12a x12l x12c R m) (sR (sR (sR (sR (sR (sR (sR (sR (body)))))))))) (bodyQ P fn R)) (bodyQ P fn R))))))))))))) (upd (upd (upd (upd (upd (upd (upd ρ 18 (.int .i64 x18)) 17 (.bool x17)) 16 (.int .i64 x16)) 13 (.int .i64 x13)) 12 (.slice x12a x12l x12c)) 11 (.slice x11a x11l x11c)) 9 (.pointer x9)) m := by kernel_rfl
theorem l5_er (K1 : Option Addr → Option Addr → Nat → Nat → Option Addr → Nat → Nat → Int → Mem → Prop) (K4 : Option Addr → Option Addr → Nat → Nat → Option Addr → Nat → Nat → Int → Int → Mem → Prop) (K5 : Option Addr → Option Addr → Nat → Nat → Option Addr → Nat → Nat → Int → Int → Bool → Int → Mem → Prop) (R : Ending → Mem → Prop) : (l5A K1 K4 K5 R).erase = lP (bB (sR (sL (sR (bB (sL (sR (lP (bB (sR (sR (sR (sR (bB (sL (sR (lP (bB (sR (sL (sR (sR (sR (sR (sR (sR (sR (body)))))))))))))))))))))))))))) := by kernel_rfl
theorem l5_ok (K1 : Option Addr → Option Addr → Nat → Nat → Option Addr → Nat → Nat → Int → Mem → Prop) (K4 : Option Addr → Option Addr → Nat → Nat → Option Addr → Nat → Nat → Int → Int → Mem → Prop) (R : Ending → Mem → Prop) (ρ : Env) (m : Mem) (h : (l5E fun x9 x11a x11l x11c x12a x12l x12c x13 x16 x17 x18 m => l5 K1 K4 x9 x11a x11l x11c x12a x12l x12c x13 x16 x17 x18 R m) ρ m) : cpt P od (panicR R) (.loop (lP (bB (sR (sL (sR (bB (sL (sR (lP (bB (sR (sR (sR (sR (bB (sL (sR (lP (bB (sR (sL (sR (sR (sR (sR (sR (sR (sR (body)))))))))))))))))))))))))))))) (blockQ 6 (thenQ (acpt P od (panicR R) (.cut (k6E fun x9 x11a x11l x11c x12a x12l x12c x13 x16 x17 m => k6 K1 K4 x9 x11a x11l x11c x12a x12l x12c x13 x16 x17 R m) (sR (sR (bB (sL (sR (lP (bB (sR (sR (sR (sR (bB (sL (sR (lP (bB (sR (sL (sR (sR (sR (sR (sR (sR (sR (body))))))))))))))))))))))))))) (blockQ 5 (thenQ (acpt P od (panicR R) (.code (sR (sR (lP (bB (sR (sR (sR (sR (bB (sL (sR (lP (bB (sR (sL (sR (sR (sR (sR (sR (sR (sR (body)))))))))))))))))))))))) (thenQ (l4E K4) (blockQ 4 (blockQ 1 (thenQ (acpt P od (panicR R) (.code (sR (sR (lP (bB (sR (sL (sR (sR (sR (sR (sR (sR (sR (body))))))))))))))) (thenQ (l1E K1) (blockQ 0 (thenQ (acpt P od (panicR R) (.cut (k7E fun x9 x12a x12l x12c m => k7  x9 x12a x12l x12c R m) (sR (sR (sR (sR (sR (sR (sR (sR (body)))))))))) (bodyQ P fn R)) (bodyQ P fn R))))) (thenQ (l1E K1) (blockQ 0 (thenQ (acpt P od (panicR R) (.cut (k7E fun x9 x12a x12l x12c m => k7  x9 x12a x12l x12c R m) (sR (sR (sR (sR (sR (sR (sR (sR (body)))))))))) (bodyQ P fn R)) (bodyQ P fn R))))))))) (thenQ (l4E K4) (blockQ 4 (blockQ 1 (thenQ (acpt P od (panicR R) (.code (sR (sR (lP (bB (sR (sL (sR (sR (sR (sR (sR (sR (sR (body))))))))))))))) (thenQ (l1E K1) (blockQ 0 (thenQ (acpt P od (panicR R) (.cut (k7E fun x9 x12a x12l x12c m => k7  x9 x12a x12l x12c R m) (sR (sR (sR (sR (sR (sR (sR (sR (body)))))))))) (bodyQ P fn R)) (bodyQ P fn R))))) (thenQ (l1E K1) (blockQ 0 (thenQ (acpt P od (panicR R) (.cut (k7E fun x9 x12a x12l x12c m => k7  x9 x12a x12l x12c R m) (sR (sR (sR (sR (sR (sR (sR (sR (body)))))))))) (bodyQ P fn R)) (bodyQ P fn R))))))))))) (blockQ 5 (thenQ (acpt P od (panicR R) (.code (sR (sR (lP (bB (sR (sR (sR (sR (bB (sL (sR (lP (bB (sR (sL (sR (sR (sR (sR (sR (sR (sR (body)))))))))))))))))))))))) (thenQ (l4E K4) (blockQ 4 (blockQ 1 (thenQ (acpt P od (panicR R) (.code (sR (sR (lP (bB (sR (sL (sR (sR (sR (sR (sR (sR (sR (body))))))))))))))) (thenQ (l1E K1) (blockQ 0 (thenQ (acpt P od (panicR R) (.cut (k7E fun x9 x12a x12l x12c m => k7  x9 x12a x12l x12c R m) (sR (sR (sR (sR (sR (sR (sR (sR (body)))))))))) (bodyQ P fn R)) (bodyQ P fn R))))) (thenQ (l1E K1) (blockQ 0 (thenQ (acpt P od (panicR R) (.cut (k7E fun x9 x12a x12l x12c m => k7  x9 x12a x12l x12c R m) (sR (sR (sR (sR (sR (sR (sR (sR (body)))))))))) (bodyQ P fn R)) (bodyQ P fn R))))))))) (thenQ (l4E K4) (blockQ 4 (blockQ 1 (thenQ (acpt P od (panicR R) (.code (sR (sR (lP (bB (sR (sL (sR (sR (sR (sR (sR (sR (sR (body))))))))))))))) (thenQ (l1E K1) (blockQ 0 (thenQ (acpt P od (panicR R) (.cut (k7E fun x9 x12a x12l x12c m => k7  x9 x12a x12l x12c R m) (sR (sR (sR (sR (sR (sR (sR (sR (body)))))))))) (bodyQ P fn R)) (bodyQ P fn R))))) (thenQ (l1E K1) (blockQ 0 (thenQ (acpt P od (panicR R) (.cut (k7E fun x9 x12a x12l x12c m => k7  x9 x12a x12l x12c R m) (sR (sR (sR (sR (sR (sR (sR (sR (body)))))))))) (bodyQ P fn R)) (bodyQ P fn R)))))))))))) ρ m := by
  unfold l5E at h
  obtain ⟨x9, e9, h⟩ := h.ex
  obtain ⟨x11a, x11l, x11c, e11, h⟩ := h.ex
  obtain ⟨x12a, x12l, x12c, e12, h⟩ := h.ex
  obtain ⟨x13, e13, h⟩ := h.ex
  obtain ⟨x16, e16, h⟩ := h.ex
  obtain ⟨x17, e17, h⟩ := h.ex
  obtain ⟨x18, e18, h⟩ := h.ex
  obtain ⟨I, N, h0, hs⟩ := h
  refine ⟨fun N => l5E (I N), N, (by show l5E (I N) ρ m; unfold l5E; rw [e9, e11, e12, e13, e16, e17, e18]; exact h0), ?_⟩
  clear h0 e9 e11 e12 e13 e16 e17 e18
  intro N ρ m h
  unfold l5E at h
  obtain ⟨x9, e9, h⟩ := h.ex
  obtain ⟨x11a, x11l, x11c, e11, h⟩ := h.ex
  obtain ⟨x12a, x12l, x12c, e12, h⟩ := h.ex
  obtain ⟨x13, e13, h⟩ := h.ex
  obtain ⟨x16, e16, h⟩ := h.ex
  obtain ⟨x17, e17, h⟩ := h.ex
  obtain ⟨x18, e18, h⟩ := h.ex
  refine cpt_mono (P := P) (lP (bB (sR (sL (sR (bB (sL (sR (lP (bB (sR (sR (sR (sR (bB (sL (sR (lP (bB (sR (sL (sR (sR (sR (sR (sR (sR (sR (body))))))))))))))))))))))))))))) (Q := thenQ (l5E fun x9 x11a x11l x11c x12a x12l x12c x13 x16 x17 x18 m => ∃ N1, N1 < N ∧ I N1 x9 x11a x11l x11c x12a x12l x12c x13 x16 x17 x18 m) (blockQ 6 (thenQ (acpt P od (panicR R) (.cut (k6E fun x9 x11a x11l x11c x12a x12l x12c x13 x16 x17 m => k6 K1 K4 x9 x11a x11l x11c x12a x12l x12c x13 x16 x17 R m) (sR (sR (bB (sL (sR (lP (bB (sR (sR (sR (sR (bB (sL (sR (lP (bB (sR (sL (sR (sR (sR (sR (sR (sR (sR (body))))))))))))))))))))))))))) (blockQ 5 (thenQ (acpt P od (panicR R) (.code (sR (sR (lP (bB (sR (sR (sR (sR (bB (sL (sR (lP (bB (sR (sL (sR (sR (sR (sR (sR (sR (sR (body)))))))))))))))))))))))) (thenQ (l4E K4) (blockQ 4 (blockQ 1 (thenQ (acpt P od (panicR R) (.code (sR (sR (lP (bB (sR (sL (sR (sR (sR (sR (sR (sR (sR (body))))))))))))))) (thenQ (l1E K1) (blockQ 0 (thenQ (acpt P od (panicR R) (.cut (k7E fun x9 x12a x12l x12c m => k7  x9 x12a x12l x12c R m) (sR (sR (sR (sR (sR (sR (sR (sR (body)))))))))) (bodyQ P fn R)) (bodyQ P fn R))))) (thenQ (l1E K1) (blockQ 0 (thenQ (acpt P od (panicR R) (.cut (k7E fun x9 x12a x12l x12c m => k7  x9 x12a x12l x12c R m) (sR (sR (sR (sR (sR (sR (sR (sR (body)))))))))) (bodyQ P fn R)) (bodyQ P fn R))))))))) (thenQ (l4E K4) (blockQ 4 (blockQ 1 (thenQ (acpt P od (panicR R) (.code (sR (sR (lP (bB (sR (sL (sR (sR (sR (sR (sR (sR (sR (body))))))))))))))) (thenQ (l1E K1) (blockQ 0 (thenQ (acpt P od (panicR R) (.cut (k7E fun x9 x12a x12l x12c m => k7  x9 x12a x12l x12c R m) (sR (sR (sR (sR (sR (sR (sR (sR (body)))))))))) (bodyQ P fn R)) (bodyQ P fn R))))) (thenQ (l1E K1) (blockQ 0 (thenQ (acpt P od (panicR R) (.cut (k7E fun x9 x12a x12l x12c m => k7  x9 x12a x12l x12c R m) (sR (sR (sR (sR (sR (sR (sR (sR (body)))))))))) (bodyQ P fn R)) (bodyQ P fn R))))))))))) (blockQ 5 (thenQ (acpt P od (panicR R) (.code (sR (sR (lP (bB (sR (sR (sR (sR (bB (sL (sR (lP (bB (sR (sL (sR (sR (sR (sR (sR (sR (sR (body)))))))))))))))))))))))) (thenQ (l4E K4) (blockQ 4 (blockQ 1 (thenQ (acpt P od (panicR R) (.code (sR (sR (lP (bB (sR (sL (sR (sR (sR (sR (sR (sR (sR (body))))))))))))))) (thenQ (l1E K1) (blockQ 0 (thenQ (acpt P od (panicR R) (.cut (k7E fun x9 x12a x12l x12c m => k7  x9 x12a x12l x12c R m) (sR (sR (sR (sR (sR (sR (sR (sR (body)))))))))) (bodyQ P fn R)) (bodyQ P fn R))))) (thenQ (l1E K1) (blockQ 0 (thenQ (acpt P od (panicR R) (.cut (k7E fun x9 x12a x12l x12c m => k7  x9 x12a x12l x12c R m) (sR (sR (sR (sR (sR (sR (sR (sR (body)))))))))) (bodyQ P fn R)) (bodyQ P fn R))))))))) (thenQ (l4E K4) (blockQ 4 (blockQ 1 (thenQ (acpt P od (panicR R) (.code (sR (sR (lP (bB (sR (sL (sR (sR (sR (sR (sR (sR (sR (body))))))))))))))) (thenQ (l1E K1) (blockQ 0 (thenQ (acpt P od (panicR R) (.cut (k7E fun x9 x12a x12l x12c m => k7  x9 x12a x12l x12c R m) (sR (sR (sR (sR (sR (sR (sR (sR (body)))))))))) (bodyQ P fn R)) (bodyQ P fn R))))) (thenQ (l1E K1) (blockQ 0 (thenQ (acpt P od (panicR R) (.cut (k7E fun x9 x12a x12l x12c m => k7  x9 x12a x12l x12c R m) (sR (sR (sR (sR (sR (sR (sR (sR (body)))))))))) (bodyQ P fn R)) (bodyQ P fn R))))))))))))) (fun e ρ m h => ?_) ρ m ?_
  · cases e with
    | normal =>
      have h : l5E (fun x9 x11a x11l x11c x12a x12l x12c x13 x16 x17 x18 m => ∃ N1, N1 < N ∧ I N1 x9 x11a x11l x11c x12a x12l x12c x13 x16 x17 x18 m) ρ m := h
      unfold l5E at h
      obtain ⟨x9, e9, h⟩ := h.ex
      obtain ⟨x11a, x11l, x11c, e11, h⟩ := h.ex
      obtain ⟨x12a, x12l, x12c, e12, h⟩ := h.ex
      obtain ⟨x13, e13, h⟩ := h.ex
      obtain ⟨x16, e16, h⟩ := h.ex
      obtain ⟨x17, e17, h⟩ := h.ex
      obtain ⟨x18, e18, h⟩ := h.ex
      obtain ⟨N1, hlt, h⟩ := h
      exact ⟨N1, hlt, (by show l5E (I N1) ρ m; unfold l5E; rw [e9, e11, e12, e13, e16, e17, e18]; exact h)⟩
    | _ => exact h
  have hh := hs N x9 x11a x11l x11c x12a x12l x12c x13 x16 x17 x18 m h
  generalize (fun x9 x11a x11l x11c x12a x12l x12c x13 x16 x17 x18 m => ∃ N1, N1 < N ∧ I N1 x9 x11a x11l x11c x12a x12l x12c x13 x16 x17 x18 m : Option Addr → Option Addr → Nat → Nat → Option Addr → Nat → Nat → Int → Int → Bool → Int → Mem → Prop) = K5 at hh ⊢
  rw [← upd_self e9, ← upd_self e11, ← upd_self e12, ← upd_self e13, ← upd_self e16, ← upd_self e17, ← upd_self e18]
  rw [← l5_er K1 K4 K5 R]
  refine acpt_sound (P := P) (l5A K1 K4 K5 R) _ _ _ True.intro ?_
  exact Eq.mp (l5_eq K1 K4 K5 R x9 x11a x11l x11c x12a x12l x12c x13 x16 x17 x18 ρ m) hh
theorem l4_eq (K1 : Option Addr → Option Addr → Nat → Nat → Option Addr → Nat → Nat → Int → Mem → Prop) (K4 : Option Addr → Option Addr → Nat → Nat → Option Addr → Nat → Nat → Int → Int → Mem → Prop) (R : Ending → Mem → Prop) (x9 : Option Addr) (x11a : Option Addr) (x11l : Nat) (x11c : Nat) (x12a : Option Addr) (x12l : Nat) (x12c : Nat) (x13 : Int) (x16 : Int) (ρ : Env) (m : Mem) : l4B K1 K4 x9 x11a x11l x11c x12a x12l x12c x13 x16 R m = acpt P od (panicR R) (l4A K1 K4 R) (thenQ (l4E K4) (blockQ 4 (blockQ 1 (thenQ (acpt P od (panicR R) (.code (sR (sR (lP (bB (sR (sL (sR (sR (sR (sR (sR (sR (sR (body))))))))))))))) (thenQ (l1E K1) (blockQ 0 (thenQ (acpt P od (panicR R) (.cut (k7E fun x9 x12a x12l x12c m => k7  x9 x12a x12l x12c R m) (sR (sR (sR (sR (sR (sR (sR (sR (body)))))))))) (bodyQ P fn R)) (bodyQ P fn R))))) (thenQ (l1E K1) (blockQ 0 (thenQ (acpt P od (panicR R) (.cut (k7E fun x9 x12a x12l x12c m => k7  x9 x12a x12l x12c R m) (sR (sR (sR (sR (sR (sR (sR (sR (body)))))))))) (bodyQ P fn R)) (bodyQ P fn R)))))))) (upd (upd (upd (upd (upd ρ 16 (.int .i64 x16)) 13 (.int .i64 x13)) 12 (.slice x12a x12l x12c)) 11 (.slice x11a x11l x11c)) 9 (.pointer x9)) m := by kernel_rfl
theorem l4_er (K1 : Option Addr → Option Addr → Nat → Nat → Option Addr → Nat → Nat → Int → Mem → Prop) (K4 : Option Addr → Option Addr → Nat → Nat → Option Addr → Nat → Nat → Int → Int → Mem → Prop) (R : Ending → Mem → Prop) : (l4A K1 K4 R).erase = lP (bB (sR (sR (sR (sR (bB (sL (sR (lP (bB (sR (sL (sR (sR (sR (sR (sR (sR (sR (body)))))))))))))))))))) := by kernel_rfl
theorem l4_ok (K1 : Option Addr → Option Addr → Nat → Nat → Option Addr → Nat → Nat → Int → Mem → Prop) (R : Ending → Mem → Prop) (ρ : Env) (m : Mem) (h : (l4E fun x9 x11a x11l x11c x12a x12l x12c x13 x16 m => l4 K1 x9 x11a x11l x11c x12a x12l x12c x13 x16 R m) ρ m) : cpt P od (panicR R) (.loop (lP (bB (sR (sR (sR (sR (bB (sL (sR (lP (bB (sR (sL (sR (sR (sR (sR (sR (sR (sR (body)))))))))))))))))))))) (blockQ 4 (blockQ 1 (thenQ (acpt P od (panicR R) (.code (sR (sR (lP (bB (sR (sL (sR (sR (sR (sR (sR (sR (sR (body))))))))))))))) (thenQ (l1E K1) (blockQ 0 (thenQ (acpt P od (panicR R) (.cut (k7E fun x9 x12a x12l x12c m => k7  x9 x12a x12l x12c R m) (sR (sR (sR (sR (sR (sR (sR (sR (body)))))))))) (bodyQ P fn R)) (bodyQ P fn R))))) (thenQ (l1E K1) (blockQ 0 (thenQ (acpt P od (panicR R) (.cut (k7E fun x9 x12a x12l x12c m => k7  x9 x12a x12l x12c R m) (sR (sR (sR (sR (sR (sR (sR (sR (body)))))))))) (bodyQ P fn R)) (bodyQ P fn R))))))) ρ m := by
  unfold l4E at h
  obtain ⟨x9, e9, h⟩ := h.ex
  obtain ⟨x11a, x11l, x11c, e11, h⟩ := h.ex
  obtain ⟨x12a, x12l, x12c, e12, h⟩ := h.ex
  obtain ⟨x13, e13, h⟩ := h.ex
  obtain ⟨x16, e16, h⟩ := h.ex
  obtain ⟨I, N, h0, hs⟩ := h
  refine ⟨fun N => l4E (I N), N, (by show l4E (I N) ρ m; unfold l4E; rw [e9, e11, e12, e13, e16]; exact h0), ?_⟩
  clear h0 e9 e11 e12 e13 e16
  intro N ρ m h
  unfold l4E at h
  obtain ⟨x9, e9, h⟩ := h.ex
  obtain ⟨x11a, x11l, x11c, e11, h⟩ := h.ex
  obtain ⟨x12a, x12l, x12c, e12, h⟩ := h.ex
  obtain ⟨x13, e13, h⟩ := h.ex
  obtain ⟨x16, e16, h⟩ := h.ex
  refine cpt_mono (P := P) (lP (bB (sR (sR (sR (sR (bB (sL (sR (lP (bB (sR (sL (sR (sR (sR (sR (sR (sR (sR (body))))))))))))))))))))) (Q := thenQ (l4E fun x9 x11a x11l x11c x12a x12l x12c x13 x16 m => ∃ N1, N1 < N ∧ I N1 x9 x11a x11l x11c x12a x12l x12c x13 x16 m) (blockQ 4 (blockQ 1 (thenQ (acpt P od (panicR R) (.code (sR (sR (lP (bB (sR (sL (sR (sR (sR (sR (sR (sR (sR (body))))))))))))))) (thenQ (l1E K1) (blockQ 0 (thenQ (acpt P od (panicR R) (.cut (k7E fun x9 x12a x12l x12c m => k7  x9 x12a x12l x12c R m) (sR (sR (sR (sR (sR (sR (sR (sR (body)))))))))) (bodyQ P fn R)) (bodyQ P fn R))))) (thenQ (l1E K1) (blockQ 0 (thenQ (acpt P od (panicR R) (.cut (k7E fun x9 x12a x12l x12c m => k7  x9 x12a x12l x12c R m) (sR (sR (sR (sR (sR (sR (sR (sR (body)))))))))) (bodyQ P fn R)) (bodyQ P fn R)))))))) (fun e ρ m h => ?_) ρ m ?_
  · cases e with
    | normal =>
      have h : l4E (fun x9 x11a x11l x11c x12a x12l x12c x13 x16 m => ∃ N1, N1 < N ∧ I N1 x9 x11a x11l x11c x12a x12l x12c x13 x16 m) ρ m := h
      unfold l4E at h
      obtain ⟨x9, e9, h⟩ := h.ex
      obtain ⟨x11a, x11l, x11c, e11, h⟩ := h.ex
      obtain ⟨x12a, x12l, x12c, e12, h⟩ := h.ex
      obtain ⟨x13, e13, h⟩ := h.ex
      obtain ⟨x16, e16, h⟩ := h.ex
      obtain ⟨N1, hlt, h⟩ := h
      exact ⟨N1, hlt, (by show l4E (I N1) ρ m; unfold l4E; rw [e9, e11, e12, e13, e16]; exact h)⟩
    | _ => exact h
  have hh := hs N x9 x11a x11l x11c x12a x12l x12c x13 x16 m h
  generalize (fun x9 x11a x11l x11c x12a x12l x12c x13 x16 m => ∃ N1, N1 < N ∧ I N1 x9 x11a x11l x11c x12a x12l x12c x13 x16 m : Option Addr → Option Addr → Nat → Nat → Option Addr → Nat → Nat → Int → Int → Mem → Prop) = K4 at hh ⊢
  rw [← upd_self e9, ← upd_self e11, ← upd_self e12, ← upd_self e13, ← upd_self e16]
  rw [← l4_er K1 K4 R]
  refine acpt_sound (P := P) (l4A K1 K4 R) _ _ _ ⟨⟨True.intro, ⟨⟨(fun ρ m h => k6_ok K1 K4 R ρ m h), ⟨(fun ρ m h => l5_ok K1 K4 R ρ m h), True.intro⟩⟩, True.intro⟩⟩, True.intro⟩ ?_
  exact Eq.mp (l4_eq K1 K4 R x9 x11a x11l x11c x12a x12l x12c x13 x16 ρ m) hh
theorem k3_eq (K1 : Option Addr → Option Addr → Nat → Nat → Option Addr → Nat → Nat → Int → Mem → Prop) (R : Ending → Mem → Prop) (x9 : Option Addr) (x11a : Option Addr) (x11l : Nat) (x11c : Nat) (x12a : Option Addr) (x12l : Nat) (x12c : Nat) (x13 : Int) (ρ : Env) (m : Mem) : k3 K1 x9 x11a x11l x11c x12a x12l x12c x13 R m = acpt P od (panicR R) (k3A K1 R) (blockQ 1 (thenQ (acpt P od (panicR R) (.code (sR (sR (lP (bB (sR (sL (sR (sR (sR (sR (sR (sR (sR (body))))))))))))))) (thenQ (l1E K1) (blockQ 0 (thenQ (acpt P od (panicR R) (.cut (k7E fun x9 x12a x12l x12c m => k7  x9 x12a x12l x12c R m) (sR (sR (sR (sR (sR (sR (sR (sR (body)))))))))) (bodyQ P fn R)) (bodyQ P fn R))))) (thenQ (l1E K1) (blockQ 0 (thenQ (acpt P od (panicR R) (.cut (k7E fun x9 x12a x12l x12c m => k7  x9 x12a x12l x12c R m) (sR (sR (sR (sR (sR (sR (sR (sR (body)))))))))) (bodyQ P fn R)) (bodyQ P fn R)))))) (upd (upd (upd (upd ρ 13 (.int .i64 x13)) 12 (.slice x12a x12l x12c)) 11 (.slice x11a x11l x11c)) 9 (.pointer x9)) m := by kernel_rfl
theorem k3_er (K1 : Option Addr → Option Addr → Nat → Nat → Option Addr → Nat → Nat → Int → Mem → Prop) (R : Ending → Mem → Prop) : (k3A K1 R).erase = sR (sR (sR (bB (sL (sR (lP (bB (sR (sL (sR (sR (sR (sR (sR (sR (sR (body))))))))))))))))) := by kernel_rfl
theorem k3_ok (K1 : Option Addr → Option Addr → Nat → Nat → Option Addr → Nat → Nat → Int → Mem → Prop) (R : Ending → Mem → Prop) (ρ : Env) (m : Mem) (h : (k3E fun x9 x11a x11l x11c x12a x12l x12c x13 m => k3 K1 x9 x11a x11l x11c x12a x12l x12c x13 R m) ρ m) : cpt P od (panicR R) (sR (sR (sR (bB (sL (sR (lP (bB (sR (sL (sR (sR (sR (sR (sR (sR (sR (body)))))))))))))))))) (blockQ 1 (thenQ (acpt P od (panicR R) (.code (sR (sR (lP (bB (sR (sL (sR (sR (sR (sR (sR (sR (sR (body))))))))))))))) (thenQ (l1E K1) (blockQ 0 (thenQ (acpt P od (panicR R) (.cut (k7E fun x9 x12a x12l x12c m => k7  x9 x12a x12l x12c R m) (sR (sR (sR (sR (sR (sR (sR (sR (body)))))))))) (bodyQ P fn R)) (bodyQ P fn R))))) (thenQ (l1E K1) (blockQ 0 (thenQ (acpt P od (panicR R) (.cut (k7E fun x9 x12a x12l x12c m => k7  x9 x12a x12l x12c R m) (sR (sR (sR (sR (sR (sR (sR (sR (body)))))))))) (bodyQ P fn R)) (bodyQ P fn R)))))) ρ m := by
  unfold k3E at h
  obtain ⟨x9, e9, h⟩ := h.ex
  obtain ⟨x11a, x11l, x11c, e11, h⟩ := h.ex
  obtain ⟨x12a, x12l, x12c, e12, h⟩ := h.ex
  obtain ⟨x13, e13, h⟩ := h.ex
  rw [← upd_self e9, ← upd_self e11, ← upd_self e12, ← upd_self e13]
  rw [← k3_er K1 R]
  refine acpt_sound (P := P) (k3A K1 R) _ _ _ ⟨(fun ρ m h => l4_ok K1 R ρ m h), True.intro⟩ ?_
  exact Eq.mp (k3_eq K1 R x9 x11a x11l x11c x12a x12l x12c x13 ρ m) h
theorem l2_eq (K1 : Option Addr → Option Addr → Nat → Nat → Option Addr → Nat → Nat → Int → Mem → Prop) (K2 : Option Addr → Option Addr → Nat → Nat → Option Addr → Nat → Nat → Int → Option Addr → Nat → Nat → Int → Mem → Prop) (R : Ending → Mem → Prop) (x9 : Option Addr) (x11a : Option Addr) (x11l : Nat) (x11c : Nat) (x12a : Option Addr) (x12l : Nat) (x12c : Nat) (x13 : Int) (x14a : Option Addr) (x14l : Nat) (x14c : Nat) (x15 : Int) (ρ : Env) (m : Mem) : l2B K1 K2 x9 x11a x11l x11c x12a x12l x12c x13 x14a x14l x14c x15 R m = acpt P od (panicR R) (l2A K1 K2 R) (thenQ (l2E K2) (blockQ 2 (thenQ (acpt P od (panicR R) (.cut (k3E fun x9 x11a x11l x11c x12a x12l x12c x13 m => k3 K1 x9 x11a x11l x11c x12a x12l x12c x13 R m) (sR (sR (sR (bB (sL (sR (lP (bB (sR (sL (sR (sR (sR (sR (sR (sR (sR (body))))))))))))))))))) (blockQ 1 (thenQ (acpt P od (panicR R) (.code (sR (sR (lP (bB (sR (sL (sR (sR (sR (sR (sR (sR (sR (body))))))))))))))) (thenQ (l1E K1) (blockQ 0 (thenQ (acpt P od (panicR R) (.cut (k7E fun x9 x12a x12l x12c m => k7  x9 x12a x12l x12c R m) (sR (sR (sR (sR (sR (sR (sR (sR (body)))))))))) (bodyQ P fn R)) (bodyQ P fn R))))) (thenQ (l1E K1) (blockQ 0 (thenQ (acpt P od (panicR R) (.cut (k7E fun x9 x12a x12l x12c m => k7  x9 x12a x12l x12c R m) (sR (sR (sR (sR (sR (sR (sR (sR (body)))))))))) (bodyQ P fn R)) (bodyQ P fn R))))))) (blockQ 1 (thenQ (acpt P od (panicR R) (.code (sR (sR (lP (bB (sR (sL (sR (sR (sR (sR (sR (sR (sR (body))))))))))))))) (thenQ (l1E K1) (blockQ 0 (thenQ (acpt P od (panicR R) (.cut (k7E fun x9 x12a x12l x12c m => k7  x9 x12a x12l x12c R m) (sR (sR (sR (sR (sR (sR (sR (sR (body)))))))))) (bodyQ P fn R)) (bodyQ P fn R))))) (thenQ (l1E K1) (blockQ 0 (thenQ (acpt P od (panicR R) (.cut (k7E fun x9 x12a x12l x12c m => k7  x9 x12a x12l x12c R m) (sR (sR (sR (sR (sR (sR (sR (sR (body)))))))))) (bodyQ P fn R)) (bodyQ P fn R))))))))) (upd (upd (upd (upd (upd (upd ρ 15 (.int .i64 x15)) 14 (.slice x14a x14l x14c)) 13 (.int .i64 x13)) 12 (.slice x12a x12l x12c)) 11 (.slice x11a x11l x11c)) 9 (.pointer x9)) m := by kernel_rfl
theorem l2_er (K1 : Option Addr → Option Addr → Nat → Nat → Option Addr → Nat → Nat → Int → Mem → Prop) (K2 : Option Addr → Option Addr → Nat → Nat → Option Addr → Nat → Nat → Int → Option Addr → Nat → Nat → Int → Mem → Prop) (R : Ending → Mem → Prop) : (l2A K1 K2 R).erase = lP (bB (sR (sL (sR (sR (bB (sL (sR (lP (bB (sR (sL (sR (sR (sR (sR (sR (sR (sR (body)))))))))))))))))))) := by kernel_rfl
theorem l2_ok (K1 : Option Addr → Option Addr → Nat → Nat → Option Addr → Nat → Nat → Int → Mem → Prop) (R : Ending → Mem → Prop) (ρ : Env) (m : Mem) (h : (l2E fun x9 x11a x11l x11c x12a x12l x12c x13 x14a x14l x14c x15 m => l2 K1 x9 x11a x11l x11c x12a x12l x12c x13 x14a x14l x14c x15 R m) ρ m) : cpt P od (panicR R) (.loop (lP (bB (sR (sL (sR (sR (bB (sL (sR (lP (bB (sR (sL (sR (sR (sR (sR (sR (sR (sR (body)))))))))))))))))))))) (blockQ 2 (thenQ (acpt P od (panicR R) (.cut (k3E fun x9 x11a x11l x11c x12a x12l x12c x13 m => k3 K1 x9 x11a x11l x11c x12a x12l x12c x13 R m) (sR (sR (sR (bB (sL (sR (lP (bB (sR (sL (sR (sR (sR (sR (sR (sR (sR (body))))))))))))))))))) (blockQ 1 (thenQ (acpt P od (panicR R) (.code (sR (sR (lP (bB (sR (sL (sR (sR (sR (sR (sR (sR (sR (body))))))))))))))) (thenQ (l1E K1) (blockQ 0 (thenQ (acpt P od (panicR R) (.cut (k7E fun x9 x12a x12l x12c m => k7  x9 x12a x12l x12c R m) (sR (sR (sR (sR (sR (sR (sR (sR (body)))))))))) (bodyQ P fn R)) (bodyQ P fn R))))) (thenQ (l1E K1) (blockQ 0 (thenQ (acpt P od (panicR R) (.cut (k7E fun x9 x12a x12l x12c m => k7  x9 x12a x12l x12c R m) (sR (sR (sR (sR (sR (sR (sR (sR (body)))))))))) (bodyQ P fn R)) (bodyQ P fn R))))))) (blockQ 1 (thenQ (acpt P od (panicR R) (.code (sR (sR (lP (bB (sR (sL (sR (sR (sR (sR (sR (sR (sR (body))))))))))))))) (thenQ (l1E K1) (blockQ 0 (thenQ (acpt P od (panicR R) (.cut (k7E fun x9 x12a x12l x12c m => k7  x9 x12a x12l x12c R m) (sR (sR (sR (sR (sR (sR (sR (sR (body)))))))))) (bodyQ P fn R)) (bodyQ P fn R))))) (thenQ (l1E K1) (blockQ 0 (thenQ (acpt P od (panicR R) (.cut (k7E fun x9 x12a x12l x12c m => k7  x9 x12a x12l x12c R m) (sR (sR (sR (sR (sR (sR (sR (sR (body)))))))))) (bodyQ P fn R)) (bodyQ P fn R)))))))) ρ m := by
  unfold l2E at h
  obtain ⟨x9, e9, h⟩ := h.ex
  obtain ⟨x11a, x11l, x11c, e11, h⟩ := h.ex
  obtain ⟨x12a, x12l, x12c, e12, h⟩ := h.ex
  obtain ⟨x13, e13, h⟩ := h.ex
  obtain ⟨x14a, x14l, x14c, e14, h⟩ := h.ex
  obtain ⟨x15, e15, h⟩ := h.ex
  obtain ⟨I, N, h0, hs⟩ := h
  refine ⟨fun N => l2E (I N), N, (by show l2E (I N) ρ m; unfold l2E; rw [e9, e11, e12, e13, e14, e15]; exact h0), ?_⟩
  clear h0 e9 e11 e12 e13 e14 e15
  intro N ρ m h
  unfold l2E at h
  obtain ⟨x9, e9, h⟩ := h.ex
  obtain ⟨x11a, x11l, x11c, e11, h⟩ := h.ex
  obtain ⟨x12a, x12l, x12c, e12, h⟩ := h.ex
  obtain ⟨x13, e13, h⟩ := h.ex
  obtain ⟨x14a, x14l, x14c, e14, h⟩ := h.ex
  obtain ⟨x15, e15, h⟩ := h.ex
  refine cpt_mono (P := P) (lP (bB (sR (sL (sR (sR (bB (sL (sR (lP (bB (sR (sL (sR (sR (sR (sR (sR (sR (sR (body))))))))))))))))))))) (Q := thenQ (l2E fun x9 x11a x11l x11c x12a x12l x12c x13 x14a x14l x14c x15 m => ∃ N1, N1 < N ∧ I N1 x9 x11a x11l x11c x12a x12l x12c x13 x14a x14l x14c x15 m) (blockQ 2 (thenQ (acpt P od (panicR R) (.cut (k3E fun x9 x11a x11l x11c x12a x12l x12c x13 m => k3 K1 x9 x11a x11l x11c x12a x12l x12c x13 R m) (sR (sR (sR (bB (sL (sR (lP (bB (sR (sL (sR (sR (sR (sR (sR (sR (sR (body))))))))))))))))))) (blockQ 1 (thenQ (acpt P od (panicR R) (.code (sR (sR (lP (bB (sR (sL (sR (sR (sR (sR (sR (sR (sR (body))))))))))))))) (thenQ (l1E K1) (blockQ 0 (thenQ (acpt P od (panicR R) (.cut (k7E fun x9 x12a x12l x12c m => k7  x9 x12a x12l x12c R m) (sR (sR (sR (sR (sR (sR (sR (sR (body)))))))))) (bodyQ P fn R)) (bodyQ P fn R))))) (thenQ (l1E K1) (blockQ 0 (thenQ (acpt P od (panicR R) (.cut (k7E fun x9 x12a x12l x12c m => k7  x9 x12a x12l x12c R m) (sR (sR (sR (sR (sR (sR (sR (sR (body)))))))))) (bodyQ P fn R)) (bodyQ P fn R))))))) (blockQ 1 (thenQ (acpt P od (panicR R) (.code (sR (sR (lP (bB (sR (sL (sR (sR (sR (sR (sR (sR (sR (body))))))))))))))) (thenQ (l1E K1) (blockQ 0 (thenQ (acpt P od (panicR R) (.cut (k7E fun x9 x12a x12l x12c m => k7  x9 x12a x12l x12c R m) (sR (sR (sR (sR (sR (sR (sR (sR (body)))))))))) (bodyQ P fn R)) (bodyQ P fn R))))) (thenQ (l1E K1) (blockQ 0 (thenQ (acpt P od (panicR R) (.cut (k7E fun x9 x12a x12l x12c m => k7  x9 x12a x12l x12c R m) (sR (sR (sR (sR (sR (sR (sR (sR (body)))))))))) (bodyQ P fn R)) (bodyQ P fn R))))))))) (fun e ρ m h => ?_) ρ m ?_
  · cases e with
    | normal =>
      have h : l2E (fun x9 x11a x11l x11c x12a x12l x12c x13 x14a x14l x14c x15 m => ∃ N1, N1 < N ∧ I N1 x9 x11a x11l x11c x12a x12l x12c x13 x14a x14l x14c x15 m) ρ m := h
      unfold l2E at h
      obtain ⟨x9, e9, h⟩ := h.ex
      obtain ⟨x11a, x11l, x11c, e11, h⟩ := h.ex
      obtain ⟨x12a, x12l, x12c, e12, h⟩ := h.ex
      obtain ⟨x13, e13, h⟩ := h.ex
      obtain ⟨x14a, x14l, x14c, e14, h⟩ := h.ex
      obtain ⟨x15, e15, h⟩ := h.ex
      obtain ⟨N1, hlt, h⟩ := h
      exact ⟨N1, hlt, (by show l2E (I N1) ρ m; unfold l2E; rw [e9, e11, e12, e13, e14, e15]; exact h)⟩
    | _ => exact h
  have hh := hs N x9 x11a x11l x11c x12a x12l x12c x13 x14a x14l x14c x15 m h
  generalize (fun x9 x11a x11l x11c x12a x12l x12c x13 x14a x14l x14c x15 m => ∃ N1, N1 < N ∧ I N1 x9 x11a x11l x11c x12a x12l x12c x13 x14a x14l x14c x15 m : Option Addr → Option Addr → Nat → Nat → Option Addr → Nat → Nat → Int → Option Addr → Nat → Nat → Int → Mem → Prop) = K2 at hh ⊢
  rw [← upd_self e9, ← upd_self e11, ← upd_self e12, ← upd_self e13, ← upd_self e14, ← upd_self e15]
  rw [← l2_er K1 K2 R]
  refine acpt_sound (P := P) (l2A K1 K2 R) _ _ _ True.intro ?_
  exact Eq.mp (l2_eq K1 K2 R x9 x11a x11l x11c x12a x12l x12c x13 x14a x14l x14c x15 ρ m) hh
theorem k7_eq  (R : Ending → Mem → Prop) (x9 : Option Addr) (x12a : Option Addr) (x12l : Nat) (x12c : Nat) (ρ : Env) (m : Mem) : k7  x9 x12a x12l x12c R m = acpt P od (panicR R) (k7A  R) (bodyQ P fn R) (upd (upd ρ 12 (.slice x12a x12l x12c)) 9 (.pointer x9)) m := by kernel_rfl
theorem k7_er  (R : Ending → Mem → Prop) : (k7A  R).erase = sR (sR (sR (sR (sR (sR (sR (sR (body)))))))) := by kernel_rfl
theorem k7_ok  (R : Ending → Mem → Prop) (ρ : Env) (m : Mem) (h : (k7E fun x9 x12a x12l x12c m => k7  x9 x12a x12l x12c R m) ρ m) : cpt P od (panicR R) (sR (sR (sR (sR (sR (sR (sR (sR (body))))))))) (bodyQ P fn R) ρ m := by
  unfold k7E at h
  obtain ⟨x9, e9, h⟩ := h.ex
  obtain ⟨x12a, x12l, x12c, e12, h⟩ := h.ex
  rw [← upd_self e9, ← upd_self e12]
  rw [← k7_er  R]
  refine acpt_sound (P := P) (k7A  R) _ _ _ True.intro ?_
  exact Eq.mp (k7_eq  R x9 x12a x12l x12c ρ m) h
theorem l1_eq  (K1 : Option Addr → Option Addr → Nat → Nat → Option Addr → Nat → Nat → Int → Mem → Prop) (R : Ending → Mem → Prop) (x9 : Option Addr) (x11a : Option Addr) (x11l : Nat) (x11c : Nat) (x12a : Option Addr) (x12l : Nat) (x12c : Nat) (x13 : Int) (ρ : Env) (m : Mem) : l1B  K1 x9 x11a x11l x11c x12a x12l x12c x13 R m = acpt P od (panicR R) (l1A  K1 R) (thenQ (l1E K1) (blockQ 0 (thenQ (acpt P od (panicR R) (.cut (k7E fun x9 x12a x12l x12c m => k7  x9 x12a x12l x12c R m) (sR (sR (sR (sR (sR (sR (sR (sR (body)))))))))) (bodyQ P fn R)) (bodyQ P fn R)))) (upd (upd (upd (upd ρ 13 (.int .i64 x13)) 12 (.slice x12a x12l x12c)) 11 (.slice x11a x11l x11c)) 9 (.pointer x9)) m := by kernel_rfl
theorem l1_er  (K1 : Option Addr → Option Addr → Nat → Nat → Option Addr → Nat → Nat → Int → Mem → Prop) (R : Ending → Mem → Prop) : (l1A  K1 R).erase = lP (bB (sR (sL (sR (sR (sR (sR (sR (sR (sR (body))))))))))) := by kernel_rfl
theorem l1_ok  (R : Ending → Mem → Prop) (ρ : Env) (m : Mem) (h : (l1E fun x9 x11a x11l x11c x12a x12l x12c x13 m => l1  x9 x11a x11l x11c x12a x12l x12c x13 R m) ρ m) : cpt P od (panicR R) (.loop (lP (bB (sR (sL (sR (sR (sR (sR (sR (sR (sR (body))))))))))))) (blockQ 0 (thenQ (acpt P od (panicR R) (.cut (k7E fun x9 x12a x12l x12c m => k7  x9 x12a x12l x12c R m) (sR (sR (sR (sR (sR (sR (sR (sR (body)))))))))) (bodyQ P fn R)) (bodyQ P fn R))) ρ m := by
  unfold l1E at h
  obtain ⟨x9, e9, h⟩ := h.ex
  obtain ⟨x11a, x11l, x11c, e11, h⟩ := h.ex
  obtain ⟨x12a, x12l, x12c, e12, h⟩ := h.ex
  obtain ⟨x13, e13, h⟩ := h.ex
  obtain ⟨I, N, h0, hs⟩ := h
  refine ⟨fun N => l1E (I N), N, (by show l1E (I N) ρ m; unfold l1E; rw [e9, e11, e12, e13]; exact h0), ?_⟩
  clear h0 e9 e11 e12 e13
  intro N ρ m h
  unfold l1E at h
  obtain ⟨x9, e9, h⟩ := h.ex
  obtain ⟨x11a, x11l, x11c, e11, h⟩ := h.ex
  obtain ⟨x12a, x12l, x12c, e12, h⟩ := h.ex
  obtain ⟨x13, e13, h⟩ := h.ex
  refine cpt_mono (P := P) (lP (bB (sR (sL (sR (sR (sR (sR (sR (sR (sR (body)))))))))))) (Q := thenQ (l1E fun x9 x11a x11l x11c x12a x12l x12c x13 m => ∃ N1, N1 < N ∧ I N1 x9 x11a x11l x11c x12a x12l x12c x13 m) (blockQ 0 (thenQ (acpt P od (panicR R) (.cut (k7E fun x9 x12a x12l x12c m => k7  x9 x12a x12l x12c R m) (sR (sR (sR (sR (sR (sR (sR (sR (body)))))))))) (bodyQ P fn R)) (bodyQ P fn R)))) (fun e ρ m h => ?_) ρ m ?_
  · cases e with
    | normal =>
      have h : l1E (fun x9 x11a x11l x11c x12a x12l x12c x13 m => ∃ N1, N1 < N ∧ I N1 x9 x11a x11l x11c x12a x12l x12c x13 m) ρ m := h
      unfold l1E at h
      obtain ⟨x9, e9, h⟩ := h.ex
      obtain ⟨x11a, x11l, x11c, e11, h⟩ := h.ex
      obtain ⟨x12a, x12l, x12c, e12, h⟩ := h.ex
      obtain ⟨x13, e13, h⟩ := h.ex
      obtain ⟨N1, hlt, h⟩ := h
      exact ⟨N1, hlt, (by show l1E (I N1) ρ m; unfold l1E; rw [e9, e11, e12, e13]; exact h)⟩
    | _ => exact h
  have hh := hs N x9 x11a x11l x11c x12a x12l x12c x13 m h
  generalize (fun x9 x11a x11l x11c x12a x12l x12c x13 m => ∃ N1, N1 < N ∧ I N1 x9 x11a x11l x11c x12a x12l x12c x13 m : Option Addr → Option Addr → Nat → Nat → Option Addr → Nat → Nat → Int → Mem → Prop) = K1 at hh ⊢
  rw [← upd_self e9, ← upd_self e11, ← upd_self e12, ← upd_self e13]
  rw [← l1_er  K1 R]
  refine acpt_sound (P := P) (l1A  K1 R) _ _ _ ⟨⟨True.intro, ⟨⟨⟨(fun ρ m h => k3_ok K1 R ρ m h), ⟨(fun ρ m h => l2_ok K1 R ρ m h), True.intro⟩⟩, True.intro⟩, True.intro⟩⟩, True.intro⟩ ?_
  exact Eq.mp (l1_eq  K1 R x9 x11a x11l x11c x12a x12l x12c x13 ρ m) hh
theorem e0_eq (a0a : Option Addr) (a0l : Nat) (a0c : Nat) (a1 : Int) (a2a : Option Addr) (a2l : Nat) (a2c : Nat) (a3a : Option Addr) (a3l : Nat) (a3c : Nat) (R : Ending → Mem → Prop) (m : Mem) : e0 a0a a0l a0c a1 a2a a2l a2c a3a a3l a3c R m = acpt P od (panicR R) (e0A R) (bodyQ P fn R) (argE (#[.slice a0a a0l a0c, .int .u8 a1, .slice a2a a2l a2c, .slice a3a a3l a3c] : Array Value).toList) m := by kernel_rfl
theorem ok (a0a : Option Addr) (a0l : Nat) (a0c : Nat) (a1 : Int) (a2a : Option Addr) (a2l : Nat) (a2c : Nat) (a3a : Option Addr) (a3l : Nat) (a3c : Nat) (R : Ending → Mem → Prop) (m : Mem) (h : e0 a0a a0l a0c a1 a2a a2l a2c a3a a3l a3c R m) : HC P id #[.slice a0a a0l a0c, .int .u8 a1, .slice a2a a2l a2c, .slice a3a a3l a3c] m R := by
  refine HC_of (fn := fn) (c := body) (od := od) (tb := tb) Go.Proofs.Try.func5 (by kernel_rfl) (by kernel_rfl) follows (by kernel_rfl) (of_decide_eq_true (by kernel_rfl)) ?_
  have he : (e0A R).erase = body := by kernel_rfl
  rw [← he]
  refine acpt_sound (P := P) (e0A R) _ _ _ ⟨⟨⟨⟨⟨⟨⟨⟨(fun ρ m h => k7_ok  R ρ m h), ⟨(fun ρ m h => l1_ok  R ρ m h), True.intro⟩⟩, True.intro⟩, True.intro⟩, True.intro⟩, True.intro⟩, True.intro⟩, True.intro⟩, True.intro⟩ ?_
  exact Eq.mp (e0_eq a0a a0l a0c a1 a2a a2l a2c a3a a3l a3c R m) h
end eyotlaw3_PageFaults

/-! ### eyot/eyotlaw3.PageAll -/
namespace eyotlaw3_PageAll
noncomputable def fn : Func := Go.Proofs.Try.f6
noncomputable def body : Code := fn.body.getD .skip
def od : Nat → List (Nat × Bool) := fun | 29 => [(0, false), (1, false), (2, false), (3, true), (4, true), (5, true), (6, true), (7, true), (8, true), (9, true), (10, true), (11, true), (12, true), (13, true), (14, false), (15, false), (16, false), (17, false), (18, false), (19, false), (20, false)] | _ => []
def tb : Nat → List Row := fun | 29 => [(0, 65536, 138), (1, 174224571863520493293247799005065324265472, 139), (2, 348449143727040986586495598010130648530944, 140), (4, 696898287454081973172991196020261297094656, 141), (12, 2090694862362245919518973588060783891185664, 142), (4, 696898287454081973172991196020261297061889, 143), (4, 696898287454081973172991196020261297078272, 144), (4, 696898287454081973172991196020261297061890, 145), (196, 34148016085250016685476568604992803556032512, 146), (4, 696898287454081973172991196020261297078272, 147), (4, 696898287454081973172991196020261297061890, 148), (1540, 268305840669821559671601610467800599368826880, 149), (4, 696898287454081973172991196020261297061890, 150), (6148, 1071132667816923992766887468283141613584121856, 151), (4, 696898287454081973172991196020261297061889, 152), (16388, 2855192283699373844089744930095010534062555136, 153), (40964, 7136935361817253487264602838443495943210795008, 154), (65828, 11468855116631827032507916112905440165747490816, 155), (131076, 22836659981582812178905748502387942443421007872, 156), (262164, 45675410658027986603731015978363945670733201408, 157), (524292, 91344549231468886469703475035963708989792845824, 158)] | _ => []
def k6E (K : Option Addr → Nat → Nat → Int → Option Addr → Nat → Nat → Option Addr → Int → Option Addr → Nat → Nat → Option Addr → Nat → Nat → Int → Mem → Prop) : Env → Mem → Prop := fun ρ m => UnS (ρ 0) fun x0a x0l x0c => UnI (ρ 1) .i64 fun x1 => UnS (ρ 2) fun x2a x2l x2c => UnP (ρ 8) fun x8 => UnI (ρ 10) .i64 fun x10 => UnS (ρ 11) fun x11a x11l x11c => UnS (ρ 12) fun x12a x12l x12c => UnI (ρ 13) .i64 fun x13 => K x0a x0l x0c x1 x2a x2l x2c x8 x10 x11a x11l x11c x12a x12l x12c x13 m
def k6 (K2 : Option Addr → Nat → Nat → Int → Option Addr → Nat → Nat → Option Addr → Int → Option Addr → Nat → Nat → Option Addr → Nat → Nat → Int → Mem → Prop) (x0a : Option Addr) (x0l : Nat) (x0c : Nat) (x1 : Int) (x2a : Option Addr) (x2l : Nat) (x2c : Nat) (x8 : Option Addr) (x10 : Int) (x11a : Option Addr) (x11l : Nat) (x11c : Nat) (x12a : Option Addr) (x12l : Nat) (x12c : Nat) (x13 : Int) (R : Ending → Mem → Prop) (m : Mem) : Prop :=
  HC P page_Pages_Reads.id #[.pointer x8] m (Cont (fun v m1 =>
      UnS v fun x177a x177l x177c =>
      HC P eyotref13_SameInts.id #[.slice x177a x177l x177c, .slice x11a x11l x11c] m1 (Cont (fun v m2 =>
          UnB v fun x179 =>
          Br (!x179) (
            R (.returned (.bool false)) m2) (
            HC P page_Pages_Len.id #[.pointer x8] m2 (Cont (fun v m3 =>
                UnI v .i64 fun x183 =>
                Br (x183 != ((x0l : Nat) : Int)) (
                  R (.returned (.bool false)) m3) (
                  HC P page_Pages_Count.id #[.pointer x8] m3 (Cont (fun v m4 =>
                      UnI v .i64 fun x190 =>
                      Br (x190 != x10) (
                        R (.returned (.bool false)) m4) (
                        K2 x0a x0l x0c x1 x2a x2l x2c x8 x10 x11a x11l x11c x12a x12l x12c (IntKind.i64.wrap (x13 + 1)) m4)) (panicR R)))) (panicR R)))) (panicR R))) (panicR R))
noncomputable def k6A (K2 : Option Addr → Nat → Nat → Int → Option Addr → Nat → Nat → Option Addr → Int → Option Addr → Nat → Nat → Option Addr → Nat → Nat → Int → Mem → Prop) (R : Ending → Mem → Prop) : ACode := (.code (sR (sR (bB (sL (sR (lP (bB (sR (sL (sR (sR (sR (sR (sR (sR (sR (sR (sR (sR (body)))))))))))))))))))))
def k5E (K : Option Addr → Nat → Nat → Int → Option Addr → Nat → Nat → Option Addr → Int → Option Addr → Nat → Nat → Option Addr → Nat → Nat → Int → Int → Option Addr → Nat → Nat → Int → Mem → Prop) : Env → Mem → Prop := fun ρ m => UnS (ρ 0) fun x0a x0l x0c => UnI (ρ 1) .i64 fun x1 => UnS (ρ 2) fun x2a x2l x2c => UnP (ρ 8) fun x8 => UnI (ρ 10) .i64 fun x10 => UnS (ρ 11) fun x11a x11l x11c => UnS (ρ 12) fun x12a x12l x12c => UnI (ρ 13) .i64 fun x13 => UnI (ρ 14) .i64 fun x14 => UnS (ρ 15) fun x15a x15l x15c => UnI (ρ 16) .i64 fun x16 => K x0a x0l x0c x1 x2a x2l x2c x8 x10 x11a x11l x11c x12a x12l x12c x13 x14 x15a x15l x15c x16 m
def k5 (K2 : Option Addr → Nat → Nat → Int → Option Addr → Nat → Nat → Option Addr → Int → Option Addr → Nat → Nat → Option Addr → Nat → Nat → Int → Mem → Prop) (x0a : Option Addr) (x0l : Nat) (x0c : Nat) (x1 : Int) (x2a : Option Addr) (x2l : Nat) (x2c : Nat) (x8 : Option Addr) (x10 : Int) (x11a : Option Addr) (x11l : Nat) (x11c : Nat) (x12a : Option Addr) (x12l : Nat) (x12c : Nat) (x13 : Int) (x14 : Int) (x15a : Option Addr) (x15l : Nat) (x15c : Nat) (x16 : Int) (R : Ending → Mem → Prop) (m : Mem) : Prop :=
  Sub m fun r1 =>
  Br (x16 != 0) (
    R (.returned (.bool false)) m) (
    B2S r1 x15a x15l fun s141 =>
    SlS x0a x0c (IntKind.i64.wrap (x14 * x1)) (if ((x0l : Nat) : Int) < (IntKind.i64.wrap ((IntKind.i64.wrap (x14 * x1)) + x1)) then ((x0l : Nat) : Int) else IntKind.i64.wrap ((IntKind.i64.wrap (x14 * x1)) + x1)) 1 fun x154a x154l x154c =>
    B2S m x154a x154l fun s155 =>
    Br (!(s141.toList == s155.toList)) (
      R (.returned (.bool false)) m) (
      HC P eyotlaw0_Spoil.id #[.slice x15a x15l x15c] m (Cont (fun v m2 =>
          UnTup v fun us0 =>
          UnNil us0 (
            k6 K2 x0a x0l x0c x1 x2a x2l x2c x8 x10 x11a x11l x11c x12a x12l x12c x13 R m2)) (panicR R))))
noncomputable def k5A (K2 : Option Addr → Nat → Nat → Int → Option Addr → Nat → Nat → Option Addr → Int → Option Addr → Nat → Nat → Option Addr → Nat → Nat → Int → Mem → Prop) (R : Ending → Mem → Prop) : ACode := (.code (sR (sR (sR (sR (cT (sR (bB (sL (sR (bB (sL (sR (lP (bB (sR (sL (sR (sR (sR (sR (sR (sR (sR (sR (sR (sR (body))))))))))))))))))))))))))))
def k4E (K : Option Addr → Nat → Nat → Int → Option Addr → Nat → Nat → Option Addr → Int → Option Addr → Nat → Nat → Option Addr → Nat → Nat → Int → Int → Option Addr → Nat → Nat → Int → Bool → Mem → Prop) : Env → Mem → Prop := fun ρ m => UnS (ρ 0) fun x0a x0l x0c => UnI (ρ 1) .i64 fun x1 => UnS (ρ 2) fun x2a x2l x2c => UnP (ρ 8) fun x8 => UnI (ρ 10) .i64 fun x10 => UnS (ρ 11) fun x11a x11l x11c => UnS (ρ 12) fun x12a x12l x12c => UnI (ρ 13) .i64 fun x13 => UnI (ρ 14) .i64 fun x14 => UnS (ρ 15) fun x15a x15l x15c => UnI (ρ 16) .i64 fun x16 => UnB (ρ 129) fun x129 => K x0a x0l x0c x1 x2a x2l x2c x8 x10 x11a x11l x11c x12a x12l x12c x13 x14 x15a x15l x15c x16 x129 m
def k4 (K2 : Option Addr → Nat → Nat → Int → Option Addr → Nat → Nat → Option Addr → Int → Option Addr → Nat → Nat → Option Addr → Nat → Nat → Int → Mem → Prop) (x0a : Option Addr) (x0l : Nat) (x0c : Nat) (x1 : Int) (x2a : Option Addr) (x2l : Nat) (x2c : Nat) (x8 : Option Addr) (x10 : Int) (x11a : Option Addr) (x11l : Nat) (x11c : Nat) (x12a : Option Addr) (x12l : Nat) (x12c : Nat) (x13 : Int) (x14 : Int) (x15a : Option Addr) (x15l : Nat) (x15c : Nat) (x16 : Int) (x129 : Bool) (R : Ending → Mem → Prop) (m : Mem) : Prop :=
  Br x129 (
    Br (x16 != 11) (
      R (.returned (.bool false)) m) (
      Br (decide (((x15l : Nat) : Int) > 0)) (
        R (.returned (.bool false)) m) (
        K2 x0a x0l x0c x1 x2a x2l x2c x8 x10 x11a x11l x11c x12a x12l x12c (IntKind.i64.wrap (x13 + 1)) m))) (
    k5 K2 x0a x0l x0c x1 x2a x2l x2c x8 x10 x11a x11l x11c x12a x12l x12c x13 x14 x15a x15l x15c x16 R m)
noncomputable def k4A (K2 : Option Addr → Nat → Nat → Int → Option Addr → Nat → Nat → Option Addr → Int → Option Addr → Nat → Nat → Option Addr → Nat → Nat → Int → Mem → Prop) (R : Ending → Mem → Prop) : ACode := (.code (sR (sL (sR (sR (sR (cT (sR (bB (sL (sR (bB (sL (sR (lP (bB (sR (sL (sR (sR (sR (sR (sR (sR (sR (sR (sR (sR (body)))))))))))))))))))))))))))))
def k3E (K : Option Addr → Nat → Nat → Int → Option Addr → Nat → Nat → Option Addr → Int → Option Addr → Nat → Nat → Option Addr → Nat → Nat → Int → Int → Option Addr → Nat → Nat → Int → Bool → Mem → Prop) : Env → Mem → Prop := fun ρ m => UnS (ρ 0) fun x0a x0l x0c => UnI (ρ 1) .i64 fun x1 => UnS (ρ 2) fun x2a x2l x2c => UnP (ρ 8) fun x8 => UnI (ρ 10) .i64 fun x10 => UnS (ρ 11) fun x11a x11l x11c => UnS (ρ 12) fun x12a x12l x12c => UnI (ρ 13) .i64 fun x13 => UnI (ρ 14) .i64 fun x14 => UnS (ρ 15) fun x15a x15l x15c => UnI (ρ 16) .i64 fun x16 => UnB (ρ 101) fun x101 => K x0a x0l x0c x1 x2a x2l x2c x8 x10 x11a x11l x11c x12a x12l x12c x13 x14 x15a x15l x15c x16 x101 m
def k3 (K2 : Option Addr → Nat → Nat → Int → Option Addr → Nat → Nat → Option Addr → Int → Option Addr → Nat → Nat → Option Addr → Nat → Nat → Int → Mem → Prop) (x0a : Option Addr) (x0l : Nat) (x0c : Nat) (x1 : Int) (x2a : Option Addr) (x2l : Nat) (x2c : Nat) (x8 : Option Addr) (x10 : Int) (x11a : Option Addr) (x11l : Nat) (x11c : Nat) (x12a : Option Addr) (x12l : Nat) (x12c : Nat) (x13 : Int) (x14 : Int) (x15a : Option Addr) (x15l : Nat) (x15c : Nat) (x16 : Int) (x101 : Bool) (R : Ending → Mem → Prop) (m : Mem) : Prop :=
  Br x101 (
    Br (x16 != 1) (
      R (.returned (.bool false)) m) (
      Br (decide (((x15l : Nat) : Int) > 0)) (
        R (.returned (.bool false)) m) (
        K2 x0a x0l x0c x1 x2a x2l x2c x8 x10 x11a x11l x11c x12a x12l x12c (IntKind.i64.wrap (x13 + 1)) m))) (
    NewC m #[.int .i64 x14] T_int fun b111 m1 =>
    BiN P .append #[T_sl_int, T_sl_int] T_sl_int #[false, false] #[.slice x11a x11l x11c, .slice (some ⟨b111, 0, none⟩) 1 1] m1 (fun w m2 =>
      UnS w fun x112a x112l x112c =>
      Br (decide (((x12l : Nat) : Int) > 0)) (
        IxS x12a x12l 0 1 fun x119b x119o =>
        LdV m2 x119b x119o fun v =>
        UnI v .i64 fun x120 =>
        Br (x14 == x120) (
          k4 K2 x0a x0l x0c x1 x2a x2l x2c x8 x10 x112a x112l x112c x12a x12l x12c x13 x14 x15a x15l x15c x16 true R m2) (
          IxS x12a x12l 1 1 fun x125b x125o =>
          LdV m2 x125b x125o fun v =>
          UnI v .i64 fun x126 =>
          k4 K2 x0a x0l x0c x1 x2a x2l x2c x8 x10 x112a x112l x112c x12a x12l x12c x13 x14 x15a x15l x15c x16 (x14 == x126) R m2)) (
        k4 K2 x0a x0l x0c x1 x2a x2l x2c x8 x10 x112a x112l x112c x12a x12l x12c x13 x14 x15a x15l x15c x16 false R m2)) (panicR R))
noncomputable def k3A (K2 : Option Addr → Nat → Nat → Int → Option Addr → Nat → Nat → Option Addr → Int → Option Addr → Nat → Nat → Option Addr → Nat → Nat → Int → Mem → Prop) (R : Ending → Mem → Prop) : ACode := (.code (sR (sL (sR (cT (sR (bB (sL (sR (bB (sL (sR (lP (bB (sR (sL (sR (sR (sR (sR (sR (sR (sR (sR (sR (sR (body)))))))))))))))))))))))))))
def k7E (K : Mem → Prop) : Env → Mem → Prop := fun ρ m => K  m
def k7   (R : Ending → Mem → Prop) (m : Mem) : Prop :=
  HC P page_Pages_Read.id #[.pointer none, .int .i64 0] m (Cont (fun v m1 =>
      UnTup v fun us0 =>
      UnCons us0 fun w us1 =>
      UnS w fun x196_0a x196_0l x196_0c =>
      UnCons us1 fun w us2 =>
      UnI w .i64 fun x196_1 =>
      UnNil us2 (
        HC P page_Pages_Fault.id #[.pointer none, .slice none 0 0] m1 (Cont (fun v m2 =>
            UnTup v fun us0 =>
            UnNil us0 (
              HC P page_Pages_Clear.id #[.pointer none] m2 (Cont (fun v m3 =>
                  UnTup v fun us0 =>
                  UnNil us0 (
                    Br (x196_1 == 1) (
                      HC P page_Pages_Len.id #[.pointer none] m3 (Cont (fun v m4 =>
                        UnI v .i64 fun x207 =>
                        HC P page_Pages_Count.id #[.pointer none] m4 (Cont (fun v m5 =>
                        UnI v .i64 fun x209 =>
                        HC P page_Pages_Reads.id #[.pointer none] m5 (Cont (fun v m6 =>
                        UnS v fun x212a x212l x212c =>
                        R (.returned (.bool ((IntKind.i64.wrap ((IntKind.i64.wrap (x207 + x209)) + ((x212l : Nat) : Int))) == 0))) m6) (panicR R))) (panicR R))) (panicR R))) (
                      R (.returned (.bool false)) m3))) (panicR R)))) (panicR R)))) (panicR R))
noncomputable def k7A  (R : Ending → Mem → Prop) : ACode := (.code (sR (sR (sR (sR (sR (sR (sR (sR (sR (sR (sR (body)))))))))))))
def l2E (K : Option Addr → Nat → Nat → Int → Option Addr → Nat → Nat → Option Addr → Int → Option Addr → Nat → Nat → Option Addr → Nat → Nat → Int → Mem → Prop) : Env → Mem → Prop := fun ρ m => UnS (ρ 0) fun x0a x0l x0c => UnI (ρ 1) .i64 fun x1 => UnS (ρ 2) fun x2a x2l x2c => UnP (ρ 8) fun x8 => UnI (ρ 10) .i64 fun x10 => UnS (ρ 11) fun x11a x11l x11c => UnS (ρ 12) fun x12a x12l x12c => UnI (ρ 13) .i64 fun x13 => K x0a x0l x0c x1 x2a x2l x2c x8 x10 x11a x11l x11c x12a x12l x12c x13 m
def l2B  (K2 : Option Addr → Nat → Nat → Int → Option Addr → Nat → Nat → Option Addr → Int → Option Addr → Nat → Nat → Option Addr → Nat → Nat → Int → Mem → Prop) (x0a : Option Addr) (x0l : Nat) (x0c : Nat) (x1 : Int) (x2a : Option Addr) (x2l : Nat) (x2c : Nat) (x8 : Option Addr) (x10 : Int) (x11a : Option Addr) (x11l : Nat) (x11c : Nat) (x12a : Option Addr) (x12l : Nat) (x12c : Nat) (x13 : Int) (R : Ending → Mem → Prop) (m : Mem) : Prop :=
  Br (decide (x13 < ((x2l : Nat) : Int))) (
    IxS x2a x2l x13 1 fun x79b x79o =>
    LdV m x79b x79o fun v =>
    UnI v .u8 fun x80 =>
    Br (decide ((IntKind.i64.wrap ((IntKind.i64.wrap (Int.tmod x80 37)) - 1)) < 29)) (
      HC P page_Pages_Read.id #[.pointer x8, .int .i64 (IntKind.i64.wrap ((IntKind.i64.wrap (Int.tmod x80 37)) - 1))] m (Cont (fun v m1 =>
          UnTup v fun us0 =>
          UnCons us0 fun w us1 =>
          UnS w fun x92_0a x92_0l x92_0c =>
          UnCons us1 fun w us2 =>
          UnI w .i64 fun x92_1 =>
          UnNil us2 (
            Br (decide ((IntKind.i64.wrap ((IntKind.i64.wrap (Int.tmod x80 37)) - 1)) < 0)) (
              k3 K2 x0a x0l x0c x1 x2a x2l x2c x8 x10 x11a x11l x11c x12a x12l x12c x13 (IntKind.i64.wrap ((IntKind.i64.wrap (Int.tmod x80 37)) - 1)) x92_0a x92_0l x92_0c x92_1 true R m1) (
              k3 K2 x0a x0l x0c x1 x2a x2l x2c x8 x10 x11a x11l x11c x12a x12l x12c x13 (IntKind.i64.wrap ((IntKind.i64.wrap (Int.tmod x80 37)) - 1)) x92_0a x92_0l x92_0c x92_1 (decide ((IntKind.i64.wrap ((IntKind.i64.wrap (Int.tmod x80 37)) - 1)) ≥ x10)) R m1))) (panicR R))) (
      Br (decide ((IntKind.i64.wrap ((IntKind.i64.wrap (Int.tmod x80 37)) - 1)) < 34)) (
        NewC m #[.int .i64 (IntKind.i64.wrap ((IntKind.i64.wrap ((IntKind.i64.wrap (Int.tmod x80 37)) - 1)) - 29)), .int .i64 (IntKind.i64.wrap ((IntKind.i64.wrap ((IntKind.i64.wrap (Int.tmod x80 37)) - 1)) - 28))] T_int fun b167 m1 =>
        HC P page_Pages_Fault.id #[.pointer x8, .slice (some ⟨b167, 0, none⟩) 2 2] m1 (Cont (fun v m2 =>
            UnTup v fun us0 =>
            UnNil us0 (
              k6 K2 x0a x0l x0c x1 x2a x2l x2c x8 x10 x11a x11l x11c (some ⟨b167, 0, none⟩) 2 2 x13 R m2)) (panicR R))) (
        Br ((IntKind.i64.wrap ((IntKind.i64.wrap (Int.tmod x80 37)) - 1)) == 34) (
          HC P page_Pages_Clear.id #[.pointer x8] m (Cont (fun v m1 =>
              UnTup v fun us0 =>
              UnNil us0 (
                k6 K2 x0a x0l x0c x1 x2a x2l x2c x8 x10 none 0 0 x12a x12l x12c x13 R m1)) (panicR R))) (
          HC P page_Pages_Fault.id #[.pointer x8, .slice none 0 0] m (Cont (fun v m1 =>
              UnTup v fun us0 =>
              UnNil us0 (
                k6 K2 x0a x0l x0c x1 x2a x2l x2c x8 x10 x11a x11l x11c none 0 0 x13 R m1)) (panicR R)))))) (
    k7   R m)
def l2  (x0a : Option Addr) (x0l : Nat) (x0c : Nat) (x1 : Int) (x2a : Option Addr) (x2l : Nat) (x2c : Nat) (x8 : Option Addr) (x10 : Int) (x11a : Option Addr) (x11l : Nat) (x11c : Nat) (x12a : Option Addr) (x12l : Nat) (x12c : Nat) (x13 : Int) (R : Ending → Mem → Prop) (m : Mem) : Prop :=
  ∃ (I : Nat → Option Addr → Nat → Nat → Int → Option Addr → Nat → Nat → Option Addr → Int → Option Addr → Nat → Nat → Option Addr → Nat → Nat → Int → Mem → Prop) (N : Nat), I N x0a x0l x0c x1 x2a x2l x2c x8 x10 x11a x11l x11c x12a x12l x12c x13 m ∧ ∀ N x0a x0l x0c x1 x2a x2l x2c x8 x10 x11a x11l x11c x12a x12l x12c x13 m, I N x0a x0l x0c x1 x2a x2l x2c x8 x10 x11a x11l x11c x12a x12l x12c x13 m → l2B  (fun x0a x0l x0c x1 x2a x2l x2c x8 x10 x11a x11l x11c x12a x12l x12c x13 m => ∃ N1, N1 < N ∧ I N1 x0a x0l x0c x1 x2a x2l x2c x8 x10 x11a x11l x11c x12a x12l x12c x13 m) x0a x0l x0c x1 x2a x2l x2c x8 x10 x11a x11l x11c x12a x12l x12c x13 R m
noncomputable def l2A  (K2 : Option Addr → Nat → Nat → Int → Option Addr → Nat → Nat → Option Addr → Int → Option Addr → Nat → Nat → Option Addr → Nat → Nat → Int → Mem → Prop) (R : Ending → Mem → Prop) : ACode := (.seq (.code (sL (lP (bB (sR (sL (sR (sR (sR (sR (sR (sR (sR (sR (sR (sR (body))))))))))))))))) (.seq (.block 1 (.seq (.code (sL (bB (sL (sR (lP (bB (sR (sL (sR (sR (sR (sR (sR (sR (sR (sR (sR (sR (body)))))))))))))))))))) (.seq (.block 2 (.seq (.code (sL (bB (sL (sR (bB (sL (sR (lP (bB (sR (sL (sR (sR (sR (sR (sR (sR (sR (sR (sR (sR (body))))))))))))))))))))))) (.cond (.tmp 86) (.seq (.code (sL (cT (sR (bB (sL (sR (bB (sL (sR (lP (bB (sR (sL (sR (sR (sR (sR (sR (sR (sR (sR (sR (sR (body))))))))))))))))))))))))) (.seq (.seq (.code (sL (sL (sR (cT (sR (bB (sL (sR (bB (sL (sR (lP (bB (sR (sL (sR (sR (sR (sR (sR (sR (sR (sR (sR (sR (body))))))))))))))))))))))))))) (.cut (k3E fun x0a x0l x0c x1 x2a x2l x2c x8 x10 x11a x11l x11c x12a x12l x12c x13 x14 x15a x15l x15c x16 x101 m => k3 K2 x0a x0l x0c x1 x2a x2l x2c x8 x10 x11a x11l x11c x12a x12l x12c x13 x14 x15a x15l x15c x16 x101 R m) (sR (sL (sR (cT (sR (bB (sL (sR (bB (sL (sR (lP (bB (sR (sL (sR (sR (sR (sR (sR (sR (sR (sR (sR (sR (body)))))))))))))))))))))))))))) (.seq (.code (sL (sR (sR (cT (sR (bB (sL (sR (bB (sL (sR (lP (bB (sR (sL (sR (sR (sR (sR (sR (sR (sR (sR (sR (sR (body))))))))))))))))))))))))))) (.seq (.seq (.code (sL (sL (sR (sR (sR (cT (sR (bB (sL (sR (bB (sL (sR (lP (bB (sR (sL (sR (sR (sR (sR (sR (sR (sR (sR (sR (sR (body))))))))))))))))))))))))))))) (.cut (k4E fun x0a x0l x0c x1 x2a x2l x2c x8 x10 x11a x11l x11c x12a x12l x12c x13 x14 x15a x15l x15c x16 x129 m => k4 K2 x0a x0l x0c x1 x2a x2l x2c x8 x10 x11a x11l x11c x12a x12l x12c x13 x14 x15a x15l x15c x16 x129 R m) (sR (sL (sR (sR (sR (cT (sR (bB (sL (sR (bB (sL (sR (lP (bB (sR (sL (sR (sR (sR (sR (sR (sR (sR (sR (sR (sR (body)))))))))))))))))))))))))))))) (.cut (k5E fun x0a x0l x0c x1 x2a x2l x2c x8 x10 x11a x11l x11c x12a x12l x12c x13 x14 x15a x15l x15c x16 m => k5 K2 x0a x0l x0c x1 x2a x2l x2c x8 x10 x11a x11l x11c x12a x12l x12c x13 x14 x15a x15l x15c x16 R m) (sR (sR (sR (sR (cT (sR (bB (sL (sR (bB (sL (sR (lP (bB (sR (sL (sR (sR (sR (sR (sR (sR (sR (sR (sR (sR (body)))))))))))))))))))))))))))))))) (.code (cE (sR (bB (sL (sR (bB (sL (sR (lP (bB (sR (sL (sR (sR (sR (sR (sR (sR (sR (sR (sR (sR (body))))))))))))))))))))))))))) (.cut (k6E fun x0a x0l x0c x1 x2a x2l x2c x8 x10 x11a x11l x11c x12a x12l x12c x13 m => k6 K2 x0a x0l x0c x1 x2a x2l x2c x8 x10 x11a x11l x11c x12a x12l x12c x13 R m) (sR (sR (bB (sL (sR (lP (bB (sR (sL (sR (sR (sR (sR (sR (sR (sR (sR (sR (sR (body)))))))))))))))))))))))) (.code (sR (sR (lP (bB (sR (sL (sR (sR (sR (sR (sR (sR (sR (sR (sR (sR (body))))))))))))))))))))
def k1E (K : Option Addr → Nat → Nat → Int → Option Addr → Nat → Nat → Option Addr → Nat → Nat → Option Addr → Int → Bool → Mem → Prop) : Env → Mem → Prop := fun ρ m => UnS (ρ 0) fun x0a x0l x0c => UnI (ρ 1) .i64 fun x1 => UnS (ρ 2) fun x2a x2l x2c => UnS (ρ 7) fun x7a x7l x7c => UnP (ρ 8) fun x8 => UnI (ρ 9) .i64 fun x9 => UnB (ρ 43) fun x43 => K x0a x0l x0c x1 x2a x2l x2c x7a x7l x7c x8 x9 x43 m
def k1  (x0a : Option Addr) (x0l : Nat) (x0c : Nat) (x1 : Int) (x2a : Option Addr) (x2l : Nat) (x2c : Nat) (x7a : Option Addr) (x7l : Nat) (x7c : Nat) (x8 : Option Addr) (x9 : Int) (x43 : Bool) (R : Ending → Mem → Prop) (m : Mem) : Prop :=
  Br x43 (
    Br (x9 == 1) (
      R (.returned (.bool x8.isNone)) m) (
      R (.returned (.bool false)) m)) (
    Br (x9 != 0) (
      R (.returned (.bool false)) m) (
      Br x8.isNone (
        R (.returned (.bool false)) m) (
        HC P eyotlaw0_Kept.id #[.slice x7a x7l x7c, .slice x0a x0l x0c] m (Cont (fun v m1 =>
            UnB v fun x59 =>
            Br (!x59) (
              R (.returned (.bool false)) m1) (
              HC P eyotlaw0_Spoil.id #[.slice x7a x7l x7c] m1 (Cont (fun v m2 =>
                  UnTup v fun us0 =>
                  UnNil us0 (
                    NzI x1 (
                      l2  x0a x0l x0c x1 x2a x2l x2c x8 (IntKind.i64.wrap (Int.tdiv (IntKind.i64.wrap ((IntKind.i64.wrap (((x0l : Nat) : Int) + x1)) - 1)) x1)) none 0 0 none 0 0 0 R m2))) (panicR R)))) (panicR R)))))
noncomputable def k1A  (R : Ending → Mem → Prop) : ACode := (.code (sR (sL (sR (sR (sR (sR (sR (body)))))))))
def e0 (a0a : Option Addr) (a0l : Nat) (a0c : Nat) (a1 : Int) (a2a : Option Addr) (a2l : Nat) (a2c : Nat) (R : Ending → Mem → Prop) (m : Mem) : Prop :=
  HC P eyotlaw3_begun.id #[] m (Cont (fun v m1 =>
      UnB v fun x20 =>
      Br (!x20) (
        R (.returned (.bool false)) m1) (
        Br (decide (((a0l : Nat) : Int) > 400)) (
          R (.returned (.bool true)) m1) (
          Br (decide (((a2l : Nat) : Int) > 40)) (
            R (.returned (.bool true)) m1) (
            HC P eyotlaw0_Twin.id #[.slice a0a a0l a0c] m1 (Cont (fun v m2 =>
                UnS v fun x31a x31l x31c =>
                HC P page_New.id #[.slice x31a x31l x31c, .int .i64 a1] m2 (Cont (fun v m3 =>
                    UnTup v fun us0 =>
                    UnCons us0 fun w us1 =>
                    UnP w fun x35_0 =>
                    UnCons us1 fun w us2 =>
                    UnI w .i64 fun x35_1 =>
                    UnNil us2 (
                      Br (decide (a1 < 1)) (
                        k1  a0a a0l a0c a1 a2a a2l a2c x31a x31l x31c x35_0 x35_1 true R m3) (
                        k1  a0a a0l a0c a1 a2a a2l a2c x31a x31l x31c x35_0 x35_1 (decide (a1 > 512)) R m3))) (panicR R))) (panicR R)))))) (panicR R))
noncomputable def e0A (R : Ending → Mem → Prop) : ACode := (.seq (.code (sL (body))) (.seq (.code (sL (sR (body)))) (.seq (.code (sL (sR (sR (body))))) (.seq (.code (sL (sR (sR (sR (body)))))) (.seq (.code (sL (sR (sR (sR (sR (body))))))) (.seq (.seq (.code (sL (sL (sR (sR (sR (sR (sR (body))))))))) (.cut (k1E fun x0a x0l x0c x1 x2a x2l x2c x7a x7l x7c x8 x9 x43 m => k1  x0a x0l x0c x1 x2a x2l x2c x7a x7l x7c x8 x9 x43 R m) (sR (sL (sR (sR (sR (sR (sR (body)))))))))) (.seq (.code (sL (sR (sR (sR (sR (sR (sR (body))))))))) (.seq (.code (sL (sR (sR (sR (sR (sR (sR (sR (body)))))))))) (.seq (.code (sL (sR (sR (sR (sR (sR (sR (sR (sR (body))))))))))) (.seq (.code (sL (sR (sR (sR (sR (sR (sR (sR (sR (sR (body)))))))))))) (.seq (.seq (.code (sL (sL (sR (sR (sR (sR (sR (sR (sR (sR (sR (sR (body)))))))))))))) (.block 0 (.cut (l2E fun x0a x0l x0c x1 x2a x2l x2c x8 x10 x11a x11l x11c x12a x12l x12c x13 m => l2  x0a x0l x0c x1 x2a x2l x2c x8 x10 x11a x11l x11c x12a x12l x12c x13 R m) (.loop (lP (bB (sR (sL (sR (sR (sR (sR (sR (sR (sR (sR (sR (sR (body))))))))))))))))))) (.cut (k7E fun  m => k7   R m) (sR (sR (sR (sR (sR (sR (sR (sR (sR (sR (sR (body))))))))))))))))))))))))
theorem k6_eq (K2 : Option Addr → Nat → Nat → Int → Option Addr → Nat → Nat → Option Addr → Int → Option Addr → Nat → Nat → Option Addr → Nat → Nat → Int → Mem → Prop) (R : Ending → Mem → Prop) (x0a : Option Addr) (x0l : Nat) (x0c : Nat) (x1 : Int) (x2a : Option Addr) (x2l : Nat) (x2c : Nat) (x8 : Option Addr) (x10 : Int) (x11a : Option Addr) (x11l : Nat) (x11c : Nat) (x12a : Option Addr) (x12l : Nat) (x12c : Nat) (x13 : Int) (ρ : Env) (m : Mem) : k6 K2 x0a x0l x0c x1 x2a x2l x2c x8 x10 x11a x11l x11c x12a x12l x12c x13 R m = acpt P od (panicR R) (k6A K2 R) (blockQ 1 (thenQ (acpt P od (panicR R) (.code (sR (sR (lP (bB (sR (sL (sR (sR (sR (sR (sR (sR (sR (sR (sR (sR (body)))))))))))))))))) (thenQ (l2E K2) (blockQ 0 (thenQ (acpt P od (panicR R) (.cut (k7E fun  m => k7   R m) (sR (sR (sR (sR (sR (sR (sR (sR (sR (sR (sR (body))))))))))))) (bodyQ P fn R)) (bodyQ P fn R))))) (thenQ (l2E K2) (blockQ 0 (thenQ (acpt P od (panicR R) (.cut (k7E fun  m => k7   R m) (sR (sR (sR (sR (sR (sR (sR (sR (sR (sR (sR (body))))))))))))) (bodyQ P fn R)) (bodyQ P fn R)))))) (upd (upd (upd (upd (upd (upd (upd (upd ρ 13 (.int .i64 x13)) 12 (.slice x12a x12l x12c)) 11 (.slice x11a x11l x11c)) 10 (.int .i64 x10)) 8 (.pointer x8)) 2 (.slice x2a x2l x2c)) 1 (.int .i64 x1)) 0 (.slice x0a x0l x0c)) m := by kernel_rfl
theorem k6_er (K2 : Option Addr → Nat → Nat → Int → Option Addr → Nat → Nat → Option Addr → Int → Option Addr → Nat → Nat → Option Addr → Nat → Nat → Int → Mem → Prop) (R : Ending → Mem → Prop) : (k6A K2 R).erase = sR (sR (bB (sL (sR (lP (bB (sR (sL (sR (sR (sR (sR (sR (sR (sR (sR (sR (sR (body))))))))))))))))))) := by kernel_rfl
theorem k6_ok (K2 : Option Addr → Nat → Nat → Int → Option Addr → Nat → Nat → Option Addr → Int → Option Addr → Nat → Nat → Option Addr → Nat → Nat → Int → Mem → Prop) (R : Ending → Mem → Prop) (ρ : Env) (m : Mem) (h : (k6E fun x0a x0l x0c x1 x2a x2l x2c x8 x10 x11a x11l x11c x12a x12l x12c x13 m => k6 K2 x0a x0l x0c x1 x2a x2l x2c x8 x10 x11a x11l x11c x12a x12l x12c x13 R m) ρ m) : cpt P od (panicR R) (sR (sR (bB (sL (sR (lP (bB (sR (sL (sR (sR (sR (sR (sR (sR (sR (sR (sR (sR (body)))))))))))))))))))) (blockQ 1 (thenQ (acpt P od (panicR R) (.code (sR (sR (lP (bB (sR (sL (sR (sR (sR (sR (sR (sR (sR (sR (sR (sR (body)))))))))))))))))) (thenQ (l2E K2) (blockQ 0 (thenQ (acpt P od (panicR R) (.cut (k7E fun  m => k7   R m) (sR (sR (sR (sR (sR (sR (sR (sR (sR (sR (sR (body))))))))))))) (bodyQ P fn R)) (bodyQ P fn R))))) (thenQ (l2E K2) (blockQ 0 (thenQ (acpt P od (panicR R) (.cut (k7E fun  m => k7   R m) (sR (sR (sR (sR (sR (sR (sR (sR (sR (sR (sR (body))))))))))))) (bodyQ P fn R)) (bodyQ P fn R)))))) ρ m := by
  unfold k6E at h
  obtain ⟨x0a, x0l, x0c, e0, h⟩ := h.ex
  obtain ⟨x1, e1, h⟩ := h.ex
  obtain ⟨x2a, x2l, x2c, e2, h⟩ := h.ex
  obtain ⟨x8, e8, h⟩ := h.ex
  obtain ⟨x10, e10, h⟩ := h.ex
  obtain ⟨x11a, x11l, x11c, e11, h⟩ := h.ex
  obtain ⟨x12a, x12l, x12c, e12, h⟩ := h.ex
  obtain ⟨x13, e13, h⟩ := h.ex
  rw [← upd_self e0, ← upd_self e1, ← upd_self e2, ← upd_self e8, ← upd_self e10, ← upd_self e11, ← upd_self e12, ← upd_self e13]
  rw [← k6_er K2 R]
  refine acpt_sound (P := P) (k6A K2 R) _ _ _ True.intro ?_
  exact Eq.mp (k6_eq K2 R x0a x0l x0c x1 x2a x2l x2c x8 x10 x11a x11l x11c x12a x12l x12c x13 ρ m) h
theorem k5_eq (K2 : Option Addr → Nat → Nat → Int → Option Addr → Nat → Nat → Option Addr → Int → Option Addr → Nat → Nat → Option Addr → Nat → Nat → Int → Mem → Prop) (R : Ending → Mem → Prop) (x0a : Option Addr) (x0l : Nat) (x0c : Nat) (x1 : Int) (x2a : Option Addr) (x2l : Nat) (x2c : Nat) (x8 : Option Addr) (x10 : Int) (x11a : Option Addr) (x11l : Nat) (x11c : Nat) (x12a : Option Addr) (x12l : Nat) (x12c : Nat) (x13 : Int) (x14 : Int) (x15a : Option Addr) (x15l : Nat) (x15c : Nat) (x16 : Int) (ρ : Env) (m : Mem) : k5 K2 x0a x0l x0c x1 x2a x2l x2c x8 x10 x11a x11l x11c x12a x12l x12c x13 x14 x15a x15l x15c x16 R m = acpt P od (panicR R) (k5A K2 R) (blockQ 2 (thenQ (acpt P od (panicR R) (.cut (k6E fun x0a x0l x0c x1 x2a x2l x2c x8 x10 x11a x11l x11c x12a x12l x12c x13 m => k6 K2 x0a x0l x0c x1 x2a x2l x2c x8 x10 x11a x11l x11c x12a x12l x12c x13 R m) (sR (sR (bB (sL (sR (lP (bB (sR (sL (sR (sR (sR (sR (sR (sR (sR (sR (sR (sR (body))))))))))))))))))))) (blockQ 1 (thenQ (acpt P od (panicR R) (.code (sR (sR (lP (bB (sR (sL (sR (sR (sR (sR (sR (sR (sR (sR (sR (sR (body)))))))))))))))))) (thenQ (l2E K2) (blockQ 0 (thenQ (acpt P od (panicR R) (.cut (k7E fun  m => k7   R m) (sR (sR (sR (sR (sR (sR (sR (sR (sR (sR (sR (body))))))))))))) (bodyQ P fn R)) (bodyQ P fn R))))) (thenQ (l2E K2) (blockQ 0 (thenQ (acpt P od (panicR R) (.cut (k7E fun  m => k7   R m) (sR (sR (sR (sR (sR (sR (sR (sR (sR (sR (sR (body))))))))))))) (bodyQ P fn R)) (bodyQ P fn R))))))) (blockQ 1 (thenQ (acpt P od (panicR R) (.code (sR (sR (lP (bB (sR (sL (sR (sR (sR (sR (sR (sR (sR (sR (sR (sR (body)))))))))))))))))) (thenQ (l2E K2) (blockQ 0 (thenQ (acpt P od (panicR R) (.cut (k7E fun  m => k7   R m) (sR (sR (sR (sR (sR (sR (sR (sR (sR (sR (sR (body))))))))))))) (bodyQ P fn R)) (bodyQ P fn R))))) (thenQ (l2E K2) (blockQ 0 (thenQ (acpt P od (panicR R) (.cut (k7E fun  m => k7   R m) (sR (sR (sR (sR (sR (sR (sR (sR (sR (sR (sR (body))))))))))))) (bodyQ P fn R)) (bodyQ P fn R)))))))) (upd (upd (upd (upd (upd (upd (upd (upd (upd (upd (upd ρ 16 (.int .i64 x16)) 15 (.slice x15a x15l x15c)) 14 (.int .i64 x14)) 13 (.int .i64 x13)) 12 (.slice x12a x12l x12c)) 11 (.slice x11a x11l x11c)) 10 (.int .i64 x10)) 8 (.pointer x8)) 2 (.slice x2a x2l x2c)) 1 (.int .i64 x1)) 0 (.slice x0a x0l x0c)) m := by kernel_rfl
theorem k5_er (K2 : Option Addr → Nat → Nat → Int → Option Addr → Nat → Nat → Option Addr → Int → Option Addr → Nat → Nat → Option Addr → Nat → Nat → Int → Mem → Prop) (R : Ending → Mem → Prop) : (k5A K2 R).erase = sR (sR (sR (sR (cT (sR (bB (sL (sR (bB (sL (sR (lP (bB (sR (sL (sR (sR (sR (sR (sR (sR (sR (sR (sR (sR (body)))))))))))))))))))))))))) := by kernel_rfl
theorem k5_ok (K2 : Option Addr → Nat → Nat → Int → Option Addr → Nat → Nat → Option Addr → Int → Option Addr → Nat → Nat → Option Addr → Nat → Nat → Int → Mem → Prop) (R : Ending → Mem → Prop) (ρ : Env) (m : Mem) (h : (k5E fun x0a x0l x0c x1 x2a x2l x2c x8 x10 x11a x11l x11c x12a x12l x12c x13 x14 x15a x15l x15c x16 m => k5 K2 x0a x0l x0c x1 x2a x2l x2c x8 x10 x11a x11l x11c x12a x12l x12c x13 x14 x15a x15l x15c x16 R m) ρ m) : cpt P od (panicR R) (sR (sR (sR (sR (cT (sR (bB (sL (sR (bB (sL (sR (lP (bB (sR (sL (sR (sR (sR (sR (sR (sR (sR (sR (sR (sR (body))))))))))))))))))))))))))) (blockQ 2 (thenQ (acpt P od (panicR R) (.cut (k6E fun x0a x0l x0c x1 x2a x2l x2c x8 x10 x11a x11l x11c x12a x12l x12c x13 m => k6 K2 x0a x0l x0c x1 x2a x2l x2c x8 x10 x11a x11l x11c x12a x12l x12c x13 R m) (sR (sR (bB (sL (sR (lP (bB (sR (sL (sR (sR (sR (sR (sR (sR (sR (sR (sR (sR (body))))))))))))))))))))) (blockQ 1 (thenQ (acpt P od (panicR R) (.code (sR (sR (lP (bB (sR (sL (sR (sR (sR (sR (sR (sR (sR (sR (sR (sR (body)))))))))))))))))) (thenQ (l2E K2) (blockQ 0 (thenQ (acpt P od (panicR R) (.cut (k7E fun  m => k7   R m) (sR (sR (sR (sR (sR (sR (sR (sR (sR (sR (sR (body))))))))))))) (bodyQ P fn R)) (bodyQ P fn R))))) (thenQ (l2E K2) (blockQ 0 (thenQ (acpt P od (panicR R) (.cut (k7E fun  m => k7   R m) (sR (sR (sR (sR (sR (sR (sR (sR (sR (sR (sR (body))))))))))))) (bodyQ P fn R)) (bodyQ P fn R))))))) (blockQ 1 (thenQ (acpt P od (panicR R) (.code (sR (sR (lP (bB (sR (sL (sR (sR (sR (sR (sR (sR (sR (sR (sR (sR (body)))))))))))))))))) (thenQ (l2E K2) (blockQ 0 (thenQ (acpt P od (panicR R) (.cut (k7E fun  m => k7   R m) (sR (sR (sR (sR (sR (sR (sR (sR (sR (sR (sR (body))))))))))))) (bodyQ P fn R)) (bodyQ P fn R))))) (thenQ (l2E K2) (blockQ 0 (thenQ (acpt P od (panicR R) (.cut (k7E fun  m => k7   R m) (sR (sR (sR (sR (sR (sR (sR (sR (sR (sR (sR (body))))))))))))) (bodyQ P fn R)) (bodyQ P fn R)))))))) ρ m := by
  unfold k5E at h
  obtain ⟨x0a, x0l, x0c, e0, h⟩ := h.ex
  obtain ⟨x1, e1, h⟩ := h.ex
  obtain ⟨x2a, x2l, x2c, e2, h⟩ := h.ex
  obtain ⟨x8, e8, h⟩ := h.ex
  obtain ⟨x10, e10, h⟩ := h.ex
  obtain ⟨x11a, x11l, x11c, e11, h⟩ := h.ex
  obtain ⟨x12a, x12l, x12c, e12, h⟩ := h.ex
  obtain ⟨x13, e13, h⟩ := h.ex
  obtain ⟨x14, e14, h⟩ := h.ex
  obtain ⟨x15a, x15l, x15c, e15, h⟩ := h.ex
  obtain ⟨x16, e16, h⟩ := h.ex
  rw [← upd_self e0, ← upd_self e1, ← upd_self e2, ← upd_self e8, ← upd_self e10, ← upd_self e11, ← upd_self e12, ← upd_self e13, ← upd_self e14, ← upd_self e15, ← upd_self e16]
  rw [← k5_er K2 R]
  refine acpt_sound (P := P) (k5A K2 R) _ _ _ True.intro ?_
  exact Eq.mp (k5_eq K2 R x0a x0l x0c x1 x2a x2l x2c x8 x10 x11a x11l x11c x12a x12l x12c x13 x14 x15a x15l x15c x16 ρ m) h
theorem k4_eq (K2 : Option Addr → Nat → Nat → Int → Option Addr → Nat → Nat → Option Addr → Int → Option Addr → Nat → Nat → Option Addr → Nat → Nat → Int → Mem → Prop) (R : Ending → Mem → Prop) (x0a : Option Addr) (x0l : Nat) (x0c : Nat) (x1 : Int) (x2a : Option Addr) (x2l : Nat) (x2c : Nat) (x8 : Option Addr) (x10 : Int) (x11a : Option Addr) (x11l : Nat) (x11c : Nat) (x12a : Option Addr) (x12l : Nat) (x12c : Nat) (x13 : Int) (x14 : Int) (x15a : Option Addr) (x15l : Nat) (x15c : Nat) (x16 : Int) (x129 : Bool) (ρ : Env) (m : Mem) : k4 K2 x0a x0l x0c x1 x2a x2l x2c x8 x10 x11a x11l x11c x12a x12l x12c x13 x14 x15a x15l x15c x16 x129 R m = acpt P od (panicR R) (k4A K2 R) (thenQ (acpt P od (panicR R) (.cut (k5E fun x0a x0l x0c x1 x2a x2l x2c x8 x10 x11a x11l x11c x12a x12l x12c x13 x14 x15a x15l x15c x16 m => k5 K2 x0a x0l x0c x1 x2a x2l x2c x8 x10 x11a x11l x11c x12a x12l x12c x13 x14 x15a x15l x15c x16 R m) (sR (sR (sR (sR (cT (sR (bB (sL (sR (bB (sL (sR (lP (bB (sR (sL (sR (sR (sR (sR (sR (sR (sR (sR (sR (sR (body)))))))))))))))))))))))))))) (blockQ 2 (thenQ (acpt P od (panicR R) (.cut (k6E fun x0a x0l x0c x1 x2a x2l x2c x8 x10 x11a x11l x11c x12a x12l x12c x13 m => k6 K2 x0a x0l x0c x1 x2a x2l x2c x8 x10 x11a x11l x11c x12a x12l x12c x13 R m) (sR (sR (bB (sL (sR (lP (bB (sR (sL (sR (sR (sR (sR (sR (sR (sR (sR (sR (sR (body))))))))))))))))))))) (blockQ 1 (thenQ (acpt P od (panicR R) (.code (sR (sR (lP (bB (sR (sL (sR (sR (sR (sR (sR (sR (sR (sR (sR (sR (body)))))))))))))))))) (thenQ (l2E K2) (blockQ 0 (thenQ (acpt P od (panicR R) (.cut (k7E fun  m => k7   R m) (sR (sR (sR (sR (sR (sR (sR (sR (sR (sR (sR (body))))))))))))) (bodyQ P fn R)) (bodyQ P fn R))))) (thenQ (l2E K2) (blockQ 0 (thenQ (acpt P od (panicR R) (.cut (k7E fun  m => k7   R m) (sR (sR (sR (sR (sR (sR (sR (sR (sR (sR (sR (body))))))))))))) (bodyQ P fn R)) (bodyQ P fn R))))))) (blockQ 1 (thenQ (acpt P od (panicR R) (.code (sR (sR (lP (bB (sR (sL (sR (sR (sR (sR (sR (sR (sR (sR (sR (sR (body)))))))))))))))))) (thenQ (l2E K2) (blockQ 0 (thenQ (acpt P od (panicR R) (.cut (k7E fun  m => k7   R m) (sR (sR (sR (sR (sR (sR (sR (sR (sR (sR (sR (body))))))))))))) (bodyQ P fn R)) (bodyQ P fn R))))) (thenQ (l2E K2) (blockQ 0 (thenQ (acpt P od (panicR R) (.cut (k7E fun  m => k7   R m) (sR (sR (sR (sR (sR (sR (sR (sR (sR (sR (sR (body))))))))))))) (bodyQ P fn R)) (bodyQ P fn R))))))))) (blockQ 2 (thenQ (acpt P od (panicR R) (.cut (k6E fun x0a x0l x0c x1 x2a x2l x2c x8 x10 x11a x11l x11c x12a x12l x12c x13 m => k6 K2 x0a x0l x0c x1 x2a x2l x2c x8 x10 x11a x11l x11c x12a x12l x12c x13 R m) (sR (sR (bB (sL (sR (lP (bB (sR (sL (sR (sR (sR (sR (sR (sR (sR (sR (sR (sR (body))))))))))))))))))))) (blockQ 1 (thenQ (acpt P od (panicR R) (.code (sR (sR (lP (bB (sR (sL (sR (sR (sR (sR (sR (sR (sR (sR (sR (sR (body)))))))))))))))))) (thenQ (l2E K2) (blockQ 0 (thenQ (acpt P od (panicR R) (.cut (k7E fun  m => k7   R m) (sR (sR (sR (sR (sR (sR (sR (sR (sR (sR (sR (body))))))))))))) (bodyQ P fn R)) (bodyQ P fn R))))) (thenQ (l2E K2) (blockQ 0 (thenQ (acpt P od (panicR R) (.cut (k7E fun  m => k7   R m) (sR (sR (sR (sR (sR (sR (sR (sR (sR (sR (sR (body))))))))))))) (bodyQ P fn R)) (bodyQ P fn R))))))) (blockQ 1 (thenQ (acpt P od (panicR R) (.code (sR (sR (lP (bB (sR (sL (sR (sR (sR (sR (sR (sR (sR (sR (sR (sR (body)))))))))))))))))) (thenQ (l2E K2) (blockQ 0 (thenQ (acpt P od (panicR R) (.cut (k7E fun  m => k7   R m) (sR (sR (sR (sR (sR (sR (sR (sR (sR (sR (sR (body))))))))))))) (bodyQ P fn R)) (bodyQ P fn R))))) (thenQ (l2E K2) (blockQ 0 (thenQ (acpt P od (panicR R) (.cut (k7E fun  m => k7   R m) (sR (sR (sR (sR (sR (sR (sR (sR (sR (sR (sR (body))))))))))))) (bodyQ P fn R)) (bodyQ P fn R))))))))) (upd (upd (upd (upd (upd (upd (upd (upd (upd (upd (upd (upd ρ 129 (.bool x129)) 16 (.int .i64 x16)) 15 (.slice x15a x15l x15c)) 14 (.int .i64 x14)) 13 (.int .i64 x13)) 12 (.slice x12a x12l x12c)) 11 (.slice x11a x11l x11c)) 10 (.int .i64 x10)) 8 (.pointer x8)) 2 (.slice x2a x2l x2c)) 1 (.int .i64 x1)) 0 (.slice x0a x0l x0c)) m := by kernel_rfl
theorem k4_er (K2 : Option Addr → Nat → Nat → Int → Option Addr → Nat → Nat → Option Addr → Int → Option Addr → Nat → Nat → Option Addr → Nat → Nat → Int → Mem → Prop) (R : Ending → Mem → Prop) : (k4A K2 R).erase = sR (sL (sR (sR (sR (cT (sR (bB (sL (sR (bB (sL (sR (lP (bB (sR (sL (sR (sR (sR (sR (sR (sR (sR (sR (sR (sR (body))))))))))))))))))))))))))) := by kernel_rfl
theorem k4_ok (K2 : Option Addr → Nat → Nat → Int → Option Addr → Nat → Nat → Option Addr → Int → Option Addr → Nat → Nat → Option Addr → Nat → Nat → Int → Mem → Prop) (R : Ending → Mem → Prop) (ρ : Env) (m : Mem) (h : (k4E fun x0a x0l x0c x1 x2a x2l x2c x8 x10 x11a x11l x11c x12a x12l x12c x13 x14 x15a x15l x15c x16 x129 m => k4 K2 x0a x0l x0c x1 x2a x2l x2c x8 x10 x11a x11l x11c x12a x12l x12c x13 x14 x15a x15l x15c x16 x129 R m) ρ m) : cpt P od (panicR R) (sR (sL (sR (sR (sR (cT (sR (bB (sL (sR (bB (sL (sR (lP (bB (sR (sL (sR (sR (sR (sR (sR (sR (sR (sR (sR (sR (body)))))))))))))))))))))))))))) (thenQ (acpt P od (panicR R) (.cut (k5E fun x0a x0l x0c x1 x2a x2l x2c x8 x10 x11a x11l x11c x12a x12l x12c x13 x14 x15a x15l x15c x16 m => k5 K2 x0a x0l x0c x1 x2a x2l x2c x8 x10 x11a x11l x11c x12a x12l x12c x13 x14 x15a x15l x15c x16 R m) (sR (sR (sR (sR (cT (sR (bB (sL (sR (bB (sL (sR (lP (bB (sR (sL (sR (sR (sR (sR (sR (sR (sR (sR (sR (sR (body)))))))))))))))))))))))))))) (blockQ 2 (thenQ (acpt P od (panicR R) (.cut (k6E fun x0a x0l x0c x1 x2a x2l x2c x8 x10 x11a x11l x11c x12a x12l x12c x13 m => k6 K2 x0a x0l x0c x1 x2a x2l x2c x8 x10 x11a x11l x11c x12a x12l x12c x13 R m) (sR (sR (bB (sL (sR (lP (bB (sR (sL (sR (sR (sR (sR (sR (sR (sR (sR (sR (sR (body))))))))))))))))))))) (blockQ 1 (thenQ (acpt P od (panicR R) (.code (sR (sR (lP (bB (sR (sL (sR (sR (sR (sR (sR (sR (sR (sR (sR (sR (body)))))))))))))))))) (thenQ (l2E K2) (blockQ 0 (thenQ (acpt P od (panicR R) (.cut (k7E fun  m => k7   R m) (sR (sR (sR (sR (sR (sR (sR (sR (sR (sR (sR (body))))))))))))) (bodyQ P fn R)) (bodyQ P fn R))))) (thenQ (l2E K2) (blockQ 0 (thenQ (acpt P od (panicR R) (.cut (k7E fun  m => k7   R m) (sR (sR (sR (sR (sR (sR (sR (sR (sR (sR (sR (body))))))))))))) (bodyQ P fn R)) (bodyQ P fn R))))))) (blockQ 1 (thenQ (acpt P od (panicR R) (.code (sR (sR (lP (bB (sR (sL (sR (sR (sR (sR (sR (sR (sR (sR (sR (sR (body)))))))))))))))))) (thenQ (l2E K2) (blockQ 0 (thenQ (acpt P od (panicR R) (.cut (k7E fun  m => k7   R m) (sR (sR (sR (sR (sR (sR (sR (sR (sR (sR (sR (body))))))))))))) (bodyQ P fn R)) (bodyQ P fn R))))) (thenQ (l2E K2) (blockQ 0 (thenQ (acpt P od (panicR R) (.cut (k7E fun  m => k7   R m) (sR (sR (sR (sR (sR (sR (sR (sR (sR (sR (sR (body))))))))))))) (bodyQ P fn R)) (bodyQ P fn R))))))))) (blockQ 2 (thenQ (acpt P od (panicR R) (.cut (k6E fun x0a x0l x0c x1 x2a x2l x2c x8 x10 x11a x11l x11c x12a x12l x12c x13 m => k6 K2 x0a x0l x0c x1 x2a x2l x2c x8 x10 x11a x11l x11c x12a x12l x12c x13 R m) (sR (sR (bB (sL (sR (lP (bB (sR (sL (sR (sR (sR (sR (sR (sR (sR (sR (sR (sR (body))))))))))))))))))))) (blockQ 1 (thenQ (acpt P od (panicR R) (.code (sR (sR (lP (bB (sR (sL (sR (sR (sR (sR (sR (sR (sR (sR (sR (sR (body)))))))))))))))))) (thenQ (l2E K2) (blockQ 0 (thenQ (acpt P od (panicR R) (.cut (k7E fun  m => k7   R m) (sR (sR (sR (sR (sR (sR (sR (sR (sR (sR (sR (body))))))))))))) (bodyQ P fn R)) (bodyQ P fn R))))) (thenQ (l2E K2) (blockQ 0 (thenQ (acpt P od (panicR R) (.cut (k7E fun  m => k7   R m) (sR (sR (sR (sR (sR (sR (sR (sR (sR (sR (sR (body))))))))))))) (bodyQ P fn R)) (bodyQ P fn R))))))) (blockQ 1 (thenQ (acpt P od (panicR R) (.code (sR (sR (lP (bB (sR (sL (sR (sR (sR (sR (sR (sR (sR (sR (sR (sR (body)))))))))))))))))) (thenQ (l2E K2) (blockQ 0 (thenQ (acpt P od (panicR R) (.cut (k7E fun  m => k7   R m) (sR (sR (sR (sR (sR (sR (sR (sR (sR (sR (sR (body))))))))))))) (bodyQ P fn R)) (bodyQ P fn R))))) (thenQ (l2E K2) (blockQ 0 (thenQ (acpt P od (panicR R) (.cut (k7E fun  m => k7   R m) (sR (sR (sR (sR (sR (sR (sR (sR (sR (sR (sR (body))))))))))))) (bodyQ P fn R)) (bodyQ P fn R))))))))) ρ m := by
  unfold k4E at h
  obtain ⟨x0a, x0l, x0c, e0, h⟩ := h.ex
  obtain ⟨x1, e1, h⟩ := h.ex
  obtain ⟨x2a, x2l, x2c, e2, h⟩ := h.ex
  obtain ⟨x8, e8, h⟩ := h.ex
  obtain ⟨x10, e10, h⟩ := h.ex
  obtain ⟨x11a, x11l, x11c, e11, h⟩ := h.ex
  obtain ⟨x12a, x12l, x12c, e12, h⟩ := h.ex
  obtain ⟨x13, e13, h⟩ := h.ex
  obtain ⟨x14, e14, h⟩ := h.ex
  obtain ⟨x15a, x15l, x15c, e15, h⟩ := h.ex
  obtain ⟨x16, e16, h⟩ := h.ex
  obtain ⟨x129, e129, h⟩ := h.ex
  rw [← upd_self e0, ← upd_self e1, ← upd_self e2, ← upd_self e8, ← upd_self e10, ← upd_self e11, ← upd_self e12, ← upd_self e13, ← upd_self e14, ← upd_self e15, ← upd_self e16, ← upd_self e129]
  rw [← k4_er K2 R]
  refine acpt_sound (P := P) (k4A K2 R) _ _ _ True.intro ?_
  exact Eq.mp (k4_eq K2 R x0a x0l x0c x1 x2a x2l x2c x8 x10 x11a x11l x11c x12a x12l x12c x13 x14 x15a x15l x15c x16 x129 ρ m) h
theorem k3_eq (K2 : Option Addr → Nat → Nat → Int → Option Addr → Nat → Nat → Option Addr → Int → Option Addr → Nat → Nat → Option Addr → Nat → Nat → Int → Mem → Prop) (R : Ending → Mem → Prop) (x0a : Option Addr) (x0l : Nat) (x0c : Nat) (x1 : Int) (x2a : Option Addr) (x2l : Nat) (x2c : Nat) (x8 : Option Addr) (x10 : Int) (x11a : Option Addr) (x11l : Nat) (x11c : Nat) (x12a : Option Addr) (x12l : Nat) (x12c : Nat) (x13 : Int) (x14 : Int) (x15a : Option Addr) (x15l : Nat) (x15c : Nat) (x16 : Int) (x101 : Bool) (ρ : Env) (m : Mem) : k3 K2 x0a x0l x0c x1 x2a x2l x2c x8 x10 x11a x11l x11c x12a x12l x12c x13 x14 x15a x15l x15c x16 x101 R m = acpt P od (panicR R) (k3A K2 R) (thenQ (acpt P od (panicR R) (.seq (.code (sL (sR (sR (cT (sR (bB (sL (sR (bB (sL (sR (lP (bB (sR (sL (sR (sR (sR (sR (sR (sR (sR (sR (sR (sR (body))))))))))))))))))))))))))) (.seq (.seq (.code (sL (sL (sR (sR (sR (cT (sR (bB (sL (sR (bB (sL (sR (lP (bB (sR (sL (sR (sR (sR (sR (sR (sR (sR (sR (sR (sR (body))))))))))))))))))))))))))))) (.cut (k4E fun x0a x0l x0c x1 x2a x2l x2c x8 x10 x11a x11l x11c x12a x12l x12c x13 x14 x15a x15l x15c x16 x129 m => k4 K2 x0a x0l x0c x1 x2a x2l x2c x8 x10 x11a x11l x11c x12a x12l x12c x13 x14 x15a x15l x15c x16 x129 R m) (sR (sL (sR (sR (sR (cT (sR (bB (sL (sR (bB (sL (sR (lP (bB (sR (sL (sR (sR (sR (sR (sR (sR (sR (sR (sR (sR (body)))))))))))))))))))))))))))))) (.cut (k5E fun x0a x0l x0c x1 x2a x2l x2c x8 x10 x11a x11l x11c x12a x12l x12c x13 x14 x15a x15l x15c x16 m => k5 K2 x0a x0l x0c x1 x2a x2l x2c x8 x10 x11a x11l x11c x12a x12l x12c x13 x14 x15a x15l x15c x16 R m) (sR (sR (sR (sR (cT (sR (bB (sL (sR (bB (sL (sR (lP (bB (sR (sL (sR (sR (sR (sR (sR (sR (sR (sR (sR (sR (body)))))))))))))))))))))))))))))) (blockQ 2 (thenQ (acpt P od (panicR R) (.cut (k6E fun x0a x0l x0c x1 x2a x2l x2c x8 x10 x11a x11l x11c x12a x12l x12c x13 m => k6 K2 x0a x0l x0c x1 x2a x2l x2c x8 x10 x11a x11l x11c x12a x12l x12c x13 R m) (sR (sR (bB (sL (sR (lP (bB (sR (sL (sR (sR (sR (sR (sR (sR (sR (sR (sR (sR (body))))))))))))))))))))) (blockQ 1 (thenQ (acpt P od (panicR R) (.code (sR (sR (lP (bB (sR (sL (sR (sR (sR (sR (sR (sR (sR (sR (sR (sR (body)))))))))))))))))) (thenQ (l2E K2) (blockQ 0 (thenQ (acpt P od (panicR R) (.cut (k7E fun  m => k7   R m) (sR (sR (sR (sR (sR (sR (sR (sR (sR (sR (sR (body))))))))))))) (bodyQ P fn R)) (bodyQ P fn R))))) (thenQ (l2E K2) (blockQ 0 (thenQ (acpt P od (panicR R) (.cut (k7E fun  m => k7   R m) (sR (sR (sR (sR (sR (sR (sR (sR (sR (sR (sR (body))))))))))))) (bodyQ P fn R)) (bodyQ P fn R))))))) (blockQ 1 (thenQ (acpt P od (panicR R) (.code (sR (sR (lP (bB (sR (sL (sR (sR (sR (sR (sR (sR (sR (sR (sR (sR (body)))))))))))))))))) (thenQ (l2E K2) (blockQ 0 (thenQ (acpt P od (panicR R) (.cut (k7E fun  m => k7   R m) (sR (sR (sR (sR (sR (sR (sR (sR (sR (sR (sR (body))))))))))))) (bodyQ P fn R)) (bodyQ P fn R))))) (thenQ (l2E K2) (blockQ 0 (thenQ (acpt P od (panicR R) (.cut (k7E fun  m => k7   R m) (sR (sR (sR (sR (sR (sR (sR (sR (sR (sR (sR (body))))))))))))) (bodyQ P fn R)) (bodyQ P fn R))))))))) (blockQ 2 (thenQ (acpt P od (panicR R) (.cut (k6E fun x0a x0l x0c x1 x2a x2l x2c x8 x10 x11a x11l x11c x12a x12l x12c x13 m => k6 K2 x0a x0l x0c x1 x2a x2l x2c x8 x10 x11a x11l x11c x12a x12l x12c x13 R m) (sR (sR (bB (sL (sR (lP (bB (sR (sL (sR (sR (sR (sR (sR (sR (sR (sR (sR (sR (body))))))))))))))))))))) (blockQ 1 (thenQ (acpt P od (panicR R) (.code (sR (sR (lP (bB (sR (sL (sR (sR (sR (sR (sR (sR (sR (sR (sR (sR (body)))))))))))))))))) (thenQ (l2E K2) (blockQ 0 (thenQ (acpt P od (panicR R) (.cut (k7E fun  m => k7   R m) (sR (sR (sR (sR (sR (sR (sR (sR (sR (sR (sR (body))))))))))))) (bodyQ P fn R)) (bodyQ P fn R))))) (thenQ (l2E K2) (blockQ 0 (thenQ (acpt P od (panicR R) (.cut (k7E fun  m => k7   R m) (sR (sR (sR (sR (sR (sR (sR (sR (sR (sR (sR (body))))))))))))) (bodyQ P fn R)) (bodyQ P fn R))))))) (blockQ 1 (thenQ (acpt P od (panicR R) (.code (sR (sR (lP (bB (sR (sL (sR (sR (sR (sR (sR (sR (sR (sR (sR (sR (body)))))))))))))))))) (thenQ (l2E K2) (blockQ 0 (thenQ (acpt P od (panicR R) (.cut (k7E fun  m => k7   R m) (sR (sR (sR (sR (sR (sR (sR (sR (sR (sR (sR (body))))))))))))) (bodyQ P fn R)) (bodyQ P fn R))))) (thenQ (l2E K2) (blockQ 0 (thenQ (acpt P od (panicR R) (.cut (k7E fun  m => k7   R m) (sR (sR (sR (sR (sR (sR (sR (sR (sR (sR (sR (body))))))))))))) (bodyQ P fn R)) (bodyQ P fn R))))))))) (upd (upd (upd (upd (upd (upd (upd (upd (upd (upd (upd (upd ρ 101 (.bool x101)) 16 (.int .i64 x16)) 15 (.slice x15a x15l x15c)) 14 (.int .i64 x14)) 13 (.int .i64 x13)) 12 (.slice x12a x12l x12c)) 11 (.slice x11a x11l x11c)) 10 (.int .i64 x10)) 8 (.pointer x8)) 2 (.slice x2a x2l x2c)) 1 (.int .i64 x1)) 0 (.slice x0a x0l x0c)) m := by kernel_rfl
theorem k3_er (K2 : Option Addr → Nat → Nat → Int → Option Addr → Nat → Nat → Option Addr → Int → Option Addr → Nat → Nat → Option Addr → Nat → Nat → Int → Mem → Prop) (R : Ending → Mem → Prop) : (k3A K2 R).erase = sR (sL (sR (cT (sR (bB (sL (sR (bB (sL (sR (lP (bB (sR (sL (sR (sR (sR (sR (sR (sR (sR (sR (sR (sR (body))))))))))))))))))))))))) := by kernel_rfl
theorem k3_ok (K2 : Option Addr → Nat → Nat → Int → Option Addr → Nat → Nat → Option Addr → Int → Option Addr → Nat → Nat → Option Addr → Nat → Nat → Int → Mem → Prop) (R : Ending → Mem → Prop) (ρ : Env) (m : Mem) (h : (k3E fun x0a x0l x0c x1 x2a x2l x2c x8 x10 x11a x11l x11c x12a x12l x12c x13 x14 x15a x15l x15c x16 x101 m => k3 K2 x0a x0l x0c x1 x2a x2l x2c x8 x10 x11a x11l x11c x12a x12l x12c x13 x14 x15a x15l x15c x16 x101 R m) ρ m) : cpt P od (panicR R) (sR (sL (sR (cT (sR (bB (sL (sR (bB (sL (sR (lP (bB (sR (sL (sR (sR (sR (sR (sR (sR (sR (sR (sR (sR (body)))))))))))))))))))))))))) (thenQ (acpt P od (panicR R) (.seq (.code (sL (sR (sR (cT (sR (bB (sL (sR (bB (sL (sR (lP (bB (sR (sL (sR (sR (sR (sR (sR (sR (sR (sR (sR (sR (body))))))))))))))))))))))))))) (.seq (.seq (.code (sL (sL (sR (sR (sR (cT (sR (bB (sL (sR (bB (sL (sR (lP (bB (sR (sL (sR (sR (sR (sR (sR (sR (sR (sR (sR (sR (body))))))))))))))))))))))))))))) (.cut (k4E fun x0a x0l x0c x1 x2a x2l x2c x8 x10 x11a x11l x11c x12a x12l x12c x13 x14 x15a x15l x15c x16 x129 m => k4 K2 x0a x0l x0c x1 x2a x2l x2c x8 x10 x11a x11l x11c x12a x12l x12c x13 x14 x15a x15l x15c x16 x129 R m) (sR (sL (sR (sR (sR (cT (sR (bB (sL (sR (bB (sL (sR (lP (bB (sR (sL (sR (sR (sR (sR (sR (sR (sR (sR (sR (sR (body)))))))))))))))))))))))))))))) (.cut (k5E fun x0a x0l x0c x1 x2a x2l x2c x8 x10 x11a x11l x11c x12a x12l x12c x13 x14 x15a x15l x15c x16 m => k5 K2 x0a x0l x0c x1 x2a x2l x2c x8 x10 x11a x11l x11c x12a x12l x12c x13 x14 x15a x15l x15c x16 R m) (sR (sR (sR (sR (cT (sR (bB (sL (sR (bB (sL (sR (lP (bB (sR (sL (sR (sR (sR (sR (sR (sR (sR (sR (sR (sR (body)))))))))))))))))))))))))))))) (blockQ 2 (thenQ (acpt P od (panicR R) (.cut (k6E fun x0a x0l x0c x1 x2a x2l x2c x8 x10 x11a x11l x11c x12a x12l x12c x13 m => k6 K2 x0a x0l x0c x1 x2a x2l x2c x8 x10 x11a x11l x11c x12a x12l x12c x13 R m) (sR (sR (bB (sL (sR (lP (bB (sR (sL (sR (sR (sR (sR (sR (sR (sR (sR (sR (sR (body))))))))))))))))))))) (blockQ 1 (thenQ (acpt P od (panicR R) (.code (sR (sR (lP (bB (sR (sL (sR (sR (sR (sR (sR (sR (sR (sR (sR (sR (body)))))))))))))))))) (thenQ (l2E K2) (blockQ 0 (thenQ (acpt P od (panicR R) (.cut (k7E fun  m => k7   R m) (sR (sR (sR (sR (sR (sR (sR (sR (sR (sR (sR (body))))))))))))) (bodyQ P fn R)) (bodyQ P fn R))))) (thenQ (l2E K2) (blockQ 0 (thenQ (acpt P od (panicR R) (.cut (k7E fun  m => k7   R m) (sR (sR (sR (sR (sR (sR (sR (sR (sR (sR (sR (body))))))))))))) (bodyQ P fn R)) (bodyQ P fn R))))))) (blockQ 1 (thenQ (acpt P od (panicR R) (.code (sR (sR (lP (bB (sR (sL (sR (sR (sR (sR (sR (sR (sR (sR (sR (sR (body)))))))))))))))))) (thenQ (l2E K2) (blockQ 0 (thenQ (acpt P od (panicR R) (.cut (k7E fun  m => k7   R m) (sR (sR (sR (sR (sR (sR (sR (sR (sR (sR (sR (body))))))))))))) (bodyQ P fn R)) (bodyQ P fn R))))) (thenQ (l2E K2) (blockQ 0 (thenQ (acpt P od (panicR R) (.cut (k7E fun  m => k7   R m) (sR (sR (sR (sR (sR (sR (sR (sR (sR (sR (sR (body))))))))))))) (bodyQ P fn R)) (bodyQ P fn R))))))))) (blockQ 2 (thenQ (acpt P od (panicR R) (.cut (k6E fun x0a x0l x0c x1 x2a x2l x2c x8 x10 x11a x11l x11c x12a x12l x12c x13 m => k6 K2 x0a x0l x0c x1 x2a x2l x2c x8 x10 x11a x11l x11c x12a x12l x12c x13 R m) (sR (sR (bB (sL (sR (lP (bB (sR (sL (sR (sR (sR (sR (sR (sR (sR (sR (sR (sR (body))))))))))))))))))))) (blockQ 1 (thenQ (acpt P od (panicR R) (.code (sR (sR (lP (bB (sR (sL (sR (sR (sR (sR (sR (sR (sR (sR (sR (sR (body)))))))))))))))))) (thenQ (l2E K2) (blockQ 0 (thenQ (acpt P od (panicR R) (.cut (k7E fun  m => k7   R m) (sR (sR (sR (sR (sR (sR (sR (sR (sR (sR (sR (body))))))))))))) (bodyQ P fn R)) (bodyQ P fn R))))) (thenQ (l2E K2) (blockQ 0 (thenQ (acpt P od (panicR R) (.cut (k7E fun  m => k7   R m) (sR (sR (sR (sR (sR (sR (sR (sR (sR (sR (sR (body))))))))))))) (bodyQ P fn R)) (bodyQ P fn R))))))) (blockQ 1 (thenQ (acpt P od (panicR R) (.code (sR (sR (lP (bB (sR (sL (sR (sR (sR (sR (sR (sR (sR (sR (sR (sR (body)))))))))))))))))) (thenQ (l2E K2) (blockQ 0 (thenQ (acpt P od (panicR R) (.cut (k7E fun  m => k7   R m) (sR (sR (sR (sR (sR (sR (sR (sR (sR (sR (sR (body))))))))))))) (bodyQ P fn R)) (bodyQ P fn R))))) (thenQ (l2E K2) (blockQ 0 (thenQ (acpt P od (panicR R) (.cut (k7E fun  m => k7   R m) (sR (sR (sR (sR (sR (sR (sR (sR (sR (sR (sR (body))))))))))))) (bodyQ P fn R)) (bodyQ P fn R))))))))) ρ m := by
  unfold k3E at h
  obtain ⟨x0a, x0l, x0c, e0, h⟩ := h.ex
  obtain ⟨x1, e1, h⟩ := h.ex
  obtain ⟨x2a, x2l, x2c, e2, h⟩ := h.ex
  obtain ⟨x8, e8, h⟩ := h.ex
  obtain ⟨x10, e10, h⟩ := h.ex
  obtain ⟨x11a, x11l, x11c, e11, h⟩ := h.ex
  obtain ⟨x12a, x12l, x12c, e12, h⟩ := h.ex
  obtain ⟨x13, e13, h⟩ := h.ex
  obtain ⟨x14, e14, h⟩ := h.ex
  obtain ⟨x15a, x15l, x15c, e15, h⟩ := h.ex
  obtain ⟨x16, e16, h⟩ := h.ex
  obtain ⟨x101, e101, h⟩ := h.ex
  rw [← upd_self e0, ← upd_self e1, ← upd_self e2, ← upd_self e8, ← upd_self e10, ← upd_self e11, ← upd_self e12, ← upd_self e13, ← upd_self e14, ← upd_self e15, ← upd_self e16, ← upd_self e101]
  rw [← k3_er K2 R]
  refine acpt_sound (P := P) (k3A K2 R) _ _ _ True.intro ?_
  exact Eq.mp (k3_eq K2 R x0a x0l x0c x1 x2a x2l x2c x8 x10 x11a x11l x11c x12a x12l x12c x13 x14 x15a x15l x15c x16 x101 ρ m) h
theorem k7_eq  (R : Ending → Mem → Prop)  (ρ : Env) (m : Mem) : k7   R m = acpt P od (panicR R) (k7A  R) (bodyQ P fn R) ρ m := by kernel_rfl
theorem k7_er  (R : Ending → Mem → Prop) : (k7A  R).erase = sR (sR (sR (sR (sR (sR (sR (sR (sR (sR (sR (body))))))))))) := by kernel_rfl
theorem k7_ok  (R : Ending → Mem → Prop) (ρ : Env) (m : Mem) (h : (k7E fun  m => k7   R m) ρ m) : cpt P od (panicR R) (sR (sR (sR (sR (sR (sR (sR (sR (sR (sR (sR (body)))))))))))) (bodyQ P fn R) ρ m := by
  unfold k7E at h
  rw [← k7_er  R]
  refine acpt_sound (P := P) (k7A  R) _ _ _ True.intro ?_
  exact Eq.mp (k7_eq  R  ρ m) h
theorem l2_eq  (K2 : Option Addr → Nat → Nat → Int → Option Addr → Nat → Nat → Option Addr → Int → Option Addr → Nat → Nat → Option Addr → Nat → Nat → Int → Mem → Prop) (R : Ending → Mem → Prop) (x0a : Option Addr) (x0l : Nat) (x0c : Nat) (x1 : Int) (x2a : Option Addr) (x2l : Nat) (x2c : Nat) (x8 : Option Addr) (x10 : Int) (x11a : Option Addr) (x11l : Nat) (x11c : Nat) (x12a : Option Addr) (x12l : Nat) (x12c : Nat) (x13 : Int) (ρ : Env) (m : Mem) : l2B  K2 x0a x0l x0c x1 x2a x2l x2c x8 x10 x11a x11l x11c x12a x12l x12c x13 R m = acpt P od (panicR R) (l2A  K2 R) (thenQ (l2E K2) (blockQ 0 (thenQ (acpt P od (panicR R) (.cut (k7E fun  m => k7   R m) (sR (sR (sR (sR (sR (sR (sR (sR (sR (sR (sR (body))))))))))))) (bodyQ P fn R)) (bodyQ P fn R)))) (upd (upd (upd (upd (upd (upd (upd (upd ρ 13 (.int .i64 x13)) 12 (.slice x12a x12l x12c)) 11 (.slice x11a x11l x11c)) 10 (.int .i64 x10)) 8 (.pointer x8)) 2 (.slice x2a x2l x2c)) 1 (.int .i64 x1)) 0 (.slice x0a x0l x0c)) m := by kernel_rfl
theorem l2_er  (K2 : Option Addr → Nat → Nat → Int → Option Addr → Nat → Nat → Option Addr → Int → Option Addr → Nat → Nat → Option Addr → Nat → Nat → Int → Mem → Prop) (R : Ending → Mem → Prop) : (l2A  K2 R).erase = lP (bB (sR (sL (sR (sR (sR (sR (sR (sR (sR (sR (sR (sR (body)))))))))))))) := by kernel_rfl
theorem l2_ok  (R : Ending → Mem → Prop) (ρ : Env) (m : Mem) (h : (l2E fun x0a x0l x0c x1 x2a x2l x2c x8 x10 x11a x11l x11c x12a x12l x12c x13 m => l2  x0a x0l x0c x1 x2a x2l x2c x8 x10 x11a x11l x11c x12a x12l x12c x13 R m) ρ m) : cpt P od (panicR R) (.loop (lP (bB (sR (sL (sR (sR (sR (sR (sR (sR (sR (sR (sR (sR (body)))))))))))))))) (blockQ 0 (thenQ (acpt P od (panicR R) (.cut (k7E fun  m => k7   R m) (sR (sR (sR (sR (sR (sR (sR (sR (sR (sR (sR (body))))))))))))) (bodyQ P fn R)) (bodyQ P fn R))) ρ m := by
  unfold l2E at h
  obtain ⟨x0a, x0l, x0c, e0, h⟩ := h.ex
  obtain ⟨x1, e1, h⟩ := h.ex
  obtain ⟨x2a, x2l, x2c, e2, h⟩ := h.ex
  obtain ⟨x8, e8, h⟩ := h.ex
  obtain ⟨x10, e10, h⟩ := h.ex
  obtain ⟨x11a, x11l, x11c, e11, h⟩ := h.ex
  obtain ⟨x12a, x12l, x12c, e12, h⟩ := h.ex
  obtain ⟨x13, e13, h⟩ := h.ex
  obtain ⟨I, N, h0, hs⟩ := h
  refine ⟨fun N => l2E (I N), N, (by show l2E (I N) ρ m; unfold l2E; rw [e0, e1, e2, e8, e10, e11, e12, e13]; exact h0), ?_⟩
  clear h0 e0 e1 e2 e8 e10 e11 e12 e13
  intro N ρ m h
  unfold l2E at h
  obtain ⟨x0a, x0l, x0c, e0, h⟩ := h.ex
  obtain ⟨x1, e1, h⟩ := h.ex
  obtain ⟨x2a, x2l, x2c, e2, h⟩ := h.ex
  obtain ⟨x8, e8, h⟩ := h.ex
  obtain ⟨x10, e10, h⟩ := h.ex
  obtain ⟨x11a, x11l, x11c, e11, h⟩ := h.ex
  obtain ⟨x12a, x12l, x12c, e12, h⟩ := h.ex
  obtain ⟨x13, e13, h⟩ := h.ex
  refine cpt_mono (P := P) (lP (bB (sR (sL (sR (sR (sR (sR (sR (sR (sR (sR (sR (sR (body))))))))))))))) (Q := thenQ (l2E fun x0a x0l x0c x1 x2a x2l x2c x8 x10 x11a x11l x11c x12a x12l x12c x13 m => ∃ N1, N1 < N ∧ I N1 x0a x0l x0c x1 x2a x2l x2c x8 x10 x11a x11l x11c x12a x12l x12c x13 m) (blockQ 0 (thenQ (acpt P od (panicR R) (.cut (k7E fun  m => k7   R m) (sR (sR (sR (sR (sR (sR (sR (sR (sR (sR (sR (body))))))))))))) (bodyQ P fn R)) (bodyQ P fn R)))) (fun e ρ m h => ?_) ρ m ?_
  · cases e with
    | normal =>
      have h : l2E (fun x0a x0l x0c x1 x2a x2l x2c x8 x10 x11a x11l x11c x12a x12l x12c x13 m => ∃ N1, N1 < N ∧ I N1 x0a x0l x0c x1 x2a x2l x2c x8 x10 x11a x11l x11c x12a x12l x12c x13 m) ρ m := h
      unfold l2E at h
      obtain ⟨x0a, x0l, x0c, e0, h⟩ := h.ex
      obtain ⟨x1, e1, h⟩ := h.ex
      obtain ⟨x2a, x2l, x2c, e2, h⟩ := h.ex
      obtain ⟨x8, e8, h⟩ := h.ex
      obtain ⟨x10, e10, h⟩ := h.ex
      obtain ⟨x11a, x11l, x11c, e11, h⟩ := h.ex
      obtain ⟨x12a, x12l, x12c, e12, h⟩ := h.ex
      obtain ⟨x13, e13, h⟩ := h.ex
      obtain ⟨N1, hlt, h⟩ := h
      exact ⟨N1, hlt, (by show l2E (I N1) ρ m; unfold l2E; rw [e0, e1, e2, e8, e10, e11, e12, e13]; exact h)⟩
    | _ => exact h
  have hh := hs N x0a x0l x0c x1 x2a x2l x2c x8 x10 x11a x11l x11c x12a x12l x12c x13 m h
  generalize (fun x0a x0l x0c x1 x2a x2l x2c x8 x10 x11a x11l x11c x12a x12l x12c x13 m => ∃ N1, N1 < N ∧ I N1 x0a x0l x0c x1 x2a x2l x2c x8 x10 x11a x11l x11c x12a x12l x12c x13 m : Option Addr → Nat → Nat → Int → Option Addr → Nat → Nat → Option Addr → Int → Option Addr → Nat → Nat → Option Addr → Nat → Nat → Int → Mem → Prop) = K2 at hh ⊢
  rw [← upd_self e0, ← upd_self e1, ← upd_self e2, ← upd_self e8, ← upd_self e10, ← upd_self e11, ← upd_self e12, ← upd_self e13]
  rw [← l2_er  K2 R]
  refine acpt_sound (P := P) (l2A  K2 R) _ _ _ ⟨⟨True.intro, ⟨⟨(fun ρ m h => k6_ok K2 R ρ m h), ⟨⟨⟨⟨⟨⟨(fun ρ m h => k5_ok K2 R ρ m h), ⟨(fun ρ m h => k4_ok K2 R ρ m h), True.intro⟩⟩, True.intro⟩, ⟨(fun ρ m h => k3_ok K2 R ρ m h), True.intro⟩⟩, True.intro⟩, True.intro⟩, True.intro⟩⟩, True.intro⟩⟩, True.intro⟩ ?_
  exact Eq.mp (l2_eq  K2 R x0a x0l x0c x1 x2a x2l x2c x8 x10 x11a x11l x11c x12a x12l x12c x13 ρ m) hh
theorem k1_eq  (R : Ending → Mem → Prop) (x0a : Option Addr) (x0l : Nat) (x0c : Nat) (x1 : Int) (x2a : Option Addr) (x2l : Nat) (x2c : Nat) (x7a : Option Addr) (x7l : Nat) (x7c : Nat) (x8 : Option Addr) (x9 : Int) (x43 : Bool) (ρ : Env) (m : Mem) : k1  x0a x0l x0c x1 x2a x2l x2c x7a x7l x7c x8 x9 x43 R m = acpt P od (panicR R) (k1A  R) (thenQ (acpt P od (panicR R) (.seq (.code (sL (sR (sR (sR (sR (sR (sR (body))))))))) (.seq (.code (sL (sR (sR (sR (sR (sR (sR (sR (body)))))))))) (.seq (.code (sL (sR (sR (sR (sR (sR (sR (sR (sR (body))))))))))) (.seq (.code (sL (sR (sR (sR (sR (sR (sR (sR (sR (sR (body)))))))))))) (.seq (.seq (.code (sL (sL (sR (sR (sR (sR (sR (sR (sR (sR (sR (sR (body)))))))))))))) (.block 0 (.cut (l2E fun x0a x0l x0c x1 x2a x2l x2c x8 x10 x11a x11l x11c x12a x12l x12c x13 m => l2  x0a x0l x0c x1 x2a x2l x2c x8 x10 x11a x11l x11c x12a x12l x12c x13 R m) (.loop (lP (bB (sR (sL (sR (sR (sR (sR (sR (sR (sR (sR (sR (sR (body))))))))))))))))))) (.cut (k7E fun  m => k7   R m) (sR (sR (sR (sR (sR (sR (sR (sR (sR (sR (sR (body)))))))))))))))))) (bodyQ P fn R)) (bodyQ P fn R)) (upd (upd (upd (upd (upd (upd (upd ρ 43 (.bool x43)) 9 (.int .i64 x9)) 8 (.pointer x8)) 7 (.slice x7a x7l x7c)) 2 (.slice x2a x2l x2c)) 1 (.int .i64 x1)) 0 (.slice x0a x0l x0c)) m := by kernel_rfl
theorem k1_er  (R : Ending → Mem → Prop) : (k1A  R).erase = sR (sL (sR (sR (sR (sR (sR (body))))))) := by kernel_rfl
theorem k1_ok  (R : Ending → Mem → Prop) (ρ : Env) (m : Mem) (h : (k1E fun x0a x0l x0c x1 x2a x2l x2c x7a x7l x7c x8 x9 x43 m => k1  x0a x0l x0c x1 x2a x2l x2c x7a x7l x7c x8 x9 x43 R m) ρ m) : cpt P od (panicR R) (sR (sL (sR (sR (sR (sR (sR (body)))))))) (thenQ (acpt P od (panicR R) (.seq (.code (sL (sR (sR (sR (sR (sR (sR (body))))))))) (.seq (.code (sL (sR (sR (sR (sR (sR (sR (sR (body)))))))))) (.seq (.code (sL (sR (sR (sR (sR (sR (sR (sR (sR (body))))))))))) (.seq (.code (sL (sR (sR (sR (sR (sR (sR (sR (sR (sR (body)))))))))))) (.seq (.seq (.code (sL (sL (sR (sR (sR (sR (sR (sR (sR (sR (sR (sR (body)))))))))))))) (.block 0 (.cut (l2E fun x0a x0l x0c x1 x2a x2l x2c x8 x10 x11a x11l x11c x12a x12l x12c x13 m => l2  x0a x0l x0c x1 x2a x2l x2c x8 x10 x11a x11l x11c x12a x12l x12c x13 R m) (.loop (lP (bB (sR (sL (sR (sR (sR (sR (sR (sR (sR (sR (sR (sR (body))))))))))))))))))) (.cut (k7E fun  m => k7   R m) (sR (sR (sR (sR (sR (sR (sR (sR (sR (sR (sR (body)))))))))))))))))) (bodyQ P fn R)) (bodyQ P fn R)) ρ m := by
  unfold k1E at h
  obtain ⟨x0a, x0l, x0c, e0, h⟩ := h.ex
  obtain ⟨x1, e1, h⟩ := h.ex
  obtain ⟨x2a, x2l, x2c, e2, h⟩ := h.ex
  obtain ⟨x7a, x7l, x7c, e7, h⟩ := h.ex
  obtain ⟨x8, e8, h⟩ := h.ex
  obtain ⟨x9, e9, h⟩ := h.ex
  obtain ⟨x43, e43, h⟩ := h.ex
  rw [← upd_self e0, ← upd_self e1, ← upd_self e2, ← upd_self e7, ← upd_self e8, ← upd_self e9, ← upd_self e43]
  rw [← k1_er  R]
  refine acpt_sound (P := P) (k1A  R) _ _ _ True.intro ?_
  exact Eq.mp (k1_eq  R x0a x0l x0c x1 x2a x2l x2c x7a x7l x7c x8 x9 x43 ρ m) h
theorem e0_eq (a0a : Option Addr) (a0l : Nat) (a0c : Nat) (a1 : Int) (a2a : Option Addr) (a2l : Nat) (a2c : Nat) (R : Ending → Mem → Prop) (m : Mem) : e0 a0a a0l a0c a1 a2a a2l a2c R m = acpt P od (panicR R) (e0A R) (bodyQ P fn R) (argE (#[.slice a0a a0l a0c, .int .i64 a1, .slice a2a a2l a2c] : Array Value).toList) m := by kernel_rfl
theorem ok (a0a : Option Addr) (a0l : Nat) (a0c : Nat) (a1 : Int) (a2a : Option Addr) (a2l : Nat) (a2c : Nat) (R : Ending → Mem → Prop) (m : Mem) (h : e0 a0a a0l a0c a1 a2a a2l a2c R m) : HC P id #[.slice a0a a0l a0c, .int .i64 a1, .slice a2a a2l a2c] m R := by
  refine HC_of (fn := fn) (c := body) (od := od) (tb := tb) Go.Proofs.Try.func6 (by kernel_rfl) (by kernel_rfl) follows (by kernel_rfl) (of_decide_eq_true (by kernel_rfl)) ?_
  have he : (e0A R).erase = body := by kernel_rfl
  rw [← he]
  refine acpt_sound (P := P) (e0A R) _ _ _ ⟨⟨⟨⟨⟨⟨⟨⟨⟨⟨⟨(fun ρ m h => k7_ok  R ρ m h), ⟨(fun ρ m h => l2_ok  R ρ m h), True.intro⟩⟩, True.intro⟩, True.intro⟩, True.intro⟩, True.intro⟩, ⟨(fun ρ m h => k1_ok  R ρ m h), True.intro⟩⟩, True.intro⟩, True.intro⟩, True.intro⟩, True.intro⟩, True.intro⟩ ?_
  exact Eq.mp (e0_eq a0a a0l a0c a1 a2a a2l a2c R m) h
end eyotlaw3_PageAll

/-! ### eyot/eyotlaw3.begun -/
namespace eyotlaw3_begun
noncomputable def fn : Func := Go.Proofs.Try.f7
noncomputable def body : Code := fn.body.getD .skip
def od : Nat → List (Nat × Bool) := fun _ => []
def tb : Nat → List Row := fun _ => []
def e0  (R : Ending → Mem → Prop) (m : Mem) : Prop :=
  NewC m #[.int .u8 1, .int .u8 2, .int .u8 3] T_uint8 fun b6 m1 =>
  HC P page_New.id #[.slice (some ⟨b6, 0, none⟩) 3 3, .int .i64 2] m1 (Cont (fun v m2 =>
      UnTup v fun us0 =>
      UnCons us0 fun w us1 =>
      UnP w fun x7_0 =>
      UnCons us1 fun w us2 =>
      UnI w .i64 fun x7_1 =>
      UnNil us2 (
        Br (x7_1 != 0) (
          R (.returned (.bool false)) m2) (
          Br x7_0.isNone (
            R (.returned (.bool false)) m2) (
            HC P page_Pages_Read.id #[.pointer x7_0, .int .i64 1] m2 (Cont (fun v m3 =>
                UnTup v fun us0 =>
                UnCons us0 fun w us1 =>
                UnS w fun x18_0a x18_0l x18_0c =>
                UnCons us1 fun w us2 =>
                UnI w .i64 fun x18_1 =>
                UnNil us2 (
                  Br (x18_1 == 0) (
                    Br (((x18_0l : Nat) : Int) == 1) (
                      IxS x18_0a x18_0l 0 1 fun x30b x30o =>
                      LdV m3 x30b x30o fun v =>
                      UnI v .u8 fun x31 =>
                      Br (x31 == 3) (
                        HC P page_Pages_Count.id #[.pointer x7_0] m3 (Cont (fun v m4 =>
                        UnI v .i64 fun x36 =>
                        Br (x36 == 2) (
                        HC P page_Pages_Len.id #[.pointer x7_0] m4 (Cont (fun v m5 =>
                        UnI v .i64 fun x41 =>
                        Br (x41 == 3) (
                        HC P page_Pages_Reads.id #[.pointer x7_0] m5 (Cont (fun v m6 =>
                        UnS v fun x46a x46l x46c =>
                        R (.returned (.bool (((x46l : Nat) : Int) == 1))) m6) (panicR R))) (
                        R (.returned (.bool false)) m5)) (panicR R))) (
                        R (.returned (.bool false)) m4)) (panicR R))) (
                        R (.returned (.bool false)) m3)) (
                      R (.returned (.bool false)) m3)) (
                    R (.returned (.bool false)) m3))) (panicR R)))))) (panicR R))
noncomputable def e0A (R : Ending → Mem → Prop) : ACode := (.code (body))
theorem e0_eq  (R : Ending → Mem → Prop) (m : Mem) : e0  R m = acpt P od (panicR R) (e0A R) (bodyQ P fn R) (argE (#[] : Array Value).toList) m := by kernel_rfl
theorem ok  (R : Ending → Mem → Prop) (m : Mem) (h : e0  R m) : HC P id #[] m R := by
  refine HC_of (fn := fn) (c := body) (od := od) (tb := tb) Go.Proofs.Try.func7 (by kernel_rfl) (by kernel_rfl) follows (by kernel_rfl) (of_decide_eq_true (by kernel_rfl)) ?_
  have he : (e0A R).erase = body := by kernel_rfl
  rw [← he]
  refine acpt_sound (P := P) (e0A R) _ _ _ True.intro ?_
  exact Eq.mp (e0_eq  R m) h
end eyotlaw3_begun

/-! ### eyot/page.New -/
namespace page_New
noncomputable def fn : Func := Go.Proofs.Try.f8
noncomputable def body : Code := fn.body.getD .skip
def od : Nat → List (Nat × Bool) := fun _ => []
def tb : Nat → List Row := fun _ => []
def e0 (base_0a : Option Addr) (base_0l : Nat) (base_0c : Nat) (size_1 : Int) (R : Ending → Mem → Prop) (m : Mem) : Prop :=
  Br (decide (size_1 < 1)) (
    R (.returned (.tuple #[.pointer none, .int .i64 1])) m) (
    Br (decide (size_1 > 512)) (
      R (.returned (.tuple #[.pointer none, .int .i64 1])) m) (
      Br (decide (((base_0l : Nat) : Int) > 4000)) (
        R (.returned (.tuple #[.pointer none, .int .i64 1])) m) (
        HC P slices_Clone_s_byte_byte.id #[.slice base_0a base_0l base_0c] m (Cont (fun v m1 =>
            UnS v fun x18a x18l x18c =>
            NewC m1 #[.slice x18a x18l x18c, .int .i64 size_1, .map none, .slice none 0 0] T_page_Pages fun b21 m2 =>
            R (.returned (.tuple #[.pointer (some ⟨b21, 0, none⟩), .int .i64 0])) m2) (panicR R)))))
noncomputable def e0A (R : Ending → Mem → Prop) : ACode := (.code (body))
theorem e0_eq (base_0a : Option Addr) (base_0l : Nat) (base_0c : Nat) (size_1 : Int) (R : Ending → Mem → Prop) (m : Mem) : e0 base_0a base_0l base_0c size_1 R m = acpt P od (panicR R) (e0A R) (bodyQ P fn R) (argE (#[.slice base_0a base_0l base_0c, .int .i64 size_1] : Array Value).toList) m := by kernel_rfl
theorem ok (base_0a : Option Addr) (base_0l : Nat) (base_0c : Nat) (size_1 : Int) (R : Ending → Mem → Prop) (m : Mem) (h : e0 base_0a base_0l base_0c size_1 R m) : HC P id #[.slice base_0a base_0l base_0c, .int .i64 size_1] m R := by
  refine HC_of (fn := fn) (c := body) (od := od) (tb := tb) Go.Proofs.Try.func8 (by kernel_rfl) (by kernel_rfl) follows (by kernel_rfl) (of_decide_eq_true (by kernel_rfl)) ?_
  have he : (e0A R).erase = body := by kernel_rfl
  rw [← he]
  refine acpt_sound (P := P) (e0A R) _ _ _ True.intro ?_
  exact Eq.mp (e0_eq base_0a base_0l base_0c size_1 R m) h
end page_New

/-! ### (*eyot/page.Pages).Count -/
namespace page_Pages_Count
noncomputable def fn : Func := Go.Proofs.Try.f9
noncomputable def body : Code := fn.body.getD .skip
def od : Nat → List (Nat × Bool) := fun _ => []
def tb : Nat → List Row := fun _ => []
def e0 (p_0 : Option Addr) (R : Ending → Mem → Prop) (m : Mem) : Prop :=
  NewC m #[.pointer p_0] T_ptr_page_Pages fun b_p_1 m1 =>
  HC P page_safe_int.id #[.func (.func page_Pages_Count_1.id) #[] #[.pointer (some ⟨b_p_1, 0, none⟩)]] m1 (Cont (fun v m2 =>
      UnI v .i64 fun x4 =>
      R (.returned (.int .i64 x4)) m2) (panicR R))
noncomputable def e0A (R : Ending → Mem → Prop) : ACode := (.code (body))
theorem e0_eq (p_0 : Option Addr) (R : Ending → Mem → Prop) (m : Mem) : e0 p_0 R m = acpt P od (panicR R) (e0A R) (bodyQ P fn R) (argE (#[.pointer p_0] : Array Value).toList) m := by kernel_rfl
theorem ok (p_0 : Option Addr) (R : Ending → Mem → Prop) (m : Mem) (h : e0 p_0 R m) : HC P id #[.pointer p_0] m R := by
  refine HC_of (fn := fn) (c := body) (od := od) (tb := tb) Go.Proofs.Try.func9 (by kernel_rfl) (by kernel_rfl) follows (by kernel_rfl) (of_decide_eq_true (by kernel_rfl)) ?_
  have he : (e0A R).erase = body := by kernel_rfl
  rw [← he]
  refine acpt_sound (P := P) (e0A R) _ _ _ True.intro ?_
  exact Eq.mp (e0_eq p_0 R m) h
end page_Pages_Count

/-! ### (*eyot/page.Pages).Read -/
namespace page_Pages_Read
noncomputable def fn : Func := Go.Proofs.Try.f10
noncomputable def body : Code := fn.body.getD .skip
def od : Nat → List (Nat × Bool) := fun | 6 => [(0, true), (1, true), (2, true), (3, true), (4, true), (5, true), (6, true), (7, true), (8, true), (9, true), (10, true), (11, true), (12, true), (13, true), (14, true), (15, true), (16, true), (17, false), (18, false), (19, false), (20, false), (21, false), (22, false), (23, false), (24, false), (25, false), (26, false)] | _ => []
def tb : Nat → List Row := fun | 6 => [(0, 1, 31), (1, 1073741824, 32), (2, 2147483648, 33), (4, 4294967296, 34), (0, 2, 35), (0, 1, 36), (32, 34359738368, 37), (64, 68719476736, 38), (128, 137438953472, 39), (272, 292057776128, 40), (0, 2, 41), (1024, 1099511627776, 42), (0, 1, 43), (4096, 4398046511104, 44), (8192, 8796093022208, 45), (16384, 17592186044416, 46), (34816, 37383395344384, 47), (0, 1, 48), (131072, 140737488355328, 49), (262144, 281474976710656, 50), (524288, 562949953421312, 51), (1048576, 1125899906842624, 52), (2162688, 2322168557862912, 53), (4194824, 4504157973118976, 54), (8388608, 9007199254740992, 55), (33554431, 18014398509481984, 5), (67108863, 0, 6)] | _ => []
def e0 (p_0 : Option Addr) (i_1 : Int) (R : Ending → Mem → Prop) (m : Mem) : Prop :=
  Br (decide (i_1 < 0)) (
    R (.returned (.tuple #[.slice none 0 0, .int .i64 1])) m) (
    HC P page_Pages_Count.id #[.pointer p_0] m (Cont (fun v m1 =>
        UnI v .i64 fun x11 =>
        Br (decide (i_1 ≥ x11)) (
          R (.returned (.tuple #[.slice none 0 0, .int .i64 1])) m1) (
          NilC p_0 (fun x16b x16o =>
            LdV m1 x16b (x16o + 3) fun v =>
            UnS v fun x18a x18l x18c =>
            NewC m1 #[.int .i64 i_1] T_int fun b20 m2 =>
            BiN P .append #[T_sl_int, T_sl_int] T_sl_int #[false, false] #[.slice x18a x18l x18c, .slice (some ⟨b20, 0, none⟩) 1 1] m2 (fun w m3 =>
              UnS w fun x21a x21l x21c =>
              NilC p_0 (fun x22b x22o =>
                St1 m3 x22b (x22o + 3) (.slice x21a x21l x21c) fun m4 =>
                NilC p_0 (fun x25b x25o =>
                  LdV m4 x25b (x25o + 2) fun v =>
                  UnM v fun x27 =>
                  LookN P m4 T_map_int_bool (.map x27) (.int .i64 i_1) false fun v =>
                  UnB v fun x29 =>
                  Br x29 (
                    R (.returned (.tuple #[.slice none 0 0, .int .i64 11])) m4) (
                    Sub m4 fun r5 =>
                    NilC p_0 (fun x31b x31o =>
                      LdV r5 x31b x31o fun v =>
                      UnS v fun x33a x33l x33c =>
                      NilC p_0 (fun x36b x36o =>
                        LdV r5 x36b (x36o + 1) fun v =>
                        UnI v .i64 fun x38 =>
                        NilC p_0 (fun x43b x43o =>
                        LdV r5 x43b (x43o + 1) fun v =>
                        UnI v .i64 fun x45 =>
                        NilC p_0 (fun x48b x48o =>
                        LdV m4 x48b x48o fun v =>
                        UnS v fun x50a x50l x50c =>
                        SlS x33a x33c (IntKind.i64.wrap (i_1 * x38)) (if ((x50l : Nat) : Int) < (IntKind.i64.wrap ((IntKind.i64.wrap (i_1 + 1)) * x45)) then ((x50l : Nat) : Int) else IntKind.i64.wrap ((IntKind.i64.wrap (i_1 + 1)) * x45)) 1 fun x53a x53l x53c =>
                        HC P slices_Clone_s_byte_byte.id #[.slice x53a x53l x53c] m4 (Cont (fun v m6 =>
                        UnS v fun x54a x54l x54c =>
                        Lk r5 m6 fun r7 =>
                        R (.returned (.tuple #[.slice x54a x54l x54c, .int .i64 0])) m6) (panicR R))) (False)) (False)) (False)) (False))) (R (.panicked (nilPanic P)) m4)) (R (.panicked (nilPanic P)) m3)) (panicR R)) (R (.panicked (nilPanic P)) m1))) (panicR R)))
noncomputable def e0A (R : Ending → Mem → Prop) : ACode := (.code (body))
theorem e0_eq (p_0 : Option Addr) (i_1 : Int) (R : Ending → Mem → Prop) (m : Mem) : e0 p_0 i_1 R m = acpt P od (panicR R) (e0A R) (bodyQ P fn R) (argE (#[.pointer p_0, .int .i64 i_1] : Array Value).toList) m := by kernel_rfl
theorem ok (p_0 : Option Addr) (i_1 : Int) (R : Ending → Mem → Prop) (m : Mem) (h : e0 p_0 i_1 R m) : HC P id #[.pointer p_0, .int .i64 i_1] m R := by
  refine HC_of (fn := fn) (c := body) (od := od) (tb := tb) Go.Proofs.Try.func10 (by kernel_rfl) (by kernel_rfl) follows (by kernel_rfl) (of_decide_eq_true (by kernel_rfl)) ?_
  have he : (e0A R).erase = body := by kernel_rfl
  rw [← he]
  refine acpt_sound (P := P) (e0A R) _ _ _ True.intro ?_
  exact Eq.mp (e0_eq p_0 i_1 R m) h
end page_Pages_Read

/-! ### (*eyot/page.Pages).Reads -/
namespace page_Pages_Reads
noncomputable def fn : Func := Go.Proofs.Try.f11
noncomputable def body : Code := fn.body.getD .skip
def od : Nat → List (Nat × Bool) := fun _ => []
def tb : Nat → List Row := fun _ => []
def e0 (p_0 : Option Addr) (R : Ending → Mem → Prop) (m : Mem) : Prop :=
  NewC m #[.pointer p_0] T_ptr_page_Pages fun b_p_1 m1 =>
  HC P page_safe_s_int.id #[.func (.func page_Pages_Reads_1.id) #[] #[.pointer (some ⟨b_p_1, 0, none⟩)]] m1 (Cont (fun v m2 =>
      UnS v fun x4a x4l x4c =>
      R (.returned (.slice x4a x4l x4c)) m2) (panicR R))
noncomputable def e0A (R : Ending → Mem → Prop) : ACode := (.code (body))
theorem e0_eq (p_0 : Option Addr) (R : Ending → Mem → Prop) (m : Mem) : e0 p_0 R m = acpt P od (panicR R) (e0A R) (bodyQ P fn R) (argE (#[.pointer p_0] : Array Value).toList) m := by kernel_rfl
theorem ok (p_0 : Option Addr) (R : Ending → Mem → Prop) (m : Mem) (h : e0 p_0 R m) : HC P id #[.pointer p_0] m R := by
  refine HC_of (fn := fn) (c := body) (od := od) (tb := tb) Go.Proofs.Try.func11 (by kernel_rfl) (by kernel_rfl) follows (by kernel_rfl) (of_decide_eq_true (by kernel_rfl)) ?_
  have he : (e0A R).erase = body := by kernel_rfl
  rw [← he]
  refine acpt_sound (P := P) (e0A R) _ _ _ True.intro ?_
  exact Eq.mp (e0_eq p_0 R m) h
end page_Pages_Reads

/-! ### (*eyot/page.Pages).Fault -/
namespace page_Pages_Fault
noncomputable def fn : Func := Go.Proofs.Try.f12
noncomputable def body : Code := fn.body.getD .skip
def od : Nat → List (Nat × Bool) := fun _ => []
def tb : Nat → List Row := fun _ => []
def l1E (K : Option Addr → Option Addr → Nat → Nat → Int → Int → Mem → Prop) : Env → Mem → Prop := fun ρ m => UnP (ρ 0) fun p_0 => UnS (ρ 12) fun x12a x12l x12c => UnI (ρ 13) .i64 fun x13 => UnI (ρ 14) .i64 fun x14 => K p_0 x12a x12l x12c x13 x14 m
def l1B  (K1 : Option Addr → Option Addr → Nat → Nat → Int → Int → Mem → Prop) (p_0 : Option Addr) (x12a : Option Addr) (x12l : Nat) (x12c : Nat) (x13 : Int) (x14 : Int) (R : Ending → Mem → Prop) (m : Mem) : Prop :=
  Br (decide (x14 < x13)) (
    IxS x12a x12l x14 1 fun x16b x16o =>
    LdV m x16b x16o fun v =>
    UnI v .i64 fun x17 =>
    NilC p_0 (fun x19b x19o =>
      LdV m x19b (x19o + 2) fun v =>
      UnM v fun x21 =>
      MapUpN P m T_map_int_bool (.map x21) (.int .i64 x17) (.bool true) (fun m1 =>
        K1 p_0 x12a x12l x12c x13 (IntKind.i64.wrap (x14 + 1)) m1) (panicR R)) (R (.panicked (nilPanic P)) m)) (
    R (.returned (.tuple #[])) m)
def l1  (p_0 : Option Addr) (x12a : Option Addr) (x12l : Nat) (x12c : Nat) (x13 : Int) (x14 : Int) (R : Ending → Mem → Prop) (m : Mem) : Prop :=
  ∃ (I : Nat → Option Addr → Option Addr → Nat → Nat → Int → Int → Mem → Prop) (N : Nat), I N p_0 x12a x12l x12c x13 x14 m ∧ ∀ N p_0 x12a x12l x12c x13 x14 m, I N p_0 x12a x12l x12c x13 x14 m → l1B  (fun p_0 x12a x12l x12c x13 x14 m => ∃ N1, N1 < N ∧ I N1 p_0 x12a x12l x12c x13 x14 m) p_0 x12a x12l x12c x13 x14 R m
noncomputable def l1A  (K1 : Option Addr → Option Addr → Nat → Nat → Int → Int → Mem → Prop) (R : Ending → Mem → Prop) : ACode := (.code (lP (bB (sR (sR (sR (body)))))))
def e0 (p_0 : Option Addr) (l_1a : Option Addr) (l_1l : Nat) (l_1c : Nat) (R : Ending → Mem → Prop) (m : Mem) : Prop :=
  Br p_0.isNone (
    R (.returned (.tuple #[])) m) (
    NewM m fun b9 m1 =>
    NilC p_0 (fun x10b x10o =>
      St1 m1 x10b (x10o + 2) (.map (some b9)) fun m2 =>
      l1  p_0 l_1a l_1l l_1c ((l_1l : Nat) : Int) 0 R m2) (R (.panicked (nilPanic P)) m1))
noncomputable def e0A (R : Ending → Mem → Prop) : ACode := (.seq (.code (sL (body))) (.seq (.code (sL (sR (body)))) (.seq (.code (sL (sR (sR (body))))) (.block 0 (.cut (l1E fun p_0 x12a x12l x12c x13 x14 m => l1  p_0 x12a x12l x12c x13 x14 R m) (.loop (lP (bB (sR (sR (sR (body))))))))))))
theorem l1_eq  (K1 : Option Addr → Option Addr → Nat → Nat → Int → Int → Mem → Prop) (R : Ending → Mem → Prop) (p_0 : Option Addr) (x12a : Option Addr) (x12l : Nat) (x12c : Nat) (x13 : Int) (x14 : Int) (ρ : Env) (m : Mem) : l1B  K1 p_0 x12a x12l x12c x13 x14 R m = acpt P od (panicR R) (l1A  K1 R) (thenQ (l1E K1) (blockQ 0 (bodyQ P fn R))) (upd (upd (upd (upd ρ 14 (.int .i64 x14)) 13 (.int .i64 x13)) 12 (.slice x12a x12l x12c)) 0 (.pointer p_0)) m := by kernel_rfl
theorem l1_er  (K1 : Option Addr → Option Addr → Nat → Nat → Int → Int → Mem → Prop) (R : Ending → Mem → Prop) : (l1A  K1 R).erase = lP (bB (sR (sR (sR (body))))) := by kernel_rfl
theorem l1_ok  (R : Ending → Mem → Prop) (ρ : Env) (m : Mem) (h : (l1E fun p_0 x12a x12l x12c x13 x14 m => l1  p_0 x12a x12l x12c x13 x14 R m) ρ m) : cpt P od (panicR R) (.loop (lP (bB (sR (sR (sR (body))))))) (blockQ 0 (bodyQ P fn R)) ρ m := by
  unfold l1E at h
  obtain ⟨p_0, e0, h⟩ := h.ex
  obtain ⟨x12a, x12l, x12c, e12, h⟩ := h.ex
  obtain ⟨x13, e13, h⟩ := h.ex
  obtain ⟨x14, e14, h⟩ := h.ex
  obtain ⟨I, N, h0, hs⟩ := h
  refine ⟨fun N => l1E (I N), N, (by show l1E (I N) ρ m; unfold l1E; rw [e0, e12, e13, e14]; exact h0), ?_⟩
  clear h0 e0 e12 e13 e14
  intro N ρ m h
  unfold l1E at h
  obtain ⟨p_0, e0, h⟩ := h.ex
  obtain ⟨x12a, x12l, x12c, e12, h⟩ := h.ex
  obtain ⟨x13, e13, h⟩ := h.ex
  obtain ⟨x14, e14, h⟩ := h.ex
  refine cpt_mono (P := P) (lP (bB (sR (sR (sR (body)))))) (Q := thenQ (l1E fun p_0 x12a x12l x12c x13 x14 m => ∃ N1, N1 < N ∧ I N1 p_0 x12a x12l x12c x13 x14 m) (blockQ 0 (bodyQ P fn R))) (fun e ρ m h => ?_) ρ m ?_
  · cases e with
    | normal =>
      have h : l1E (fun p_0 x12a x12l x12c x13 x14 m => ∃ N1, N1 < N ∧ I N1 p_0 x12a x12l x12c x13 x14 m) ρ m := h
      unfold l1E at h
      obtain ⟨p_0, e0, h⟩ := h.ex
      obtain ⟨x12a, x12l, x12c, e12, h⟩ := h.ex
      obtain ⟨x13, e13, h⟩ := h.ex
      obtain ⟨x14, e14, h⟩ := h.ex
      obtain ⟨N1, hlt, h⟩ := h
      exact ⟨N1, hlt, (by show l1E (I N1) ρ m; unfold l1E; rw [e0, e12, e13, e14]; exact h)⟩
    | _ => exact h
  have hh := hs N p_0 x12a x12l x12c x13 x14 m h
  generalize (fun p_0 x12a x12l x12c x13 x14 m => ∃ N1, N1 < N ∧ I N1 p_0 x12a x12l x12c x13 x14 m : Option Addr → Option Addr → Nat → Nat → Int → Int → Mem → Prop) = K1 at hh ⊢
  rw [← upd_self e0, ← upd_self e12, ← upd_self e13, ← upd_self e14]
  rw [← l1_er  K1 R]
  refine acpt_sound (P := P) (l1A  K1 R) _ _ _ True.intro ?_
  exact Eq.mp (l1_eq  K1 R p_0 x12a x12l x12c x13 x14 ρ m) hh
theorem e0_eq (p_0 : Option Addr) (l_1a : Option Addr) (l_1l : Nat) (l_1c : Nat) (R : Ending → Mem → Prop) (m : Mem) : e0 p_0 l_1a l_1l l_1c R m = acpt P od (panicR R) (e0A R) (bodyQ P fn R) (argE (#[.pointer p_0, .slice l_1a l_1l l_1c] : Array Value).toList) m := by kernel_rfl
theorem ok (p_0 : Option Addr) (l_1a : Option Addr) (l_1l : Nat) (l_1c : Nat) (R : Ending → Mem → Prop) (m : Mem) (h : e0 p_0 l_1a l_1l l_1c R m) : HC P id #[.pointer p_0, .slice l_1a l_1l l_1c] m R := by
  refine HC_of (fn := fn) (c := body) (od := od) (tb := tb) Go.Proofs.Try.func12 (by kernel_rfl) (by kernel_rfl) follows (by kernel_rfl) (of_decide_eq_true (by kernel_rfl)) ?_
  have he : (e0A R).erase = body := by kernel_rfl
  rw [← he]
  refine acpt_sound (P := P) (e0A R) _ _ _ ⟨⟨⟨(fun ρ m h => l1_ok  R ρ m h), True.intro⟩, True.intro⟩, True.intro⟩ ?_
  exact Eq.mp (e0_eq p_0 l_1a l_1l l_1c R m) h
end page_Pages_Fault

/-! ### eyot/eyotref13.SameInts -/
namespace eyotref13_SameInts
noncomputable def fn : Func := Go.Proofs.Try.f13
noncomputable def body : Code := fn.body.getD .skip
def od : Nat → List (Nat × Bool) := fun | 6 => [(0, true), (1, true), (2, true), (3, true), (4, true), (5, false), (6, false), (7, false), (8, false)] | _ => []
def tb : Nat → List Row := fun | 6 => [(0, 1, 18), (0, 32, 19), (3, 393216, 20), (4, 524288, 21), (0, 2, 22), (0, 32, 23), (48, 6291456, 24), (64, 8388608, 25), (136, 17825792, 26)] | _ => []
def l1E (K : Option Addr → Nat → Nat → Option Addr → Nat → Nat → Int → Mem → Prop) : Env → Mem → Prop := fun ρ m => UnS (ρ 0) fun a_0a a_0l a_0c => UnS (ρ 1) fun b_1a b_1l b_1c => UnI (ρ 5) .i64 fun i_5 => K a_0a a_0l a_0c b_1a b_1l b_1c i_5 m
def l1B  (K1 : Option Addr → Nat → Nat → Option Addr → Nat → Nat → Int → Mem → Prop) (a_0a : Option Addr) (a_0l : Nat) (a_0c : Nat) (b_1a : Option Addr) (b_1l : Nat) (b_1c : Nat) (i_5 : Int) (R : Ending → Mem → Prop) (m : Mem) : Prop :=
  Br (decide (i_5 < ((a_0l : Nat) : Int))) (
    Sub m fun r1 =>
    IxS a_0a a_0l i_5 1 fun x19b x19o =>
    LdV r1 x19b x19o fun v =>
    UnI v .i64 fun x20 =>
    IxS b_1a b_1l i_5 1 fun x23b x23o =>
    LdV m x23b x23o fun v =>
    UnI v .i64 fun x24 =>
    Br (x20 != x24) (
      R (.returned (.bool false)) m) (
      K1 a_0a a_0l a_0c b_1a b_1l b_1c (IntKind.i64.wrap (i_5 + 1)) m)) (
    R (.returned (.bool true)) m)
def l1  (a_0a : Option Addr) (a_0l : Nat) (a_0c : Nat) (b_1a : Option Addr) (b_1l : Nat) (b_1c : Nat) (i_5 : Int) (R : Ending → Mem → Prop) (m : Mem) : Prop :=
  ∃ (I : Nat → Option Addr → Nat → Nat → Option Addr → Nat → Nat → Int → Mem → Prop) (N : Nat), I N a_0a a_0l a_0c b_1a b_1l b_1c i_5 m ∧ ∀ N a_0a a_0l a_0c b_1a b_1l b_1c i_5 m, I N a_0a a_0l a_0c b_1a b_1l b_1c i_5 m → l1B  (fun a_0a a_0l a_0c b_1a b_1l b_1c i_5 m => ∃ N1, N1 < N ∧ I N1 a_0a a_0l a_0c b_1a b_1l b_1c i_5 m) a_0a a_0l a_0c b_1a b_1l b_1c i_5 R m
noncomputable def l1A  (K1 : Option Addr → Nat → Nat → Option Addr → Nat → Nat → Int → Mem → Prop) (R : Ending → Mem → Prop) : ACode := (.code (lP (bB (sR (sL (sR (sR (body))))))))
def e0 (a_0a : Option Addr) (a_0l : Nat) (a_0c : Nat) (b_1a : Option Addr) (b_1l : Nat) (b_1c : Nat) (R : Ending → Mem → Prop) (m : Mem) : Prop :=
  Br (((a_0l : Nat) : Int) != ((b_1l : Nat) : Int)) (
    R (.returned (.bool false)) m) (
    l1  a_0a a_0l a_0c b_1a b_1l b_1c 0 R m)
noncomputable def e0A (R : Ending → Mem → Prop) : ACode := (.seq (.code (sL (body))) (.seq (.code (sL (sR (body)))) (.seq (.seq (.code (sL (sL (sR (sR (body)))))) (.block 0 (.cut (l1E fun a_0a a_0l a_0c b_1a b_1l b_1c i_5 m => l1  a_0a a_0l a_0c b_1a b_1l b_1c i_5 R m) (.loop (lP (bB (sR (sL (sR (sR (body))))))))))) (.code (sR (sR (sR (body))))))))
theorem l1_eq  (K1 : Option Addr → Nat → Nat → Option Addr → Nat → Nat → Int → Mem → Prop) (R : Ending → Mem → Prop) (a_0a : Option Addr) (a_0l : Nat) (a_0c : Nat) (b_1a : Option Addr) (b_1l : Nat) (b_1c : Nat) (i_5 : Int) (ρ : Env) (m : Mem) : l1B  K1 a_0a a_0l a_0c b_1a b_1l b_1c i_5 R m = acpt P od (panicR R) (l1A  K1 R) (thenQ (l1E K1) (blockQ 0 (thenQ (acpt P od (panicR R) (.code (sR (sR (sR (body))))) (bodyQ P fn R)) (bodyQ P fn R)))) (upd (upd (upd ρ 5 (.int .i64 i_5)) 1 (.slice b_1a b_1l b_1c)) 0 (.slice a_0a a_0l a_0c)) m := by kernel_rfl
theorem l1_er  (K1 : Option Addr → Nat → Nat → Option Addr → Nat → Nat → Int → Mem → Prop) (R : Ending → Mem → Prop) : (l1A  K1 R).erase = lP (bB (sR (sL (sR (sR (body)))))) := by kernel_rfl
theorem l1_ok  (R : Ending → Mem → Prop) (ρ : Env) (m : Mem) (h : (l1E fun a_0a a_0l a_0c b_1a b_1l b_1c i_5 m => l1  a_0a a_0l a_0c b_1a b_1l b_1c i_5 R m) ρ m) : cpt P od (panicR R) (.loop (lP (bB (sR (sL (sR (sR (body)))))))) (blockQ 0 (thenQ (acpt P od (panicR R) (.code (sR (sR (sR (body))))) (bodyQ P fn R)) (bodyQ P fn R))) ρ m := by
  unfold l1E at h
  obtain ⟨a_0a, a_0l, a_0c, e0, h⟩ := h.ex
  obtain ⟨b_1a, b_1l, b_1c, e1, h⟩ := h.ex
  obtain ⟨i_5, e5, h⟩ := h.ex
  obtain ⟨I, N, h0, hs⟩ := h
  refine ⟨fun N => l1E (I N), N, (by show l1E (I N) ρ m; unfold l1E; rw [e0, e1, e5]; exact h0), ?_⟩
  clear h0 e0 e1 e5
  intro N ρ m h
  unfold l1E at h
  obtain ⟨a_0a, a_0l, a_0c, e0, h⟩ := h.ex
  obtain ⟨b_1a, b_1l, b_1c, e1, h⟩ := h.ex
  obtain ⟨i_5, e5, h⟩ := h.ex
  refine cpt_mono (P := P) (lP (bB (sR (sL (sR (sR (body))))))) (Q := thenQ (l1E fun a_0a a_0l a_0c b_1a b_1l b_1c i_5 m => ∃ N1, N1 < N ∧ I N1 a_0a a_0l a_0c b_1a b_1l b_1c i_5 m) (blockQ 0 (thenQ (acpt P od (panicR R) (.code (sR (sR (sR (body))))) (bodyQ P fn R)) (bodyQ P fn R)))) (fun e ρ m h => ?_) ρ m ?_
  · cases e with
    | normal =>
      have h : l1E (fun a_0a a_0l a_0c b_1a b_1l b_1c i_5 m => ∃ N1, N1 < N ∧ I N1 a_0a a_0l a_0c b_1a b_1l b_1c i_5 m) ρ m := h
      unfold l1E at h
      obtain ⟨a_0a, a_0l, a_0c, e0, h⟩ := h.ex
      obtain ⟨b_1a, b_1l, b_1c, e1, h⟩ := h.ex
      obtain ⟨i_5, e5, h⟩ := h.ex
      obtain ⟨N1, hlt, h⟩ := h
      exact ⟨N1, hlt, (by show l1E (I N1) ρ m; unfold l1E; rw [e0, e1, e5]; exact h)⟩
    | _ => exact h
  have hh := hs N a_0a a_0l a_0c b_1a b_1l b_1c i_5 m h
  generalize (fun a_0a a_0l a_0c b_1a b_1l b_1c i_5 m => ∃ N1, N1 < N ∧ I N1 a_0a a_0l a_0c b_1a b_1l b_1c i_5 m : Option Addr → Nat → Nat → Option Addr → Nat → Nat → Int → Mem → Prop) = K1 at hh ⊢
  rw [← upd_self e0, ← upd_self e1, ← upd_self e5]
  rw [← l1_er  K1 R]
  refine acpt_sound (P := P) (l1A  K1 R) _ _ _ True.intro ?_
  exact Eq.mp (l1_eq  K1 R a_0a a_0l a_0c b_1a b_1l b_1c i_5 ρ m) hh
theorem e0_eq (a_0a : Option Addr) (a_0l : Nat) (a_0c : Nat) (b_1a : Option Addr) (b_1l : Nat) (b_1c : Nat) (R : Ending → Mem → Prop) (m : Mem) : e0 a_0a a_0l a_0c b_1a b_1l b_1c R m = acpt P od (panicR R) (e0A R) (bodyQ P fn R) (argE (#[.slice a_0a a_0l a_0c, .slice b_1a b_1l b_1c] : Array Value).toList) m := by kernel_rfl
theorem ok (a_0a : Option Addr) (a_0l : Nat) (a_0c : Nat) (b_1a : Option Addr) (b_1l : Nat) (b_1c : Nat) (R : Ending → Mem → Prop) (m : Mem) (h : e0 a_0a a_0l a_0c b_1a b_1l b_1c R m) : HC P id #[.slice a_0a a_0l a_0c, .slice b_1a b_1l b_1c] m R := by
  refine HC_of (fn := fn) (c := body) (od := od) (tb := tb) Go.Proofs.Try.func13 (by kernel_rfl) (by kernel_rfl) follows (by kernel_rfl) (of_decide_eq_true (by kernel_rfl)) ?_
  have he : (e0A R).erase = body := by kernel_rfl
  rw [← he]
  refine acpt_sound (P := P) (e0A R) _ _ _ ⟨⟨⟨True.intro, ⟨(fun ρ m h => l1_ok  R ρ m h), True.intro⟩⟩, True.intro⟩, True.intro⟩ ?_
  exact Eq.mp (e0_eq a_0a a_0l a_0c b_1a b_1l b_1c R m) h
end eyotref13_SameInts

/-! ### eyot/eyotlaw0.Twin -/
namespace eyotlaw0_Twin
noncomputable def fn : Func := Go.Proofs.Try.f14
noncomputable def body : Code := fn.body.getD .skip
def od : Nat → List (Nat × Bool) := fun _ => []
def tb : Nat → List Row := fun _ => []
def k2E (K : Option Addr → Nat → Nat → Option Addr → Nat → Nat → Mem → Prop) : Env → Mem → Prop := fun ρ m => UnS (ρ 0) fun b_0a b_0l b_0c => UnS (ρ 3) fun x_3a x_3l x_3c => K b_0a b_0l b_0c x_3a x_3l x_3c m
def k2  (b_0a : Option Addr) (b_0l : Nat) (b_0c : Nat) (x_3a : Option Addr) (x_3l : Nat) (x_3c : Nat) (R : Ending → Mem → Prop) (m : Mem) : Prop :=
  SlS x_3a x_3c 0 ((b_0l : Nat) : Int) 1 fun x26a x26l x26c =>
  R (.returned (.slice x26a x26l x26c)) m
noncomputable def k2A  (R : Ending → Mem → Prop) : ACode := (.code (sR (sR (sR (sR (body))))))
def l1E (K : Option Addr → Nat → Nat → Option Addr → Nat → Nat → Int → Mem → Prop) : Env → Mem → Prop := fun ρ m => UnS (ρ 0) fun b_0a b_0l b_0c => UnS (ρ 3) fun x_3a x_3l x_3c => UnI (ρ 4) .i64 fun i_4 => K b_0a b_0l b_0c x_3a x_3l x_3c i_4 m
def l1B  (K1 : Option Addr → Nat → Nat → Option Addr → Nat → Nat → Int → Mem → Prop) (b_0a : Option Addr) (b_0l : Nat) (b_0c : Nat) (x_3a : Option Addr) (x_3l : Nat) (x_3c : Nat) (i_4 : Int) (R : Ending → Mem → Prop) (m : Mem) : Prop :=
  Br (decide (i_4 < ((x_3l : Nat) : Int))) (
    IxS x_3a x_3l i_4 1 fun x22b x22o =>
    St1 m x22b x22o (.int .u8 229) fun m1 =>
    K1 b_0a b_0l b_0c x_3a x_3l x_3c (IntKind.i64.wrap (i_4 + 1)) m1) (
    k2  b_0a b_0l b_0c x_3a x_3l x_3c R m)
def l1  (b_0a : Option Addr) (b_0l : Nat) (b_0c : Nat) (x_3a : Option Addr) (x_3l : Nat) (x_3c : Nat) (i_4 : Int) (R : Ending → Mem → Prop) (m : Mem) : Prop :=
  ∃ (I : Nat → Option Addr → Nat → Nat → Option Addr → Nat → Nat → Int → Mem → Prop) (N : Nat), I N b_0a b_0l b_0c x_3a x_3l x_3c i_4 m ∧ ∀ N b_0a b_0l b_0c x_3a x_3l x_3c i_4 m, I N b_0a b_0l b_0c x_3a x_3l x_3c i_4 m → l1B  (fun b_0a b_0l b_0c x_3a x_3l x_3c i_4 m => ∃ N1, N1 < N ∧ I N1 b_0a b_0l b_0c x_3a x_3l x_3c i_4 m) b_0a b_0l b_0c x_3a x_3l x_3c i_4 R m
noncomputable def l1A  (K1 : Option Addr → Nat → Nat → Option Addr → Nat → Nat → Int → Mem → Prop) (R : Ending → Mem → Prop) : ACode := (.code (lP (bB (sR (sL (sR (sR (sR (body)))))))))
def e0 (b_0a : Option Addr) (b_0l : Nat) (b_0c : Nat) (R : Ending → Mem → Prop) (m : Mem) : Prop :=
  MkS P m T_sl_uint8 (.int .i64 (IntKind.i64.wrap (((b_0l : Nat) : Int) + 3))) (.int .i64 (IntKind.i64.wrap (((b_0l : Nat) : Int) + 3))) (fun w m1 =>
    UnS w fun x8a x8l x8c =>
    BiN P .copy #[T_sl_uint8, T_sl_uint8] T_int #[false, false] #[.slice x8a x8l x8c, .slice b_0a b_0l b_0c] m1 (fun w m2 =>
      UnI w .i64 fun x11 =>
      l1  b_0a b_0l b_0c x8a x8l x8c ((b_0l : Nat) : Int) R m2) (panicR R)) (panicR R)
noncomputable def e0A (R : Ending → Mem → Prop) : ACode := (.seq (.code (sL (body))) (.seq (.code (sL (sR (body)))) (.seq (.code (sL (sR (sR (body))))) (.seq (.seq (.code (sL (sL (sR (sR (sR (body))))))) (.block 0 (.cut (l1E fun b_0a b_0l b_0c x_3a x_3l x_3c i_4 m => l1  b_0a b_0l b_0c x_3a x_3l x_3c i_4 R m) (.loop (lP (bB (sR (sL (sR (sR (sR (body)))))))))))) (.cut (k2E fun b_0a b_0l b_0c x_3a x_3l x_3c m => k2  b_0a b_0l b_0c x_3a x_3l x_3c R m) (sR (sR (sR (sR (body))))))))))
theorem k2_eq  (R : Ending → Mem → Prop) (b_0a : Option Addr) (b_0l : Nat) (b_0c : Nat) (x_3a : Option Addr) (x_3l : Nat) (x_3c : Nat) (ρ : Env) (m : Mem) : k2  b_0a b_0l b_0c x_3a x_3l x_3c R m = acpt P od (panicR R) (k2A  R) (bodyQ P fn R) (upd (upd ρ 3 (.slice x_3a x_3l x_3c)) 0 (.slice b_0a b_0l b_0c)) m := by kernel_rfl
theorem k2_er  (R : Ending → Mem → Prop) : (k2A  R).erase = sR (sR (sR (sR (body)))) := by kernel_rfl
theorem k2_ok  (R : Ending → Mem → Prop) (ρ : Env) (m : Mem) (h : (k2E fun b_0a b_0l b_0c x_3a x_3l x_3c m => k2  b_0a b_0l b_0c x_3a x_3l x_3c R m) ρ m) : cpt P od (panicR R) (sR (sR (sR (sR (body))))) (bodyQ P fn R) ρ m := by
  unfold k2E at h
  obtain ⟨b_0a, b_0l, b_0c, e0, h⟩ := h.ex
  obtain ⟨x_3a, x_3l, x_3c, e3, h⟩ := h.ex
  rw [← upd_self e0, ← upd_self e3]
  rw [← k2_er  R]
  refine acpt_sound (P := P) (k2A  R) _ _ _ True.intro ?_
  exact Eq.mp (k2_eq  R b_0a b_0l b_0c x_3a x_3l x_3c ρ m) h
theorem l1_eq  (K1 : Option Addr → Nat → Nat → Option Addr → Nat → Nat → Int → Mem → Prop) (R : Ending → Mem → Prop) (b_0a : Option Addr) (b_0l : Nat) (b_0c : Nat) (x_3a : Option Addr) (x_3l : Nat) (x_3c : Nat) (i_4 : Int) (ρ : Env) (m : Mem) : l1B  K1 b_0a b_0l b_0c x_3a x_3l x_3c i_4 R m = acpt P od (panicR R) (l1A  K1 R) (thenQ (l1E K1) (blockQ 0 (thenQ (acpt P od (panicR R) (.cut (k2E fun b_0a b_0l b_0c x_3a x_3l x_3c m => k2  b_0a b_0l b_0c x_3a x_3l x_3c R m) (sR (sR (sR (sR (body)))))) (bodyQ P fn R)) (bodyQ P fn R)))) (upd (upd (upd ρ 4 (.int .i64 i_4)) 3 (.slice x_3a x_3l x_3c)) 0 (.slice b_0a b_0l b_0c)) m := by kernel_rfl
theorem l1_er  (K1 : Option Addr → Nat → Nat → Option Addr → Nat → Nat → Int → Mem → Prop) (R : Ending → Mem → Prop) : (l1A  K1 R).erase = lP (bB (sR (sL (sR (sR (sR (body))))))) := by kernel_rfl
theorem l1_ok  (R : Ending → Mem → Prop) (ρ : Env) (m : Mem) (h : (l1E fun b_0a b_0l b_0c x_3a x_3l x_3c i_4 m => l1  b_0a b_0l b_0c x_3a x_3l x_3c i_4 R m) ρ m) : cpt P od (panicR R) (.loop (lP (bB (sR (sL (sR (sR (sR (body))))))))) (blockQ 0 (thenQ (acpt P od (panicR R) (.cut (k2E fun b_0a b_0l b_0c x_3a x_3l x_3c m => k2  b_0a b_0l b_0c x_3a x_3l x_3c R m) (sR (sR (sR (sR (body)))))) (bodyQ P fn R)) (bodyQ P fn R))) ρ m := by
  unfold l1E at h
  obtain ⟨b_0a, b_0l, b_0c, e0, h⟩ := h.ex
  obtain ⟨x_3a, x_3l, x_3c, e3, h⟩ := h.ex
  obtain ⟨i_4, e4, h⟩ := h.ex
  obtain ⟨I, N, h0, hs⟩ := h
  refine ⟨fun N => l1E (I N), N, (by show l1E (I N) ρ m; unfold l1E; rw [e0, e3, e4]; exact h0), ?_⟩
  clear h0 e0 e3 e4
  intro N ρ m h
  unfold l1E at h
  obtain ⟨b_0a, b_0l, b_0c, e0, h⟩ := h.ex
  obtain ⟨x_3a, x_3l, x_3c, e3, h⟩ := h.ex
  obtain ⟨i_4, e4, h⟩ := h.ex
  refine cpt_mono (P := P) (lP (bB (sR (sL (sR (sR (sR (body)))))))) (Q := thenQ (l1E fun b_0a b_0l b_0c x_3a x_3l x_3c i_4 m => ∃ N1, N1 < N ∧ I N1 b_0a b_0l b_0c x_3a x_3l x_3c i_4 m) (blockQ 0 (thenQ (acpt P od (panicR R) (.cut (k2E fun b_0a b_0l b_0c x_3a x_3l x_3c m => k2  b_0a b_0l b_0c x_3a x_3l x_3c R m) (sR (sR (sR (sR (body)))))) (bodyQ P fn R)) (bodyQ P fn R)))) (fun e ρ m h => ?_) ρ m ?_
  · cases e with
    | normal =>
      have h : l1E (fun b_0a b_0l b_0c x_3a x_3l x_3c i_4 m => ∃ N1, N1 < N ∧ I N1 b_0a b_0l b_0c x_3a x_3l x_3c i_4 m) ρ m := h
      unfold l1E at h
      obtain ⟨b_0a, b_0l, b_0c, e0, h⟩ := h.ex
      obtain ⟨x_3a, x_3l, x_3c, e3, h⟩ := h.ex
      obtain ⟨i_4, e4, h⟩ := h.ex
      obtain ⟨N1, hlt, h⟩ := h
      exact ⟨N1, hlt, (by show l1E (I N1) ρ m; unfold l1E; rw [e0, e3, e4]; exact h)⟩
    | _ => exact h
  have hh := hs N b_0a b_0l b_0c x_3a x_3l x_3c i_4 m h
  generalize (fun b_0a b_0l b_0c x_3a x_3l x_3c i_4 m => ∃ N1, N1 < N ∧ I N1 b_0a b_0l b_0c x_3a x_3l x_3c i_4 m : Option Addr → Nat → Nat → Option Addr → Nat → Nat → Int → Mem → Prop) = K1 at hh ⊢
  rw [← upd_self e0, ← upd_self e3, ← upd_self e4]
  rw [← l1_er  K1 R]
  refine acpt_sound (P := P) (l1A  K1 R) _ _ _ True.intro ?_
  exact Eq.mp (l1_eq  K1 R b_0a b_0l b_0c x_3a x_3l x_3c i_4 ρ m) hh
theorem e0_eq (b_0a : Option Addr) (b_0l : Nat) (b_0c : Nat) (R : Ending → Mem → Prop) (m : Mem) : e0 b_0a b_0l b_0c R m = acpt P od (panicR R) (e0A R) (bodyQ P fn R) (argE (#[.slice b_0a b_0l b_0c] : Array Value).toList) m := by kernel_rfl
theorem ok (b_0a : Option Addr) (b_0l : Nat) (b_0c : Nat) (R : Ending → Mem → Prop) (m : Mem) (h : e0 b_0a b_0l b_0c R m) : HC P id #[.slice b_0a b_0l b_0c] m R := by
  refine HC_of (fn := fn) (c := body) (od := od) (tb := tb) Go.Proofs.Try.func14 (by kernel_rfl) (by kernel_rfl) follows (by kernel_rfl) (of_decide_eq_true (by kernel_rfl)) ?_
  have he : (e0A R).erase = body := by kernel_rfl
  rw [← he]
  refine acpt_sound (P := P) (e0A R) _ _ _ ⟨⟨⟨⟨(fun ρ m h => k2_ok  R ρ m h), ⟨(fun ρ m h => l1_ok  R ρ m h), True.intro⟩⟩, True.intro⟩, True.intro⟩, True.intro⟩ ?_
  exact Eq.mp (e0_eq b_0a b_0l b_0c R m) h
end eyotlaw0_Twin

/-! ### eyot/eyotlaw0.Kept -/
namespace eyotlaw0_Kept
noncomputable def fn : Func := Go.Proofs.Try.f15
noncomputable def body : Code := fn.body.getD .skip
def od : Nat → List (Nat × Bool) := fun _ => []
def tb : Nat → List Row := fun _ => []
def l1E (K : Option Addr → Nat → Nat → Option Addr → Nat → Nat → Int → Mem → Prop) : Env → Mem → Prop := fun ρ m => UnS (ρ 1) fun b_1a b_1l b_1c => UnS (ρ 5) fun y_5a y_5l y_5c => UnI (ρ 6) .i64 fun i_6 => K b_1a b_1l b_1c y_5a y_5l y_5c i_6 m
def l1B  (K1 : Option Addr → Nat → Nat → Option Addr → Nat → Nat → Int → Mem → Prop) (b_1a : Option Addr) (b_1l : Nat) (b_1c : Nat) (y_5a : Option Addr) (y_5l : Nat) (y_5c : Nat) (i_6 : Int) (R : Ending → Mem → Prop) (m : Mem) : Prop :=
  Br (decide (i_6 < (IntKind.i64.wrap (((b_1l : Nat) : Int) + 3)))) (
    IxS y_5a y_5l i_6 1 fun x35b x35o =>
    LdV m x35b x35o fun v =>
    UnI v .u8 fun x36 =>
    Br (x36 != 229) (
      R (.returned (.bool false)) m) (
      K1 b_1a b_1l b_1c y_5a y_5l y_5c (IntKind.i64.wrap (i_6 + 1)) m)) (
    R (.returned (.bool true)) m)
def l1  (b_1a : Option Addr) (b_1l : Nat) (b_1c : Nat) (y_5a : Option Addr) (y_5l : Nat) (y_5c : Nat) (i_6 : Int) (R : Ending → Mem → Prop) (m : Mem) : Prop :=
  ∃ (I : Nat → Option Addr → Nat → Nat → Option Addr → Nat → Nat → Int → Mem → Prop) (N : Nat), I N b_1a b_1l b_1c y_5a y_5l y_5c i_6 m ∧ ∀ N b_1a b_1l b_1c y_5a y_5l y_5c i_6 m, I N b_1a b_1l b_1c y_5a y_5l y_5c i_6 m → l1B  (fun b_1a b_1l b_1c y_5a y_5l y_5c i_6 m => ∃ N1, N1 < N ∧ I N1 b_1a b_1l b_1c y_5a y_5l y_5c i_6 m) b_1a b_1l b_1c y_5a y_5l y_5c i_6 R m
noncomputable def l1A  (K1 : Option Addr → Nat → Nat → Option Addr → Nat → Nat → Int → Mem → Prop) (R : Ending → Mem → Prop) : ACode := (.code (lP (bB (sR (sL (sR (sR (sR (body)))))))))
def e0 (x_0a : Option Addr) (x_0l : Nat) (x_0c : Nat) (b_1a : Option Addr) (b_1l : Nat) (b_1c : Nat) (R : Ending → Mem → Prop) (m : Mem) : Prop :=
  SlS x_0a x_0c 0 ((x_0c : Nat) : Int) 1 fun x10a x10l x10c =>
  B2S m x_0a x_0l fun s12 =>
  B2S m b_1a b_1l fun s14 =>
  Br (!(s12.toList == s14.toList)) (
    R (.returned (.bool false)) m) (
    Br (decide (((x10l : Nat) : Int) < (IntKind.i64.wrap (((b_1l : Nat) : Int) + 3)))) (
      R (.returned (.bool false)) m) (
      l1  b_1a b_1l b_1c x10a x10l x10c ((b_1l : Nat) : Int) R m))
noncomputable def e0A (R : Ending → Mem → Prop) : ACode := (.seq (.code (sL (body))) (.seq (.code (sL (sR (body)))) (.seq (.code (sL (sR (sR (body))))) (.seq (.seq (.code (sL (sL (sR (sR (sR (body))))))) (.block 0 (.cut (l1E fun b_1a b_1l b_1c y_5a y_5l y_5c i_6 m => l1  b_1a b_1l b_1c y_5a y_5l y_5c i_6 R m) (.loop (lP (bB (sR (sL (sR (sR (sR (body)))))))))))) (.code (sR (sR (sR (sR (body))))))))))
theorem l1_eq  (K1 : Option Addr → Nat → Nat → Option Addr → Nat → Nat → Int → Mem → Prop) (R : Ending → Mem → Prop) (b_1a : Option Addr) (b_1l : Nat) (b_1c : Nat) (y_5a : Option Addr) (y_5l : Nat) (y_5c : Nat) (i_6 : Int) (ρ : Env) (m : Mem) : l1B  K1 b_1a b_1l b_1c y_5a y_5l y_5c i_6 R m = acpt P od (panicR R) (l1A  K1 R) (thenQ (l1E K1) (blockQ 0 (thenQ (acpt P od (panicR R) (.code (sR (sR (sR (sR (body)))))) (bodyQ P fn R)) (bodyQ P fn R)))) (upd (upd (upd ρ 6 (.int .i64 i_6)) 5 (.slice y_5a y_5l y_5c)) 1 (.slice b_1a b_1l b_1c)) m := by kernel_rfl
theorem l1_er  (K1 : Option Addr → Nat → Nat → Option Addr → Nat → Nat → Int → Mem → Prop) (R : Ending → Mem → Prop) : (l1A  K1 R).erase = lP (bB (sR (sL (sR (sR (sR (body))))))) := by kernel_rfl
theorem l1_ok  (R : Ending → Mem → Prop) (ρ : Env) (m : Mem) (h : (l1E fun b_1a b_1l b_1c y_5a y_5l y_5c i_6 m => l1  b_1a b_1l b_1c y_5a y_5l y_5c i_6 R m) ρ m) : cpt P od (panicR R) (.loop (lP (bB (sR (sL (sR (sR (sR (body))))))))) (blockQ 0 (thenQ (acpt P od (panicR R) (.code (sR (sR (sR (sR (body)))))) (bodyQ P fn R)) (bodyQ P fn R))) ρ m := by
  unfold l1E at h
  obtain ⟨b_1a, b_1l, b_1c, e1, h⟩ := h.ex
  obtain ⟨y_5a, y_5l, y_5c, e5, h⟩ := h.ex
  obtain ⟨i_6, e6, h⟩ := h.ex
  obtain ⟨I, N, h0, hs⟩ := h
  refine ⟨fun N => l1E (I N), N, (by show l1E (I N) ρ m; unfold l1E; rw [e1, e5, e6]; exact h0), ?_⟩
  clear h0 e1 e5 e6
  intro N ρ m h
  unfold l1E at h
  obtain ⟨b_1a, b_1l, b_1c, e1, h⟩ := h.ex
  obtain ⟨y_5a, y_5l, y_5c, e5, h⟩ := h.ex
  obtain ⟨i_6, e6, h⟩ := h.ex
  refine cpt_mono (P := P) (lP (bB (sR (sL (sR (sR (sR (body)))))))) (Q := thenQ (l1E fun b_1a b_1l b_1c y_5a y_5l y_5c i_6 m => ∃ N1, N1 < N ∧ I N1 b_1a b_1l b_1c y_5a y_5l y_5c i_6 m) (blockQ 0 (thenQ (acpt P od (panicR R) (.code (sR (sR (sR (sR (body)))))) (bodyQ P fn R)) (bodyQ P fn R)))) (fun e ρ m h => ?_) ρ m ?_
  · cases e with
    | normal =>
      have h : l1E (fun b_1a b_1l b_1c y_5a y_5l y_5c i_6 m => ∃ N1, N1 < N ∧ I N1 b_1a b_1l b_1c y_5a y_5l y_5c i_6 m) ρ m := h
      unfold l1E at h
      obtain ⟨b_1a, b_1l, b_1c, e1, h⟩ := h.ex
      obtain ⟨y_5a, y_5l, y_5c, e5, h⟩ := h.ex
      obtain ⟨i_6, e6, h⟩ := h.ex
      obtain ⟨N1, hlt, h⟩ := h
      exact ⟨N1, hlt, (by show l1E (I N1) ρ m; unfold l1E; rw [e1, e5, e6]; exact h)⟩
    | _ => exact h
  have hh := hs N b_1a b_1l b_1c y_5a y_5l y_5c i_6 m h
  generalize (fun b_1a b_1l b_1c y_5a y_5l y_5c i_6 m => ∃ N1, N1 < N ∧ I N1 b_1a b_1l b_1c y_5a y_5l y_5c i_6 m : Option Addr → Nat → Nat → Option Addr → Nat → Nat → Int → Mem → Prop) = K1 at hh ⊢
  rw [← upd_self e1, ← upd_self e5, ← upd_self e6]
  rw [← l1_er  K1 R]
  refine acpt_sound (P := P) (l1A  K1 R) _ _ _ True.intro ?_
  exact Eq.mp (l1_eq  K1 R b_1a b_1l b_1c y_5a y_5l y_5c i_6 ρ m) hh
theorem e0_eq (x_0a : Option Addr) (x_0l : Nat) (x_0c : Nat) (b_1a : Option Addr) (b_1l : Nat) (b_1c : Nat) (R : Ending → Mem → Prop) (m : Mem) : e0 x_0a x_0l x_0c b_1a b_1l b_1c R m = acpt P od (panicR R) (e0A R) (bodyQ P fn R) (argE (#[.slice x_0a x_0l x_0c, .slice b_1a b_1l b_1c] : Array Value).toList) m := by kernel_rfl
theorem ok (x_0a : Option Addr) (x_0l : Nat) (x_0c : Nat) (b_1a : Option Addr) (b_1l : Nat) (b_1c : Nat) (R : Ending → Mem → Prop) (m : Mem) (h : e0 x_0a x_0l x_0c b_1a b_1l b_1c R m) : HC P id #[.slice x_0a x_0l x_0c, .slice b_1a b_1l b_1c] m R := by
  refine HC_of (fn := fn) (c := body) (od := od) (tb := tb) Go.Proofs.Try.func15 (by kernel_rfl) (by kernel_rfl) follows (by kernel_rfl) (of_decide_eq_true (by kernel_rfl)) ?_
  have he : (e0A R).erase = body := by kernel_rfl
  rw [← he]
  refine acpt_sound (P := P) (e0A R) _ _ _ ⟨⟨⟨⟨True.intro, ⟨(fun ρ m h => l1_ok  R ρ m h), True.intro⟩⟩, True.intro⟩, True.intro⟩, True.intro⟩ ?_
  exact Eq.mp (e0_eq x_0a x_0l x_0c b_1a b_1l b_1c R m) h
end eyotlaw0_Kept

/-! ### eyot/eyotlaw0.Spoil -/
namespace eyotlaw0_Spoil
noncomputable def fn : Func := Go.Proofs.Try.f16
noncomputable def body : Code := fn.body.getD .skip
def od : Nat → List (Nat × Bool) := fun _ => []
def tb : Nat → List Row := fun _ => []
def l1E (K : Option Addr → Nat → Nat → Int → Mem → Prop) : Env → Mem → Prop := fun ρ m => UnS (ρ 2) fun y_2a y_2l y_2c => UnI (ρ 3) .i64 fun i_3 => K y_2a y_2l y_2c i_3 m
def l1B  (K1 : Option Addr → Nat → Nat → Int → Mem → Prop) (y_2a : Option Addr) (y_2l : Nat) (y_2c : Nat) (i_3 : Int) (R : Ending → Mem → Prop) (m : Mem) : Prop :=
  Br (decide (i_3 < ((y_2l : Nat) : Int))) (
    IxS y_2a y_2l i_3 1 fun x16b x16o =>
    St1 m x16b x16o (.int .u8 90) fun m1 =>
    K1 y_2a y_2l y_2c (IntKind.i64.wrap (i_3 + 1)) m1) (
    R (.returned (.tuple #[])) m)
def l1  (y_2a : Option Addr) (y_2l : Nat) (y_2c : Nat) (i_3 : Int) (R : Ending → Mem → Prop) (m : Mem) : Prop :=
  ∃ (I : Nat → Option Addr → Nat → Nat → Int → Mem → Prop) (N : Nat), I N y_2a y_2l y_2c i_3 m ∧ ∀ N y_2a y_2l y_2c i_3 m, I N y_2a y_2l y_2c i_3 m → l1B  (fun y_2a y_2l y_2c i_3 m => ∃ N1, N1 < N ∧ I N1 y_2a y_2l y_2c i_3 m) y_2a y_2l y_2c i_3 R m
noncomputable def l1A  (K1 : Option Addr → Nat → Nat → Int → Mem → Prop) (R : Ending → Mem → Prop) : ACode := (.code (lP (bB (sR (sR (body))))))
def e0 (b_0a : Option Addr) (b_0l : Nat) (b_0c : Nat) (R : Ending → Mem → Prop) (m : Mem) : Prop :=
  SlS b_0a b_0c 0 ((b_0c : Nat) : Int) 1 fun x7a x7l x7c =>
  l1  x7a x7l x7c 0 R m
noncomputable def e0A (R : Ending → Mem → Prop) : ACode := (.seq (.code (sL (body))) (.seq (.code (sL (sR (body)))) (.block 0 (.cut (l1E fun y_2a y_2l y_2c i_3 m => l1  y_2a y_2l y_2c i_3 R m) (.loop (lP (bB (sR (sR (body))))))))))
theorem l1_eq  (K1 : Option Addr → Nat → Nat → Int → Mem → Prop) (R : Ending → Mem → Prop) (y_2a : Option Addr) (y_2l : Nat) (y_2c : Nat) (i_3 : Int) (ρ : Env) (m : Mem) : l1B  K1 y_2a y_2l y_2c i_3 R m = acpt P od (panicR R) (l1A  K1 R) (thenQ (l1E K1) (blockQ 0 (bodyQ P fn R))) (upd (upd ρ 3 (.int .i64 i_3)) 2 (.slice y_2a y_2l y_2c)) m := by kernel_rfl
theorem l1_er  (K1 : Option Addr → Nat → Nat → Int → Mem → Prop) (R : Ending → Mem → Prop) : (l1A  K1 R).erase = lP (bB (sR (sR (body)))) := by kernel_rfl
theorem l1_ok  (R : Ending → Mem → Prop) (ρ : Env) (m : Mem) (h : (l1E fun y_2a y_2l y_2c i_3 m => l1  y_2a y_2l y_2c i_3 R m) ρ m) : cpt P od (panicR R) (.loop (lP (bB (sR (sR (body)))))) (blockQ 0 (bodyQ P fn R)) ρ m := by
  unfold l1E at h
  obtain ⟨y_2a, y_2l, y_2c, e2, h⟩ := h.ex
  obtain ⟨i_3, e3, h⟩ := h.ex
  obtain ⟨I, N, h0, hs⟩ := h
  refine ⟨fun N => l1E (I N), N, (by show l1E (I N) ρ m; unfold l1E; rw [e2, e3]; exact h0), ?_⟩
  clear h0 e2 e3
  intro N ρ m h
  unfold l1E at h
  obtain ⟨y_2a, y_2l, y_2c, e2, h⟩ := h.ex
  obtain ⟨i_3, e3, h⟩ := h.ex
  refine cpt_mono (P := P) (lP (bB (sR (sR (body))))) (Q := thenQ (l1E fun y_2a y_2l y_2c i_3 m => ∃ N1, N1 < N ∧ I N1 y_2a y_2l y_2c i_3 m) (blockQ 0 (bodyQ P fn R))) (fun e ρ m h => ?_) ρ m ?_
  · cases e with
    | normal =>
      have h : l1E (fun y_2a y_2l y_2c i_3 m => ∃ N1, N1 < N ∧ I N1 y_2a y_2l y_2c i_3 m) ρ m := h
      unfold l1E at h
      obtain ⟨y_2a, y_2l, y_2c, e2, h⟩ := h.ex
      obtain ⟨i_3, e3, h⟩ := h.ex
      obtain ⟨N1, hlt, h⟩ := h
      exact ⟨N1, hlt, (by show l1E (I N1) ρ m; unfold l1E; rw [e2, e3]; exact h)⟩
    | _ => exact h
  have hh := hs N y_2a y_2l y_2c i_3 m h
  generalize (fun y_2a y_2l y_2c i_3 m => ∃ N1, N1 < N ∧ I N1 y_2a y_2l y_2c i_3 m : Option Addr → Nat → Nat → Int → Mem → Prop) = K1 at hh ⊢
  rw [← upd_self e2, ← upd_self e3]
  rw [← l1_er  K1 R]
  refine acpt_sound (P := P) (l1A  K1 R) _ _ _ True.intro ?_
  exact Eq.mp (l1_eq  K1 R y_2a y_2l y_2c i_3 ρ m) hh
theorem e0_eq (b_0a : Option Addr) (b_0l : Nat) (b_0c : Nat) (R : Ending → Mem → Prop) (m : Mem) : e0 b_0a b_0l b_0c R m = acpt P od (panicR R) (e0A R) (bodyQ P fn R) (argE (#[.slice b_0a b_0l b_0c] : Array Value).toList) m := by kernel_rfl
theorem ok (b_0a : Option Addr) (b_0l : Nat) (b_0c : Nat) (R : Ending → Mem → Prop) (m : Mem) (h : e0 b_0a b_0l b_0c R m) : HC P id #[.slice b_0a b_0l b_0c] m R := by
  refine HC_of (fn := fn) (c := body) (od := od) (tb := tb) Go.Proofs.Try.func16 (by kernel_rfl) (by kernel_rfl) follows (by kernel_rfl) (of_decide_eq_true (by kernel_rfl)) ?_
  have he : (e0A R).erase = body := by kernel_rfl
  rw [← he]
  refine acpt_sound (P := P) (e0A R) _ _ _ ⟨⟨(fun ρ m h => l1_ok  R ρ m h), True.intro⟩, True.intro⟩ ?_
  exact Eq.mp (e0_eq b_0a b_0l b_0c R m) h
end eyotlaw0_Spoil

/-! ### (*eyot/page.Pages).Clear -/
namespace page_Pages_Clear
noncomputable def fn : Func := Go.Proofs.Try.f17
noncomputable def body : Code := fn.body.getD .skip
def od : Nat → List (Nat × Bool) := fun _ => []
def tb : Nat → List Row := fun _ => []
def e0 (p_0 : Option Addr) (R : Ending → Mem → Prop) (m : Mem) : Prop :=
  Br (!p_0.isNone) (
    NilC p_0 (fun x5b x5o =>
      St1 m x5b (x5o + 3) (.slice none 0 0) fun m1 =>
      R (.returned (.tuple #[])) m1) (R (.panicked (nilPanic P)) m)) (
    R (.returned (.tuple #[])) m)
noncomputable def e0A (R : Ending → Mem → Prop) : ACode := (.code (body))
theorem e0_eq (p_0 : Option Addr) (R : Ending → Mem → Prop) (m : Mem) : e0 p_0 R m = acpt P od (panicR R) (e0A R) (bodyQ P fn R) (argE (#[.pointer p_0] : Array Value).toList) m := by kernel_rfl
theorem ok (p_0 : Option Addr) (R : Ending → Mem → Prop) (m : Mem) (h : e0 p_0 R m) : HC P id #[.pointer p_0] m R := by
  refine HC_of (fn := fn) (c := body) (od := od) (tb := tb) Go.Proofs.Try.func17 (by kernel_rfl) (by kernel_rfl) follows (by kernel_rfl) (of_decide_eq_true (by kernel_rfl)) ?_
  have he : (e0A R).erase = body := by kernel_rfl
  rw [← he]
  refine acpt_sound (P := P) (e0A R) _ _ _ True.intro ?_
  exact Eq.mp (e0_eq p_0 R m) h
end page_Pages_Clear

/-! ### (*eyot/page.Pages).Len -/
namespace page_Pages_Len
noncomputable def fn : Func := Go.Proofs.Try.f18
noncomputable def body : Code := fn.body.getD .skip
def od : Nat → List (Nat × Bool) := fun _ => []
def tb : Nat → List Row := fun _ => []
def e0 (p_0 : Option Addr) (R : Ending → Mem → Prop) (m : Mem) : Prop :=
  NewC m #[.pointer p_0] T_ptr_page_Pages fun b_p_1 m1 =>
  HC P page_safe_int.id #[.func (.func page_Pages_Len_1.id) #[] #[.pointer (some ⟨b_p_1, 0, none⟩)]] m1 (Cont (fun v m2 =>
      UnI v .i64 fun x4 =>
      R (.returned (.int .i64 x4)) m2) (panicR R))
noncomputable def e0A (R : Ending → Mem → Prop) : ACode := (.code (body))
theorem e0_eq (p_0 : Option Addr) (R : Ending → Mem → Prop) (m : Mem) : e0 p_0 R m = acpt P od (panicR R) (e0A R) (bodyQ P fn R) (argE (#[.pointer p_0] : Array Value).toList) m := by kernel_rfl
theorem ok (p_0 : Option Addr) (R : Ending → Mem → Prop) (m : Mem) (h : e0 p_0 R m) : HC P id #[.pointer p_0] m R := by
  refine HC_of (fn := fn) (c := body) (od := od) (tb := tb) Go.Proofs.Try.func18 (by kernel_rfl) (by kernel_rfl) follows (by kernel_rfl) (of_decide_eq_true (by kernel_rfl)) ?_
  have he : (e0A R).erase = body := by kernel_rfl
  rw [← he]
  refine acpt_sound (P := P) (e0A R) _ _ _ True.intro ?_
  exact Eq.mp (e0_eq p_0 R m) h
end page_Pages_Len

/-! ### slices.Clone[[]byte,byte] -/
namespace slices_Clone_s_byte_byte
noncomputable def fn : Func := Go.Proofs.Try.f19
noncomputable def body : Code := fn.body.getD .skip
def od : Nat → List (Nat × Bool) := fun _ => []
def tb : Nat → List Row := fun _ => []
def e0 (s_0a : Option Addr) (s_0l : Nat) (s_0c : Nat) (R : Ending → Mem → Prop) (m : Mem) : Prop :=
  Br s_0a.isNone (
    R (.returned (.slice none 0 0)) m) (
    NewC m #[] T_uint8 fun b5 m1 =>
    BiN P .append #[T_sl_uint8, T_sl_uint8] T_sl_uint8 #[false, false] #[.slice (some ⟨b5, 0, none⟩) 0 0, .slice s_0a s_0l s_0c] m1 (fun w m2 =>
      UnS w fun x7a x7l x7c =>
      R (.returned (.slice x7a x7l x7c)) m2) (panicR R))
noncomputable def e0A (R : Ending → Mem → Prop) : ACode := (.code (body))
theorem e0_eq (s_0a : Option Addr) (s_0l : Nat) (s_0c : Nat) (R : Ending → Mem → Prop) (m : Mem) : e0 s_0a s_0l s_0c R m = acpt P od (panicR R) (e0A R) (bodyQ P fn R) (argE (#[.slice s_0a s_0l s_0c] : Array Value).toList) m := by kernel_rfl
theorem ok (s_0a : Option Addr) (s_0l : Nat) (s_0c : Nat) (R : Ending → Mem → Prop) (m : Mem) (h : e0 s_0a s_0l s_0c R m) : HC P id #[.slice s_0a s_0l s_0c] m R := by
  refine HC_of (fn := fn) (c := body) (od := od) (tb := tb) Go.Proofs.Try.func19 (by kernel_rfl) (by kernel_rfl) follows (by kernel_rfl) (of_decide_eq_true (by kernel_rfl)) ?_
  have he : (e0A R).erase = body := by kernel_rfl
  rw [← he]
  refine acpt_sound (P := P) (e0A R) _ _ _ True.intro ?_
  exact Eq.mp (e0_eq s_0a s_0l s_0c R m) h
end slices_Clone_s_byte_byte

/-! ### (*eyot/page.Pages).Count$1 -/
namespace page_Pages_Count_1
noncomputable def fn : Func := Go.Proofs.Try.f21
noncomputable def body : Code := fn.body.getD .skip
def od : Nat → List (Nat × Bool) := fun | 1 => [(0, true), (1, true), (2, true), (3, true), (4, true), (5, true), (6, true), (7, true), (8, true), (9, true), (10, true), (11, false), (12, false), (13, false), (14, false), (15, false), (16, false)] | _ => []
def tb : Nat → List Row := fun | 1 => [(0, 1, 3), (1, 4, 4), (2, 8, 5), (4, 16, 6), (8, 32, 7), (0, 1, 8), (32, 128, 9), (64, 256, 10), (128, 512, 11), (272, 1088, 12), (512, 2048, 13), (0, 1, 14), (2048, 8192, 15), (4096, 16384, 16), (8192, 32768, 17), (17408, 69632, 18), (65535, 131072, 2)] | _ => []
def e0 (c0b : Nat) (c0o : Nat) (R : Ending → Mem → Prop) (m : Mem) : Prop :=
  Sub m fun r1 =>
  LdV r1 c0b c0o fun v =>
  UnP v fun x2 =>
  NilC x2 (fun x3b x3o =>
    LdV r1 x3b x3o fun v =>
    UnS v fun x5a x5l x5c =>
    LdV r1 c0b c0o fun v =>
    UnP v fun x7 =>
    NilC x7 (fun x8b x8o =>
      LdV r1 x8b (x8o + 1) fun v =>
      UnI v .i64 fun x10 =>
      LdV m c0b c0o fun v =>
      UnP v fun x13 =>
      NilC x13 (fun x14b x14o =>
        LdV m x14b (x14o + 1) fun v =>
        UnI v .i64 fun x16 =>
        NzI x16 (
          R (.returned (.int .i64 (IntKind.i64.wrap (Int.tdiv (IntKind.i64.wrap ((IntKind.i64.wrap (((x5l : Nat) : Int) + x10)) - 1)) x16)))) m)) (False)) (False)) (False)
noncomputable def e0A (R : Ending → Mem → Prop) : ACode := (.code (body))
theorem e0_eq (c0b : Nat) (c0o : Nat) (R : Ending → Mem → Prop) (m : Mem) : e0 c0b c0o R m = acpt P od (panicR R) (e0A R) (bodyQ P fn R) (argE (#[.pointer (some ⟨c0b, c0o, none⟩)] : Array Value).toList) m := by kernel_rfl
theorem ok (c0b : Nat) (c0o : Nat) (R : Ending → Mem → Prop) (m : Mem) (h : e0 c0b c0o R m) : HC P id #[.pointer (some ⟨c0b, c0o, none⟩)] m R := by
  refine HC_of (fn := fn) (c := body) (od := od) (tb := tb) Go.Proofs.Try.func21 (by kernel_rfl) (by kernel_rfl) follows (by kernel_rfl) (of_decide_eq_true (by kernel_rfl)) ?_
  have he : (e0A R).erase = body := by kernel_rfl
  rw [← he]
  refine acpt_sound (P := P) (e0A R) _ _ _ True.intro ?_
  exact Eq.mp (e0_eq c0b c0o R m) h
end page_Pages_Count_1

/-! ### (*eyot/page.Pages).Reads$1 -/
namespace page_Pages_Reads_1
noncomputable def fn : Func := Go.Proofs.Try.f23
noncomputable def body : Code := fn.body.getD .skip
def od : Nat → List (Nat × Bool) := fun _ => []
def tb : Nat → List Row := fun _ => []
def e0 (c0b : Nat) (c0o : Nat) (R : Ending → Mem → Prop) (m : Mem) : Prop :=
  LdV m c0b c0o fun v =>
  UnP v fun x2 =>
  NilC x2 (fun x3b x3o =>
    LdV m x3b (x3o + 3) fun v =>
    UnS v fun x5a x5l x5c =>
    HC P slices_Clone_s_int_int.id #[.slice x5a x5l x5c] m (Cont (fun v m1 =>
        UnS v fun x6a x6l x6c =>
        R (.returned (.slice x6a x6l x6c)) m1) (panicR R))) (R (.panicked (nilPanic P)) m)
noncomputable def e0A (R : Ending → Mem → Prop) : ACode := (.code (body))
theorem e0_eq (c0b : Nat) (c0o : Nat) (R : Ending → Mem → Prop) (m : Mem) : e0 c0b c0o R m = acpt P od (panicR R) (e0A R) (bodyQ P fn R) (argE (#[.pointer (some ⟨c0b, c0o, none⟩)] : Array Value).toList) m := by kernel_rfl
theorem ok (c0b : Nat) (c0o : Nat) (R : Ending → Mem → Prop) (m : Mem) (h : e0 c0b c0o R m) : HC P id #[.pointer (some ⟨c0b, c0o, none⟩)] m R := by
  refine HC_of (fn := fn) (c := body) (od := od) (tb := tb) Go.Proofs.Try.func23 (by kernel_rfl) (by kernel_rfl) follows (by kernel_rfl) (of_decide_eq_true (by kernel_rfl)) ?_
  have he : (e0A R).erase = body := by kernel_rfl
  rw [← he]
  refine acpt_sound (P := P) (e0A R) _ _ _ True.intro ?_
  exact Eq.mp (e0_eq c0b c0o R m) h
end page_Pages_Reads_1

/-! ### slices.Clone[[]int,int] -/
namespace slices_Clone_s_int_int
noncomputable def fn : Func := Go.Proofs.Try.f24
noncomputable def body : Code := fn.body.getD .skip
def od : Nat → List (Nat × Bool) := fun _ => []
def tb : Nat → List Row := fun _ => []
def e0 (s_0a : Option Addr) (s_0l : Nat) (s_0c : Nat) (R : Ending → Mem → Prop) (m : Mem) : Prop :=
  Br s_0a.isNone (
    R (.returned (.slice none 0 0)) m) (
    NewC m #[] T_int fun b5 m1 =>
    BiN P .append #[T_sl_int, T_sl_int] T_sl_int #[false, false] #[.slice (some ⟨b5, 0, none⟩) 0 0, .slice s_0a s_0l s_0c] m1 (fun w m2 =>
      UnS w fun x7a x7l x7c =>
      R (.returned (.slice x7a x7l x7c)) m2) (panicR R))
noncomputable def e0A (R : Ending → Mem → Prop) : ACode := (.code (body))
theorem e0_eq (s_0a : Option Addr) (s_0l : Nat) (s_0c : Nat) (R : Ending → Mem → Prop) (m : Mem) : e0 s_0a s_0l s_0c R m = acpt P od (panicR R) (e0A R) (bodyQ P fn R) (argE (#[.slice s_0a s_0l s_0c] : Array Value).toList) m := by kernel_rfl
theorem ok (s_0a : Option Addr) (s_0l : Nat) (s_0c : Nat) (R : Ending → Mem → Prop) (m : Mem) (h : e0 s_0a s_0l s_0c R m) : HC P id #[.slice s_0a s_0l s_0c] m R := by
  refine HC_of (fn := fn) (c := body) (od := od) (tb := tb) Go.Proofs.Try.func24 (by kernel_rfl) (by kernel_rfl) follows (by kernel_rfl) (of_decide_eq_true (by kernel_rfl)) ?_
  have he : (e0A R).erase = body := by kernel_rfl
  rw [← he]
  refine acpt_sound (P := P) (e0A R) _ _ _ True.intro ?_
  exact Eq.mp (e0_eq s_0a s_0l s_0c R m) h
end slices_Clone_s_int_int

/-! ### (*eyot/page.Pages).Len$1 -/
namespace page_Pages_Len_1
noncomputable def fn : Func := Go.Proofs.Try.f25
noncomputable def body : Code := fn.body.getD .skip
def od : Nat → List (Nat × Bool) := fun _ => []
def tb : Nat → List Row := fun _ => []
def e0 (c0b : Nat) (c0o : Nat) (R : Ending → Mem → Prop) (m : Mem) : Prop :=
  LdV m c0b c0o fun v =>
  UnP v fun x2 =>
  NilC x2 (fun x3b x3o =>
    LdV m x3b x3o fun v =>
    UnS v fun x5a x5l x5c =>
    R (.returned (.int .i64 ((x5l : Nat) : Int))) m) (R (.panicked (nilPanic P)) m)
noncomputable def e0A (R : Ending → Mem → Prop) : ACode := (.code (body))
theorem e0_eq (c0b : Nat) (c0o : Nat) (R : Ending → Mem → Prop) (m : Mem) : e0 c0b c0o R m = acpt P od (panicR R) (e0A R) (bodyQ P fn R) (argE (#[.pointer (some ⟨c0b, c0o, none⟩)] : Array Value).toList) m := by kernel_rfl
theorem ok (c0b : Nat) (c0o : Nat) (R : Ending → Mem → Prop) (m : Mem) (h : e0 c0b c0o R m) : HC P id #[.pointer (some ⟨c0b, c0o, none⟩)] m R := by
  refine HC_of (fn := fn) (c := body) (od := od) (tb := tb) Go.Proofs.Try.func25 (by kernel_rfl) (by kernel_rfl) follows (by kernel_rfl) (of_decide_eq_true (by kernel_rfl)) ?_
  have he : (e0A R).erase = body := by kernel_rfl
  rw [← he]
  refine acpt_sound (P := P) (e0A R) _ _ _ True.intro ?_
  exact Eq.mp (e0_eq c0b c0o R m) h
end page_Pages_Len_1

end
end Go.E
