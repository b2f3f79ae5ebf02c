/- Printed by this project's own gen.py: more shallow forms. -/
import Derived.Test.YtpbnhcggfgegkaaDoorG8b
set_option linter.unusedVariables false
set_option maxRecDepth 100000
namespace Go.E
open Go.H
noncomputable section
/-! ### (*eyot/class.reader).next -/
namespace class_reader_next
noncomputable def fn : Func := Go.Proofs.Tryd.f41
noncomputable def body : Code := fn.body.getD .skip
def od : Nat → Ord := fun | 1 => ordL [(0, 3), (1, 3), (2, 3), (3, 1), (4, 3), (5, 3), (6, 3), (7, 0), (8, 3), (9, 3)] .done | 2 => ordL [(0, 3), (1, 3), (2, 3), (3, 1), (4, 3), (5, 3), (6, 3), (7, 0), (8, 3), (9, 3)] .done | _ => .done
def tb : Nat → Tab := fun | 1 => (0, [0, 1, 3, 7, 0, 16, 48, 112, 240, 511], [(0, 1, 4), (1, 8, 5), (2, 16, 6), (4, 32, 7), (0, 1, 8), (16, 128, 9), (32, 256, 10), (64, 512, 11), (128, 1024, 12), (264, 2112, 13)]) | 2 => (0, [0, 1, 3, 7, 0, 16, 48, 112, 255, 511], [(0, 1, 14), (1, 8192, 15), (2, 16384, 16), (4, 32768, 17), (0, 1, 18), (16, 131072, 19), (32, 262144, 20), (64, 524288, 21), (136, 1114112, 22), (511, 2097152, 3)]) | _ => (0, [], [])
def e0 (r_0 : Option Addr) (R : Ending → Mem → Prop) (m : Mem) : Prop :=
  Sub m fun r1 =>
  NilC r_0 (fun x4b x4o =>
    LdV r1 x4b (x4o + 1) fun v =>
    UnI v .i64 fun x6 =>
    NilC r_0 (fun x8b x8o =>
      LdV m x8b x8o fun v =>
      UnStr v fun x10 =>
      Br (decide (x6 < (x10.size : Int))) (
        Sub m fun r2 =>
        NilC r_0 (fun x14b x14o =>
          LdV r2 x14b x14o fun v =>
          UnStr v fun x16 =>
          NilC r_0 (fun x18b x18o =>
            LdV m x18b (x18o + 1) fun v =>
            UnI v .i64 fun x20 =>
            IxB x16 x20 fun x21 =>
            R (.returned (.int .u8 x21)) m) (False)) (False)) (
        R (.returned (.int .u8 0)) m)) (False)) (False)
noncomputable def e0A (R : Ending → Mem → Prop) : ACode := (.code (body))
theorem e0_eq (r_0 : Option Addr) (R : Ending → Mem → Prop) (m : Mem) : e0 r_0 R m = acpt P od (panicR R) (e0A R) (bodyQ P fn R) (argE (#[.pointer r_0] : Array Value).toList) m := by kernel_rfl
theorem ok (r_0 : Option Addr) (R : Ending → Mem → Prop) (m : Mem) (h : e0 r_0 R m) : HC P id #[.pointer r_0] m R := by
  refine HC_of (fn := fn) (c := body) (od := od) (tb := tb) Go.Proofs.Tryd.func41 (by kernel_rfl) (by kernel_rfl) follows (by kernel_rfl) (of_decide_eq_true (by kernel_rfl)) ?_
  have he : (e0A R).erase = body := by kernel_rfl
  rw [← he]
  refine acpt_sound (P := P) (e0A R) _ _ _ True.intro ?_
  exact Eq.mp (e0_eq r_0 R m) h
end class_reader_next

/-! ### (*eyot/class.reader).take -/
namespace class_reader_take
noncomputable def fn : Func := Go.Proofs.Tryd.f42
noncomputable def body : Code := fn.body.getD .skip
def od : Nat → Ord := fun | 1 => ordL [(0, 3), (1, 3), (2, 3), (3, 1), (4, 3), (5, 3), (6, 3), (7, 0), (8, 3), (9, 3)] .done | 4 => ordL [(0, 3), (1, 3), (2, 3), (3, 1), (4, 3), (5, 3), (6, 3), (7, 0), (8, 3), (9, 3), (10, 3)] .done | _ => .done
def tb : Nat → Tab := fun | 1 => (0, [0, 1, 3, 7, 0, 16, 48, 112, 240, 511], [(0, 1, 4), (1, 8, 5), (2, 16, 6), (4, 32, 7), (0, 1, 8), (16, 128, 9), (32, 256, 10), (64, 512, 11), (128, 1024, 12), (264, 2112, 13)]) | 4 => (0, [0, 1, 3, 7, 0, 16, 48, 112, 240, 511, 1023], [(0, 1, 23), (1, 4194304, 24), (2, 8388608, 25), (4, 16777216, 26), (0, 1, 27), (16, 67108864, 28), (32, 134217728, 29), (64, 268435456, 30), (128, 536870912, 31), (264, 1107296256, 32), (1023, 2147483648, 3)]) | _ => (0, [], [])
def e0 (r_0 : Option Addr) (R : Ending → Mem → Prop) (m : Mem) : Prop :=
  Sub m fun r1 =>
  NilC r_0 (fun x4b x4o =>
    LdV r1 x4b (x4o + 1) fun v =>
    UnI v .i64 fun x6 =>
    NilC r_0 (fun x8b x8o =>
      LdV m x8b x8o fun v =>
      UnStr v fun x10 =>
      Br (decide (x6 ≥ (x10.size : Int))) (
        R (.panicked [{ v := .iface T_class_refusal (.agg #[]), recovered := false }]) m) (
        NilC r_0 (fun x16b x16o =>
          LdV m x16b (x16o + 1) fun v =>
          UnI v .i64 fun x18 =>
          NilC r_0 (fun x20b x20o =>
            St1 m x20b (x20o + 1) (.int .i64 (IntKind.i64.wrap (x18 + 1))) fun m2 =>
            Sub m2 fun r3 =>
            NilC r_0 (fun x23b x23o =>
              LdV r3 x23b x23o fun v =>
              UnStr v fun x25 =>
              NilC r_0 (fun x27b x27o =>
                LdV m2 x27b (x27o + 1) fun v =>
                UnI v .i64 fun x29 =>
                IxB x25 (IntKind.i64.wrap (x29 - 1)) fun x31 =>
                R (.returned (.int .u8 x31)) m2) (False)) (False)) (R (.panicked (nilPanic P)) m)) (R (.panicked (nilPanic P)) m))) (False)) (False)
noncomputable def e0A (R : Ending → Mem → Prop) : ACode := (.code (body))
theorem e0_eq (r_0 : Option Addr) (R : Ending → Mem → Prop) (m : Mem) : e0 r_0 R m = acpt P od (panicR R) (e0A R) (bodyQ P fn R) (argE (#[.pointer r_0] : Array Value).toList) m := by kernel_rfl
theorem ok (r_0 : Option Addr) (R : Ending → Mem → Prop) (m : Mem) (h : e0 r_0 R m) : HC P id #[.pointer r_0] m R := by
  refine HC_of (fn := fn) (c := body) (od := od) (tb := tb) Go.Proofs.Tryd.func42 (by kernel_rfl) (by kernel_rfl) follows (by kernel_rfl) (of_decide_eq_true (by kernel_rfl)) ?_
  have he : (e0A R).erase = body := by kernel_rfl
  rw [← he]
  refine acpt_sound (P := P) (e0A R) _ _ _ True.intro ?_
  exact Eq.mp (e0_eq r_0 R m) h
end class_reader_take

/-! ### (*eyot/class.reader).sign -/
namespace class_reader_sign
noncomputable def fn : Func := Go.Proofs.Tryd.f43
noncomputable def body : Code := fn.body.getD .skip
def od : Nat → Ord := fun _ => .done
def tb : Nat → Tab := fun _ => (0, [], [])
def e0 (r_0 : Option Addr) (R : Ending → Mem → Prop) (m : Mem) : Prop :=
  HC P class_reader_take.id #[.pointer r_0] m (Cont (fun v m1 =>
      UnI v .u8 fun x6 =>
      Br (x6 != 92) (
        Br (decide (x6 < 33)) (
          R (.panicked [{ v := .iface T_class_refusal (.agg #[]), recovered := false }]) m1) (
          Br (decide (x6 > 126)) (
            R (.panicked [{ v := .iface T_class_refusal (.agg #[]), recovered := false }]) m1) (
            HC P strings_IndexByte.id #[.string (ByteArray.mk #[92, 124, 42, 43, 63, 40, 41, 91, 93, 46, 94, 45]), .int .u8 x6] m1 (Cont (fun v m2 =>
                UnI v .i64 fun x17 =>
                Br (decide (x17 ≥ 0)) (
                  R (.panicked [{ v := .iface T_class_refusal (.agg #[]), recovered := false }]) m2) (
                  R (.returned (.int .u8 x6)) m2)) (panicR R))))) (
        HC P class_reader_take.id #[.pointer r_0] m1 (Cont (fun v m2 =>
            UnI v .u8 fun x24 =>
            Br (x24 == 120) (
              HC P class_reader_digit.id #[.pointer r_0] m2 (Cont (fun v m3 =>
                  UnI v .u8 fun x28 =>
                  HC P class_reader_digit.id #[.pointer r_0] m3 (Cont (fun v m4 =>
                      UnI v .u8 fun x32 =>
                      R (.returned (.int .u8 (bitsV .or .u8 (shlV .u8 x28 4) x32))) m4) (panicR R))) (panicR R))) (
              HC P strings_IndexByte.id #[.string (ByteArray.mk #[92, 124, 42, 43, 63, 40, 41, 91, 93, 46, 94, 45]), .int .u8 x24] m2 (Cont (fun v m3 =>
                  UnI v .i64 fun x35 =>
                  Br (decide (x35 < 0)) (
                    R (.panicked [{ v := .iface T_class_refusal (.agg #[]), recovered := false }]) m3) (
                    R (.returned (.int .u8 x24)) m3)) (panicR R)))) (panicR R)))) (panicR R))
noncomputable def e0A (R : Ending → Mem → Prop) : ACode := (.code (body))
theorem e0_eq (r_0 : Option Addr) (R : Ending → Mem → Prop) (m : Mem) : e0 r_0 R m = acpt P od (panicR R) (e0A R) (bodyQ P fn R) (argE (#[.pointer r_0] : Array Value).toList) m := by kernel_rfl
theorem ok (r_0 : Option Addr) (R : Ending → Mem → Prop) (m : Mem) (h : e0 r_0 R m) : HC P id #[.pointer r_0] m R := by
  refine HC_of (fn := fn) (c := body) (od := od) (tb := tb) Go.Proofs.Tryd.func43 (by kernel_rfl) (by kernel_rfl) follows (by kernel_rfl) (of_decide_eq_true (by kernel_rfl)) ?_
  have he : (e0A R).erase = body := by kernel_rfl
  rw [← he]
  refine acpt_sound (P := P) (e0A R) _ _ _ True.intro ?_
  exact Eq.mp (e0_eq r_0 R m) h
end class_reader_sign

/-! ### eyot/class.run -/
namespace class_run
noncomputable def fn : Func := Go.Proofs.Tryd.f44
noncomputable def body : Code := fn.body.getD .skip
def od : Nat → Ord := fun _ => .done
def tb : Nat → Tab := fun _ => (0, [], [])
def l1E (K : Int → Nat → Nat → Option Addr → Nat → Nat → Int → Mem → Prop) : Env → Mem → Prop := fun ρ m => UnI (ρ 1) .u8 fun b_1 => UnPA (ρ 4) fun x4b x4o => UnS (ρ 5) fun l_5a l_5l l_5c => UnI (ρ 6) .i64 fun c_6 => K b_1 x4b x4o l_5a l_5l l_5c c_6 m
def l1B  (K1 : Int → Nat → Nat → Option Addr → Nat → Nat → Int → Mem → Prop) (b_1 : Int) (x4b : Nat) (x4o : Nat) (l_5a : Option Addr) (l_5l : Nat) (l_5c : Nat) (c_6 : Int) (R : Ending → Mem → Prop) (m : Mem) : Prop :=
  Br (decide (c_6 ≤ (IntKind.i64.wrap b_1))) (
    NewC m #[.int .u8 (IntKind.u8.wrap c_6)] T_uint8 fun b18 m1 =>
    BiN P .append #[T_sl_uint8, T_sl_uint8] T_sl_uint8 #[false, false] #[.slice l_5a l_5l l_5c, .slice (some ⟨b18, 0, none⟩) 1 1] m1 (fun w m2 =>
      UnS w fun x19a x19l x19c =>
      K1 b_1 x4b x4o x19a x19l x19c (IntKind.i64.wrap (c_6 + 1)) m2) (panicR R)) (
    HC P class_Of.id #[.slice l_5a l_5l l_5c] m (Cont (fun v m1 =>
        UnAgg v fun l =>
        UnCons l fun v l =>
        UnI v .u64 fun x21_0 =>
        UnCons l fun v l =>
        UnI v .u64 fun x21_1 =>
        UnCons l fun v l =>
        UnI v .u64 fun x21_2 =>
        UnCons l fun v l =>
        UnI v .u64 fun x21_3 =>
        UnNil l (
          St1 m1 x4b x4o (.int .u64 x21_0) fun m2 =>
          St1 m2 x4b (x4o + 1) (.int .u64 x21_1) fun m3 =>
          St1 m3 x4b (x4o + 2) (.int .u64 x21_2) fun m4 =>
          St1 m4 x4b (x4o + 3) (.int .u64 x21_3) fun m5 =>
          LdV m5 x4b x4o fun v =>
          UnI v .u64 fun res0_0 =>
          LdV m5 x4b (x4o + 1) fun v =>
          UnI v .u64 fun res0_1 =>
          LdV m5 x4b (x4o + 2) fun v =>
          UnI v .u64 fun res0_2 =>
          LdV m5 x4b (x4o + 3) fun v =>
          UnI v .u64 fun res0_3 =>
          R (.returned (.agg #[.int .u64 res0_0, .int .u64 res0_1, .int .u64 res0_2, .int .u64 res0_3])) m5)) (panicR R)))
def l1  (b_1 : Int) (x4b : Nat) (x4o : Nat) (l_5a : Option Addr) (l_5l : Nat) (l_5c : Nat) (c_6 : Int) (R : Ending → Mem → Prop) (m : Mem) : Prop :=
  ∃ (I : Nat → Int → Nat → Nat → Option Addr → Nat → Nat → Int → Mem → Prop) (N : Nat), I N b_1 x4b x4o l_5a l_5l l_5c c_6 m ∧ ∀ N b_1 x4b x4o l_5a l_5l l_5c c_6 m, I N b_1 x4b x4o l_5a l_5l l_5c c_6 m → l1B  (fun b_1 x4b x4o l_5a l_5l l_5c c_6 m => ∃ N1, N1 < N ∧ I N1 b_1 x4b x4o l_5a l_5l l_5c c_6 m) b_1 x4b x4o l_5a l_5l l_5c c_6 R m
noncomputable def l1A  (K1 : Int → Nat → Nat → Option Addr → Nat → Nat → Int → Mem → Prop) (R : Ending → Mem → Prop) : ACode := (.code (lP (bB (sR (sL (sR (sR (body))))))))
def e0 (a_0 : Int) (b_1 : Int) (R : Ending → Mem → Prop) (m : Mem) : Prop :=
  NewC m #[.int .u64 0, .int .u64 0, .int .u64 0, .int .u64 0] T_api_Set fun b4 m1 =>
  l1  b_1 b4 0 none 0 0 (IntKind.i64.wrap a_0) R m1
noncomputable def e0A (R : Ending → Mem → Prop) : ACode := (.seq (.code (sL (body))) (.seq (.code (sL (sR (body)))) (.seq (.seq (.code (sL (sL (sR (sR (body)))))) (.block 0 (.cut (l1E fun b_1 x4b x4o l_5a l_5l l_5c c_6 m => l1  b_1 x4b x4o l_5a l_5l l_5c c_6 R m) (.loop (lP (bB (sR (sL (sR (sR (body))))))))))) (.code (sR (sR (sR (body))))))))
theorem l1_eq  (K1 : Int → Nat → Nat → Option Addr → Nat → Nat → Int → Mem → Prop) (R : Ending → Mem → Prop) (b_1 : Int) (x4b : Nat) (x4o : Nat) (l_5a : Option Addr) (l_5l : Nat) (l_5c : Nat) (c_6 : Int) (ρ : Env) (m : Mem) : l1B  K1 b_1 x4b x4o l_5a l_5l l_5c c_6 R m = acpt P od (panicR R) (l1A  K1 R) (thenQ (l1E K1) (blockQ 0 (thenQ (acpt P od (panicR R) (.code (sR (sR (sR (body))))) (bodyQ P fn R)) (bodyQ P fn R)))) (upd (upd (upd (upd ρ 6 (.int .i64 c_6)) 5 (.slice l_5a l_5l l_5c)) 4 (.pointer (some ⟨x4b, x4o, none⟩))) 1 (.int .u8 b_1)) m := by kernel_rfl
theorem l1_er  (K1 : Int → Nat → Nat → Option Addr → Nat → Nat → Int → Mem → Prop) (R : Ending → Mem → Prop) : (l1A  K1 R).erase = lP (bB (sR (sL (sR (sR (body)))))) := by kernel_rfl
theorem l1_ok  (R : Ending → Mem → Prop) (ρ : Env) (m : Mem) (h : (l1E fun b_1 x4b x4o l_5a l_5l l_5c c_6 m => l1  b_1 x4b x4o l_5a l_5l l_5c c_6 R m) ρ m) : cpt P od (panicR R) (.loop (lP (bB (sR (sL (sR (sR (body)))))))) (blockQ 0 (thenQ (acpt P od (panicR R) (.code (sR (sR (sR (body))))) (bodyQ P fn R)) (bodyQ P fn R))) ρ m := by
  unfold l1E at h
  obtain ⟨b_1, e1, h⟩ := h.ex
  obtain ⟨x4b, x4o, e4, h⟩ := h.ex
  obtain ⟨l_5a, l_5l, l_5c, e5, h⟩ := h.ex
  obtain ⟨c_6, e6, h⟩ := h.ex
  obtain ⟨I, N, h0, hs⟩ := h
  refine ⟨fun N => l1E (I N), N, (by show l1E (I N) ρ m; unfold l1E; rw [e1, e4, e5, e6]; exact h0), ?_⟩
  clear h0 e1 e4 e5 e6
  intro N ρ m h
  unfold l1E at h
  obtain ⟨b_1, e1, h⟩ := h.ex
  obtain ⟨x4b, x4o, e4, h⟩ := h.ex
  obtain ⟨l_5a, l_5l, l_5c, e5, h⟩ := h.ex
  obtain ⟨c_6, e6, h⟩ := h.ex
  refine cpt_mono (P := P) (lP (bB (sR (sL (sR (sR (body))))))) (Q := thenQ (l1E fun b_1 x4b x4o l_5a l_5l l_5c c_6 m => ∃ N1, N1 < N ∧ I N1 b_1 x4b x4o l_5a l_5l l_5c c_6 m) (blockQ 0 (thenQ (acpt P od (panicR R) (.code (sR (sR (sR (body))))) (bodyQ P fn R)) (bodyQ P fn R)))) (fun e ρ m h => ?_) ρ m ?_
  · cases e with
    | normal =>
      have h : l1E (fun b_1 x4b x4o l_5a l_5l l_5c c_6 m => ∃ N1, N1 < N ∧ I N1 b_1 x4b x4o l_5a l_5l l_5c c_6 m) ρ m := h
      unfold l1E at h
      obtain ⟨b_1, e1, h⟩ := h.ex
      obtain ⟨x4b, x4o, e4, h⟩ := h.ex
      obtain ⟨l_5a, l_5l, l_5c, e5, h⟩ := h.ex
      obtain ⟨c_6, e6, h⟩ := h.ex
      obtain ⟨N1, hlt, h⟩ := h
      exact ⟨N1, hlt, (by show l1E (I N1) ρ m; unfold l1E; rw [e1, e4, e5, e6]; exact h)⟩
    | _ => exact h
  have hh := hs N b_1 x4b x4o l_5a l_5l l_5c c_6 m h
  generalize (fun b_1 x4b x4o l_5a l_5l l_5c c_6 m => ∃ N1, N1 < N ∧ I N1 b_1 x4b x4o l_5a l_5l l_5c c_6 m : Int → Nat → Nat → Option Addr → Nat → Nat → Int → Mem → Prop) = K1 at hh ⊢
  rw [← upd_self e1, ← upd_self e4, ← upd_self e5, ← upd_self e6]
  rw [← l1_er  K1 R]
  refine acpt_sound (P := P) (l1A  K1 R) _ _ _ True.intro ?_
  exact Eq.mp (l1_eq  K1 R b_1 x4b x4o l_5a l_5l l_5c c_6 ρ m) hh
theorem e0_eq (a_0 : Int) (b_1 : Int) (R : Ending → Mem → Prop) (m : Mem) : e0 a_0 b_1 R m = acpt P od (panicR R) (e0A R) (bodyQ P fn R) (argE (#[.int .u8 a_0, .int .u8 b_1] : Array Value).toList) m := by kernel_rfl
theorem ok (a_0 : Int) (b_1 : Int) (R : Ending → Mem → Prop) (m : Mem) (h : e0 a_0 b_1 R m) : HC P id #[.int .u8 a_0, .int .u8 b_1] m R := by
  refine HC_of (fn := fn) (c := body) (od := od) (tb := tb) Go.Proofs.Tryd.func44 (by kernel_rfl) (by kernel_rfl) follows (by kernel_rfl) (of_decide_eq_true (by kernel_rfl)) ?_
  have he : (e0A R).erase = body := by kernel_rfl
  rw [← he]
  refine acpt_sound (P := P) (e0A R) _ _ _ ⟨⟨⟨True.intro, ⟨(fun ρ m h => l1_ok  R ρ m h), True.intro⟩⟩, True.intro⟩, True.intro⟩ ?_
  exact Eq.mp (e0_eq a_0 b_1 R m) h
end class_run

/-! ### (*eyot/class.reader).part -/
namespace class_reader_part
noncomputable def fn : Func := Go.Proofs.Tryd.f45
noncomputable def body : Code := fn.body.getD .skip
def od : Nat → Ord := fun _ => .done
def tb : Nat → Tab := fun _ => (0, [], [])
def e0 (r_0 : Option Addr) (R : Ending → Mem → Prop) (m : Mem) : Prop :=
  NewC m #[.int .u64 0, .int .u64 0, .int .u64 0, .int .u64 0] T_api_Set fun b2 m1 =>
  HC P class_reader_sign.id #[.pointer r_0] m1 (Cont (fun v m2 =>
      UnI v .u8 fun x6 =>
      HC P class_reader_next.id #[.pointer r_0] m2 (Cont (fun v m3 =>
          UnI v .u8 fun x8 =>
          Br (x8 != 45) (
            HC P class_run.id #[.int .u8 x6, .int .u8 x6] m3 (Cont (fun v m4 =>
                UnAgg v fun l =>
                UnCons l fun v l =>
                UnI v .u64 fun x12_0 =>
                UnCons l fun v l =>
                UnI v .u64 fun x12_1 =>
                UnCons l fun v l =>
                UnI v .u64 fun x12_2 =>
                UnCons l fun v l =>
                UnI v .u64 fun x12_3 =>
                UnNil l (
                  St1 m4 b2 0 (.int .u64 x12_0) fun m5 =>
                  St1 m5 b2 1 (.int .u64 x12_1) fun m6 =>
                  St1 m6 b2 2 (.int .u64 x12_2) fun m7 =>
                  St1 m7 b2 3 (.int .u64 x12_3) fun m8 =>
                  LdV m8 b2 0 fun v =>
                  UnI v .u64 fun res0_0 =>
                  LdV m8 b2 1 fun v =>
                  UnI v .u64 fun res0_1 =>
                  LdV m8 b2 2 fun v =>
                  UnI v .u64 fun res0_2 =>
                  LdV m8 b2 3 fun v =>
                  UnI v .u64 fun res0_3 =>
                  R (.returned (.agg #[.int .u64 res0_0, .int .u64 res0_1, .int .u64 res0_2, .int .u64 res0_3])) m8)) (panicR R))) (
            HC P class_reader_take.id #[.pointer r_0] m3 (Cont (fun v m4 =>
                UnI v .u8 fun x14 =>
                HC P class_reader_sign.id #[.pointer r_0] m4 (Cont (fun v m5 =>
                    UnI v .u8 fun x16 =>
                    Br (decide (x16 < x6)) (
                      R (.panicked [{ v := .iface T_class_refusal (.agg #[]), recovered := false }]) m5) (
                      HC P class_run.id #[.int .u8 x6, .int .u8 x16] m5 (Cont (fun v m6 =>
                        UnAgg v fun l =>
                        UnCons l fun v l =>
                        UnI v .u64 fun x24_0 =>
                        UnCons l fun v l =>
                        UnI v .u64 fun x24_1 =>
                        UnCons l fun v l =>
                        UnI v .u64 fun x24_2 =>
                        UnCons l fun v l =>
                        UnI v .u64 fun x24_3 =>
                        UnNil l (
                        St1 m6 b2 0 (.int .u64 x24_0) fun m7 =>
                        St1 m7 b2 1 (.int .u64 x24_1) fun m8 =>
                        St1 m8 b2 2 (.int .u64 x24_2) fun m9 =>
                        St1 m9 b2 3 (.int .u64 x24_3) fun m10 =>
                        LdV m10 b2 0 fun v =>
                        UnI v .u64 fun res0_0 =>
                        LdV m10 b2 1 fun v =>
                        UnI v .u64 fun res0_1 =>
                        LdV m10 b2 2 fun v =>
                        UnI v .u64 fun res0_2 =>
                        LdV m10 b2 3 fun v =>
                        UnI v .u64 fun res0_3 =>
                        R (.returned (.agg #[.int .u64 res0_0, .int .u64 res0_1, .int .u64 res0_2, .int .u64 res0_3])) m10)) (panicR R)))) (panicR R))) (panicR R)))) (panicR R))) (panicR R))
noncomputable def e0A (R : Ending → Mem → Prop) : ACode := (.code (body))
theorem e0_eq (r_0 : Option Addr) (R : Ending → Mem → Prop) (m : Mem) : e0 r_0 R m = acpt P od (panicR R) (e0A R) (bodyQ P fn R) (argE (#[.pointer r_0] : Array Value).toList) m := by kernel_rfl
theorem ok (r_0 : Option Addr) (R : Ending → Mem → Prop) (m : Mem) (h : e0 r_0 R m) : HC P id #[.pointer r_0] m R := by
  refine HC_of (fn := fn) (c := body) (od := od) (tb := tb) Go.Proofs.Tryd.func45 (by kernel_rfl) (by kernel_rfl) follows (by kernel_rfl) (of_decide_eq_true (by kernel_rfl)) ?_
  have he : (e0A R).erase = body := by kernel_rfl
  rw [← he]
  refine acpt_sound (P := P) (e0A R) _ _ _ True.intro ?_
  exact Eq.mp (e0_eq r_0 R m) h
end class_reader_part

/-! ### eyot/eyotref8.in -/
namespace eyotref8_in
noncomputable def fn : Func := Go.Proofs.Tryd.f46
noncomputable def body : Code := fn.body.getD .skip
def od : Nat → Ord := fun _ => .done
def tb : Nat → Tab := fun _ => (0, [], [])
def l1E (K : ByteArray → Int → Int → Mem → Prop) : Env → Mem → Prop := fun ρ m => UnStr (ρ 0) fun s_0 => UnI (ρ 1) .u8 fun c_1 => UnI (ρ 5) .i64 fun i_5 => K s_0 c_1 i_5 m
def l1B  (K1 : ByteArray → Int → Int → Mem → Prop) (s_0 : ByteArray) (c_1 : Int) (i_5 : Int) (R : Ending → Mem → Prop) (m : Mem) : Prop :=
  Br (decide (i_5 < (s_0.size : Int))) (
    IxB s_0 i_5 fun x14 =>
    Br (x14 == c_1) (
      R (.returned (.bool true)) m) (
      K1 s_0 c_1 (IntKind.i64.wrap (i_5 + 1)) m)) (
    R (.returned (.bool false)) m)
def l1  (s_0 : ByteArray) (c_1 : Int) (i_5 : Int) (R : Ending → Mem → Prop) (m : Mem) : Prop :=
  ∃ (I : Nat → ByteArray → Int → Int → Mem → Prop) (N : Nat), I N s_0 c_1 i_5 m ∧ ∀ N s_0 c_1 i_5 m, I N s_0 c_1 i_5 m → l1B  (fun s_0 c_1 i_5 m => ∃ N1, N1 < N ∧ I N1 s_0 c_1 i_5 m) s_0 c_1 i_5 R m
noncomputable def l1A  (K1 : ByteArray → Int → Int → Mem → Prop) (R : Ending → Mem → Prop) : ACode := (.code (lP (bB (sR (sL (sR (body)))))))
def e0 (s_0 : ByteArray) (c_1 : Int) (R : Ending → Mem → Prop) (m : Mem) : Prop :=
  l1  s_0 c_1 0 R m
noncomputable def e0A (R : Ending → Mem → Prop) : ACode := (.seq (.code (sL (body))) (.seq (.seq (.code (sL (sL (sR (body))))) (.block 0 (.cut (l1E fun s_0 c_1 i_5 m => l1  s_0 c_1 i_5 R m) (.loop (lP (bB (sR (sL (sR (body)))))))))) (.code (sR (sR (body))))))
theorem l1_eq  (K1 : ByteArray → Int → Int → Mem → Prop) (R : Ending → Mem → Prop) (s_0 : ByteArray) (c_1 : Int) (i_5 : Int) (ρ : Env) (m : Mem) : l1B  K1 s_0 c_1 i_5 R m = acpt P od (panicR R) (l1A  K1 R) (thenQ (l1E K1) (blockQ 0 (thenQ (acpt P od (panicR R) (.code (sR (sR (body)))) (bodyQ P fn R)) (bodyQ P fn R)))) (upd (upd (upd ρ 5 (.int .i64 i_5)) 1 (.int .u8 c_1)) 0 (.string s_0)) m := by kernel_rfl
theorem l1_er  (K1 : ByteArray → Int → Int → Mem → Prop) (R : Ending → Mem → Prop) : (l1A  K1 R).erase = lP (bB (sR (sL (sR (body))))) := by kernel_rfl
theorem l1_ok  (R : Ending → Mem → Prop) (ρ : Env) (m : Mem) (h : (l1E fun s_0 c_1 i_5 m => l1  s_0 c_1 i_5 R m) ρ m) : cpt P od (panicR R) (.loop (lP (bB (sR (sL (sR (body))))))) (blockQ 0 (thenQ (acpt P od (panicR R) (.code (sR (sR (body)))) (bodyQ P fn R)) (bodyQ P fn R))) ρ m := by
  unfold l1E at h
  obtain ⟨s_0, e0, h⟩ := h.ex
  obtain ⟨c_1, e1, h⟩ := h.ex
  obtain ⟨i_5, e5, h⟩ := h.ex
  obtain ⟨I, N, h0, hs⟩ := h
  refine ⟨fun N => l1E (I N), N, (by show l1E (I N) ρ m; unfold l1E; rw [e0, e1, e5]; exact h0), ?_⟩
  clear h0 e0 e1 e5
  intro N ρ m h
  unfold l1E at h
  obtain ⟨s_0, e0, h⟩ := h.ex
  obtain ⟨c_1, e1, h⟩ := h.ex
  obtain ⟨i_5, e5, h⟩ := h.ex
  refine cpt_mono (P := P) (lP (bB (sR (sL (sR (body)))))) (Q := thenQ (l1E fun s_0 c_1 i_5 m => ∃ N1, N1 < N ∧ I N1 s_0 c_1 i_5 m) (blockQ 0 (thenQ (acpt P od (panicR R) (.code (sR (sR (body)))) (bodyQ P fn R)) (bodyQ P fn R)))) (fun e ρ m h => ?_) ρ m ?_
  · cases e with
    | normal =>
      have h : l1E (fun s_0 c_1 i_5 m => ∃ N1, N1 < N ∧ I N1 s_0 c_1 i_5 m) ρ m := h
      unfold l1E at h
      obtain ⟨s_0, e0, h⟩ := h.ex
      obtain ⟨c_1, e1, h⟩ := h.ex
      obtain ⟨i_5, e5, h⟩ := h.ex
      obtain ⟨N1, hlt, h⟩ := h
      exact ⟨N1, hlt, (by show l1E (I N1) ρ m; unfold l1E; rw [e0, e1, e5]; exact h)⟩
    | _ => exact h
  have hh := hs N s_0 c_1 i_5 m h
  generalize (fun s_0 c_1 i_5 m => ∃ N1, N1 < N ∧ I N1 s_0 c_1 i_5 m : ByteArray → Int → Int → Mem → Prop) = K1 at hh ⊢
  rw [← upd_self e0, ← upd_self e1, ← upd_self e5]
  rw [← l1_er  K1 R]
  refine acpt_sound (P := P) (l1A  K1 R) _ _ _ True.intro ?_
  exact Eq.mp (l1_eq  K1 R s_0 c_1 i_5 ρ m) hh
theorem e0_eq (s_0 : ByteArray) (c_1 : Int) (R : Ending → Mem → Prop) (m : Mem) : e0 s_0 c_1 R m = acpt P od (panicR R) (e0A R) (bodyQ P fn R) (argE (#[.string s_0, .int .u8 c_1] : Array Value).toList) m := by kernel_rfl
theorem ok (s_0 : ByteArray) (c_1 : Int) (R : Ending → Mem → Prop) (m : Mem) (h : e0 s_0 c_1 R m) : HC P id #[.string s_0, .int .u8 c_1] m R := by
  refine HC_of (fn := fn) (c := body) (od := od) (tb := tb) Go.Proofs.Tryd.func46 (by kernel_rfl) (by kernel_rfl) follows (by kernel_rfl) (of_decide_eq_true (by kernel_rfl)) ?_
  have he : (e0A R).erase = body := by kernel_rfl
  rw [← he]
  refine acpt_sound (P := P) (e0A R) _ _ _ ⟨⟨True.intro, ⟨(fun ρ m h => l1_ok  R ρ m h), True.intro⟩⟩, True.intro⟩ ?_
  exact Eq.mp (e0_eq s_0 c_1 R m) h
end eyotref8_in

/-! ### eyot/eyotref8.digit -/
namespace eyotref8_digit
noncomputable def fn : Func := Go.Proofs.Tryd.f47
noncomputable def body : Code := fn.body.getD .skip
def od : Nat → Ord := fun _ => .done
def tb : Nat → Tab := fun _ => (0, [], [])
def l1E (K : Int → Int → Mem → Prop) : Env → Mem → Prop := fun ρ m => UnI (ρ 0) .u8 fun c_0 => UnI (ρ 3) .i64 fun i_3 => K c_0 i_3 m
def l1B  (K1 : Int → Int → Mem → Prop) (c_0 : Int) (i_3 : Int) (R : Ending → Mem → Prop) (m : Mem) : Prop :=
  Br (decide (i_3 < 16)) (
    IxB (ByteArray.mk #[48, 49, 50, 51, 52, 53, 54, 55, 56, 57, 97, 98, 99, 100, 101, 102]) i_3 fun x9 =>
    Br (x9 == c_0) (
      R (.returned (.int .i64 i_3)) m) (
      K1 c_0 (IntKind.i64.wrap (i_3 + 1)) m)) (
    R (.returned (.int .i64 (-1))) m)
def l1  (c_0 : Int) (i_3 : Int) (R : Ending → Mem → Prop) (m : Mem) : Prop :=
  ∃ (I : Nat → Int → Int → Mem → Prop) (N : Nat), I N c_0 i_3 m ∧ ∀ N c_0 i_3 m, I N c_0 i_3 m → l1B  (fun c_0 i_3 m => ∃ N1, N1 < N ∧ I N1 c_0 i_3 m) c_0 i_3 R m
noncomputable def l1A  (K1 : Int → Int → Mem → Prop) (R : Ending → Mem → Prop) : ACode := (.code (lP (bB (sR (sL (sR (body)))))))
def e0 (c_0 : Int) (R : Ending → Mem → Prop) (m : Mem) : Prop :=
  l1  c_0 0 R m
noncomputable def e0A (R : Ending → Mem → Prop) : ACode := (.seq (.code (sL (body))) (.seq (.seq (.code (sL (sL (sR (body))))) (.block 0 (.cut (l1E fun c_0 i_3 m => l1  c_0 i_3 R m) (.loop (lP (bB (sR (sL (sR (body)))))))))) (.code (sR (sR (body))))))
theorem l1_eq  (K1 : Int → Int → Mem → Prop) (R : Ending → Mem → Prop) (c_0 : Int) (i_3 : Int) (ρ : Env) (m : Mem) : l1B  K1 c_0 i_3 R m = acpt P od (panicR R) (l1A  K1 R) (thenQ (l1E K1) (blockQ 0 (thenQ (acpt P od (panicR R) (.code (sR (sR (body)))) (bodyQ P fn R)) (bodyQ P fn R)))) (upd (upd ρ 3 (.int .i64 i_3)) 0 (.int .u8 c_0)) m := by kernel_rfl
theorem l1_er  (K1 : Int → Int → Mem → Prop) (R : Ending → Mem → Prop) : (l1A  K1 R).erase = lP (bB (sR (sL (sR (body))))) := by kernel_rfl
theorem l1_ok  (R : Ending → Mem → Prop) (ρ : Env) (m : Mem) (h : (l1E fun c_0 i_3 m => l1  c_0 i_3 R m) ρ m) : cpt P od (panicR R) (.loop (lP (bB (sR (sL (sR (body))))))) (blockQ 0 (thenQ (acpt P od (panicR R) (.code (sR (sR (body)))) (bodyQ P fn R)) (bodyQ P fn R))) ρ m := by
  unfold l1E at h
  obtain ⟨c_0, e0, h⟩ := h.ex
  obtain ⟨i_3, e3, h⟩ := h.ex
  obtain ⟨I, N, h0, hs⟩ := h
  refine ⟨fun N => l1E (I N), N, (by show l1E (I N) ρ m; unfold l1E; rw [e0, e3]; exact h0), ?_⟩
  clear h0 e0 e3
  intro N ρ m h
  unfold l1E at h
  obtain ⟨c_0, e0, h⟩ := h.ex
  obtain ⟨i_3, e3, h⟩ := h.ex
  refine cpt_mono (P := P) (lP (bB (sR (sL (sR (body)))))) (Q := thenQ (l1E fun c_0 i_3 m => ∃ N1, N1 < N ∧ I N1 c_0 i_3 m) (blockQ 0 (thenQ (acpt P od (panicR R) (.code (sR (sR (body)))) (bodyQ P fn R)) (bodyQ P fn R)))) (fun e ρ m h => ?_) ρ m ?_
  · cases e with
    | normal =>
      have h : l1E (fun c_0 i_3 m => ∃ N1, N1 < N ∧ I N1 c_0 i_3 m) ρ m := h
      unfold l1E at h
      obtain ⟨c_0, e0, h⟩ := h.ex
      obtain ⟨i_3, e3, h⟩ := h.ex
      obtain ⟨N1, hlt, h⟩ := h
      exact ⟨N1, hlt, (by show l1E (I N1) ρ m; unfold l1E; rw [e0, e3]; exact h)⟩
    | _ => exact h
  have hh := hs N c_0 i_3 m h
  generalize (fun c_0 i_3 m => ∃ N1, N1 < N ∧ I N1 c_0 i_3 m : Int → Int → Mem → Prop) = K1 at hh ⊢
  rw [← upd_self e0, ← upd_self e3]
  rw [← l1_er  K1 R]
  refine acpt_sound (P := P) (l1A  K1 R) _ _ _ True.intro ?_
  exact Eq.mp (l1_eq  K1 R c_0 i_3 ρ m) hh
theorem e0_eq (c_0 : Int) (R : Ending → Mem → Prop) (m : Mem) : e0 c_0 R m = acpt P od (panicR R) (e0A R) (bodyQ P fn R) (argE (#[.int .u8 c_0] : Array Value).toList) m := by kernel_rfl
theorem ok (c_0 : Int) (R : Ending → Mem → Prop) (m : Mem) (h : e0 c_0 R m) : HC P id #[.int .u8 c_0] m R := by
  refine HC_of (fn := fn) (c := body) (od := od) (tb := tb) Go.Proofs.Tryd.func47 (by kernel_rfl) (by kernel_rfl) follows (by kernel_rfl) (of_decide_eq_true (by kernel_rfl)) ?_
  have he : (e0A R).erase = body := by kernel_rfl
  rw [← he]
  refine acpt_sound (P := P) (e0A R) _ _ _ ⟨⟨True.intro, ⟨(fun ρ m h => l1_ok  R ρ m h), True.intro⟩⟩, True.intro⟩ ?_
  exact Eq.mp (e0_eq c_0 R m) h
end eyotref8_digit

/-! ### strings.IndexByte -/
namespace strings_IndexByte
noncomputable def fn : Func := Go.Proofs.Tryd.f48
noncomputable def body : Code := fn.body.getD .skip
def od : Nat → Ord := fun _ => .done
def tb : Nat → Tab := fun _ => (0, [], [])
def e0 (s_0 : ByteArray) (c_1 : Int) (R : Ending → Mem → Prop) (m : Mem) : Prop :=
  HC P internal_stringslite_IndexByte.id #[.string s_0, .int .u8 c_1] m (Cont (fun v m1 =>
      UnI v .i64 fun x7 =>
      R (.returned (.int .i64 x7)) m1) (panicR R))
noncomputable def e0A (R : Ending → Mem → Prop) : ACode := (.code (body))
theorem e0_eq (s_0 : ByteArray) (c_1 : Int) (R : Ending → Mem → Prop) (m : Mem) : e0 s_0 c_1 R m = acpt P od (panicR R) (e0A R) (bodyQ P fn R) (argE (#[.string s_0, .int .u8 c_1] : Array Value).toList) m := by kernel_rfl
theorem ok (s_0 : ByteArray) (c_1 : Int) (R : Ending → Mem → Prop) (m : Mem) (h : e0 s_0 c_1 R m) : HC P id #[.string s_0, .int .u8 c_1] m R := by
  refine HC_of (fn := fn) (c := body) (od := od) (tb := tb) Go.Proofs.Tryd.func48 (by kernel_rfl) (by kernel_rfl) follows (by kernel_rfl) (of_decide_eq_true (by kernel_rfl)) ?_
  have he : (e0A R).erase = body := by kernel_rfl
  rw [← he]
  refine acpt_sound (P := P) (e0A R) _ _ _ True.intro ?_
  exact Eq.mp (e0_eq s_0 c_1 R m) h
end strings_IndexByte

/-! ### (*eyot/class.reader).digit -/
namespace class_reader_digit
noncomputable def fn : Func := Go.Proofs.Tryd.f49
noncomputable def body : Code := fn.body.getD .skip
def od : Nat → Ord := fun _ => .done
def tb : Nat → Tab := fun _ => (0, [], [])
def e0 (r_0 : Option Addr) (R : Ending → Mem → Prop) (m : Mem) : Prop :=
  HC P class_reader_take.id #[.pointer r_0] m (Cont (fun v m1 =>
      UnI v .u8 fun x5 =>
      HC P strings_IndexByte.id #[.string (ByteArray.mk #[48, 49, 50, 51, 52, 53, 54, 55, 56, 57, 97, 98, 99, 100, 101, 102]), .int .u8 x5] m1 (Cont (fun v m2 =>
          UnI v .i64 fun x6 =>
          Br (decide (x6 < 0)) (
            R (.panicked [{ v := .iface T_class_refusal (.agg #[]), recovered := false }]) m2) (
            R (.returned (.int .u8 (IntKind.u8.wrap x6))) m2)) (panicR R))) (panicR R))
noncomputable def e0A (R : Ending → Mem → Prop) : ACode := (.code (body))
theorem e0_eq (r_0 : Option Addr) (R : Ending → Mem → Prop) (m : Mem) : e0 r_0 R m = acpt P od (panicR R) (e0A R) (bodyQ P fn R) (argE (#[.pointer r_0] : Array Value).toList) m := by kernel_rfl
theorem ok (r_0 : Option Addr) (R : Ending → Mem → Prop) (m : Mem) (h : e0 r_0 R m) : HC P id #[.pointer r_0] m R := by
  refine HC_of (fn := fn) (c := body) (od := od) (tb := tb) Go.Proofs.Tryd.func49 (by kernel_rfl) (by kernel_rfl) follows (by kernel_rfl) (of_decide_eq_true (by kernel_rfl)) ?_
  have he : (e0A R).erase = body := by kernel_rfl
  rw [← he]
  refine acpt_sound (P := P) (e0A R) _ _ _ True.intro ?_
  exact Eq.mp (e0_eq r_0 R m) h
end class_reader_digit

/-! ### internal/stringslite.IndexByte -/
namespace internal_stringslite_IndexByte
noncomputable def fn : Func := Go.Proofs.Tryd.f50
noncomputable def body : Code := fn.body.getD .skip
def od : Nat → Ord := fun _ => .done
def tb : Nat → Tab := fun _ => (0, [], [])
def e0 (s_0 : ByteArray) (c_1 : Int) (R : Ending → Mem → Prop) (m : Mem) : Prop :=
  HC P internal_bytealg_IndexByteString.id #[.string s_0, .int .u8 c_1] m (Cont (fun v m1 =>
      UnI v .i64 fun x7 =>
      R (.returned (.int .i64 x7)) m1) (panicR R))
noncomputable def e0A (R : Ending → Mem → Prop) : ACode := (.code (body))
theorem e0_eq (s_0 : ByteArray) (c_1 : Int) (R : Ending → Mem → Prop) (m : Mem) : e0 s_0 c_1 R m = acpt P od (panicR R) (e0A R) (bodyQ P fn R) (argE (#[.string s_0, .int .u8 c_1] : Array Value).toList) m := by kernel_rfl
theorem ok (s_0 : ByteArray) (c_1 : Int) (R : Ending → Mem → Prop) (m : Mem) (h : e0 s_0 c_1 R m) : HC P id #[.string s_0, .int .u8 c_1] m R := by
  refine HC_of (fn := fn) (c := body) (od := od) (tb := tb) Go.Proofs.Tryd.func50 (by kernel_rfl) (by kernel_rfl) follows (by kernel_rfl) (of_decide_eq_true (by kernel_rfl)) ?_
  have he : (e0A R).erase = body := by kernel_rfl
  rw [← he]
  refine acpt_sound (P := P) (e0A R) _ _ _ True.intro ?_
  exact Eq.mp (e0_eq s_0 c_1 R m) h
end internal_stringslite_IndexByte

end
end Go.E
