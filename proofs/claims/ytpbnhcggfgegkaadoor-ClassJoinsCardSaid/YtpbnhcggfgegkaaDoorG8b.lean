/- Printed by this project's own gen.py: more shallow forms. -/
import Derived.Test.YtpbnhcggfgegkaaDoorG8
set_option linter.unusedVariables false
set_option maxRecDepth 100000
namespace Go.E
open Go.H
noncomputable section
/-! ### (*eyot/class.reader).class -/
namespace class_reader_class
noncomputable def fn : Func := Go.Proofs.Tryd.f29
noncomputable def body : Code := fn.body.getD .skip
def od : Nat → Ord := fun | 14 => ordL [(0, 1), (1, 3), (2, 0), (3, 2), (4, 2)] .done | _ => .done
def tb : Nat → Tab := fun | 14 => (24, [0, 0, 2, 7, 15], [(0, 32, 35), (0, 1, 36), (2, 34359738368, 37), (5, 85899345920, 38), (15, 137438953504, 0)]) | _ => (0, [], [])
def k3E (K : Option Addr → Nat → Nat → Bool → Nat → Nat → Mem → Prop) : Env → Mem → Prop := fun ρ m => UnP (ρ 0) fun r_0 => UnPA (ρ 2) fun x2b x2o => UnB (ρ 4) fun other_4 => UnPA (ρ 5) fun s_5b s_5o => K r_0 x2b x2o other_4 s_5b s_5o m
def k3  (r_0 : Option Addr) (x2b : Nat) (x2o : Nat) (other_4 : Bool) (s_5b : Nat) (s_5o : Nat) (R : Ending → Mem → Prop) (m : Mem) : Prop :=
  HC P class_reader_take.id #[.pointer r_0] m (Cont (fun v m1 =>
      UnI v .u8 fun x39 =>
      Br other_4 (
        LdV m1 s_5b s_5o fun v =>
        UnI v .u64 fun x41_0 =>
        LdV m1 s_5b (s_5o + 1) fun v =>
        UnI v .u64 fun x41_1 =>
        LdV m1 s_5b (s_5o + 2) fun v =>
        UnI v .u64 fun x41_2 =>
        LdV m1 s_5b (s_5o + 3) fun v =>
        UnI v .u64 fun x41_3 =>
        HC P class_Not.id #[.agg #[.int .u64 x41_0, .int .u64 x41_1, .int .u64 x41_2, .int .u64 x41_3]] m1 (Cont (fun v m2 =>
            UnAgg v fun l =>
            UnCons l fun v l =>
            UnI v .u64 fun x42_0 =>
            UnCons l fun v l =>
            UnI v .u64 fun x42_1 =>
            UnCons l fun v l =>
            UnI v .u64 fun x42_2 =>
            UnCons l fun v l =>
            UnI v .u64 fun x42_3 =>
            UnNil l (
              St1 m2 s_5b s_5o (.int .u64 x42_0) fun m3 =>
              St1 m3 s_5b (s_5o + 1) (.int .u64 x42_1) fun m4 =>
              St1 m4 s_5b (s_5o + 2) (.int .u64 x42_2) fun m5 =>
              St1 m5 s_5b (s_5o + 3) (.int .u64 x42_3) fun m6 =>
              LdV m6 s_5b s_5o fun v =>
              UnI v .u64 fun x43_0 =>
              LdV m6 s_5b (s_5o + 1) fun v =>
              UnI v .u64 fun x43_1 =>
              LdV m6 s_5b (s_5o + 2) fun v =>
              UnI v .u64 fun x43_2 =>
              LdV m6 s_5b (s_5o + 3) fun v =>
              UnI v .u64 fun x43_3 =>
              St1 m6 x2b x2o (.int .u64 x43_0) fun m7 =>
              St1 m7 x2b (x2o + 1) (.int .u64 x43_1) fun m8 =>
              St1 m8 x2b (x2o + 2) (.int .u64 x43_2) fun m9 =>
              St1 m9 x2b (x2o + 3) (.int .u64 x43_3) fun m10 =>
              LdV m10 x2b x2o fun v =>
              UnI v .u64 fun res0_0 =>
              LdV m10 x2b (x2o + 1) fun v =>
              UnI v .u64 fun res0_1 =>
              LdV m10 x2b (x2o + 2) fun v =>
              UnI v .u64 fun res0_2 =>
              LdV m10 x2b (x2o + 3) fun v =>
              UnI v .u64 fun res0_3 =>
              R (.returned (.agg #[.int .u64 res0_0, .int .u64 res0_1, .int .u64 res0_2, .int .u64 res0_3])) m10)) (panicR R))) (
        LdV m1 s_5b s_5o fun v =>
        UnI v .u64 fun x43_0 =>
        LdV m1 s_5b (s_5o + 1) fun v =>
        UnI v .u64 fun x43_1 =>
        LdV m1 s_5b (s_5o + 2) fun v =>
        UnI v .u64 fun x43_2 =>
        LdV m1 s_5b (s_5o + 3) fun v =>
        UnI v .u64 fun x43_3 =>
        St1 m1 x2b x2o (.int .u64 x43_0) fun m2 =>
        St1 m2 x2b (x2o + 1) (.int .u64 x43_1) fun m3 =>
        St1 m3 x2b (x2o + 2) (.int .u64 x43_2) fun m4 =>
        St1 m4 x2b (x2o + 3) (.int .u64 x43_3) fun m5 =>
        LdV m5 x2b x2o fun v =>
        UnI v .u64 fun res0_0 =>
        LdV m5 x2b (x2o + 1) fun v =>
        UnI v .u64 fun res0_1 =>
        LdV m5 x2b (x2o + 2) fun v =>
        UnI v .u64 fun res0_2 =>
        LdV m5 x2b (x2o + 3) fun v =>
        UnI v .u64 fun res0_3 =>
        R (.returned (.agg #[.int .u64 res0_0, .int .u64 res0_1, .int .u64 res0_2, .int .u64 res0_3])) m5)) (panicR R))
noncomputable def k3A  (R : Ending → Mem → Prop) : ACode := (.code (sR (sR (sR (sR (sR (sR (sR (body)))))))))
def l2E (K : Option Addr → Nat → Nat → Bool → Nat → Nat → Mem → Prop) : Env → Mem → Prop := fun ρ m => UnP (ρ 0) fun r_0 => UnPA (ρ 2) fun x2b x2o => UnB (ρ 4) fun other_4 => UnPA (ρ 5) fun s_5b s_5o => K r_0 x2b x2o other_4 s_5b s_5o m
def l2B  (K2 : Option Addr → Nat → Nat → Bool → Nat → Nat → Mem → Prop) (r_0 : Option Addr) (x2b : Nat) (x2o : Nat) (other_4 : Bool) (s_5b : Nat) (s_5o : Nat) (R : Ending → Mem → Prop) (m : Mem) : Prop :=
  HC P class_reader_next.id #[.pointer r_0] m (Cont (fun v m1 =>
      UnI v .u8 fun x32 =>
      Br (x32 != 93) (
        Sub m1 fun r2 =>
        LdV r2 s_5b s_5o fun v =>
        UnI v .u64 fun x34_0 =>
        LdV r2 s_5b (s_5o + 1) fun v =>
        UnI v .u64 fun x34_1 =>
        LdV r2 s_5b (s_5o + 2) fun v =>
        UnI v .u64 fun x34_2 =>
        LdV r2 s_5b (s_5o + 3) fun v =>
        UnI v .u64 fun x34_3 =>
        HC P class_reader_part.id #[.pointer r_0] m1 (Cont (fun v m3 =>
            UnAgg v fun l =>
            UnCons l fun v l =>
            UnI v .u64 fun x36_0 =>
            UnCons l fun v l =>
            UnI v .u64 fun x36_1 =>
            UnCons l fun v l =>
            UnI v .u64 fun x36_2 =>
            UnCons l fun v l =>
            UnI v .u64 fun x36_3 =>
            UnNil l (
              Lk r2 m3 fun r4 =>
              HC P class_Or.id #[.agg #[.int .u64 x34_0, .int .u64 x34_1, .int .u64 x34_2, .int .u64 x34_3], .agg #[.int .u64 x36_0, .int .u64 x36_1, .int .u64 x36_2, .int .u64 x36_3]] m3 (Cont (fun v m5 =>
                  UnAgg v fun l =>
                  UnCons l fun v l =>
                  UnI v .u64 fun x37_0 =>
                  UnCons l fun v l =>
                  UnI v .u64 fun x37_1 =>
                  UnCons l fun v l =>
                  UnI v .u64 fun x37_2 =>
                  UnCons l fun v l =>
                  UnI v .u64 fun x37_3 =>
                  UnNil l (
                    St1 m5 s_5b s_5o (.int .u64 x37_0) fun m6 =>
                    St1 m6 s_5b (s_5o + 1) (.int .u64 x37_1) fun m7 =>
                    St1 m7 s_5b (s_5o + 2) (.int .u64 x37_2) fun m8 =>
                    St1 m8 s_5b (s_5o + 3) (.int .u64 x37_3) fun m9 =>
                    K2 r_0 x2b x2o other_4 s_5b s_5o m9)) (panicR R)))) (panicR R))) (
        k3  r_0 x2b x2o other_4 s_5b s_5o R m1)) (panicR R))
def l2  (r_0 : Option Addr) (x2b : Nat) (x2o : Nat) (other_4 : Bool) (s_5b : Nat) (s_5o : Nat) (R : Ending → Mem → Prop) (m : Mem) : Prop :=
  ∃ (I : Nat → Option Addr → Nat → Nat → Bool → Nat → Nat → Mem → Prop) (N : Nat), I N r_0 x2b x2o other_4 s_5b s_5o m ∧ ∀ N r_0 x2b x2o other_4 s_5b s_5o m, I N r_0 x2b x2o other_4 s_5b s_5o m → l2B  (fun r_0 x2b x2o other_4 s_5b s_5o m => ∃ N1, N1 < N ∧ I N1 r_0 x2b x2o other_4 s_5b s_5o m) r_0 x2b x2o other_4 s_5b s_5o R m
noncomputable def l2A  (K2 : Option Addr → Nat → Nat → Bool → Nat → Nat → Mem → Prop) (R : Ending → Mem → Prop) : ACode := (.code (lP (bB (sL (sR (sR (sR (sR (sR (sR (body)))))))))))
def k1E (K : Option Addr → Nat → Nat → Bool → Mem → Prop) : Env → Mem → Prop := fun ρ m => UnP (ρ 0) fun r_0 => UnPA (ρ 2) fun x2b x2o => UnB (ρ 4) fun other_4 => K r_0 x2b x2o other_4 m
def k1  (r_0 : Option Addr) (x2b : Nat) (x2o : Nat) (other_4 : Bool) (R : Ending → Mem → Prop) (m : Mem) : Prop :=
  HC P class_reader_part.id #[.pointer r_0] m (Cont (fun v m1 =>
      UnAgg v fun l =>
      UnCons l fun v l =>
      UnI v .u64 fun x30_0 =>
      UnCons l fun v l =>
      UnI v .u64 fun x30_1 =>
      UnCons l fun v l =>
      UnI v .u64 fun x30_2 =>
      UnCons l fun v l =>
      UnI v .u64 fun x30_3 =>
      UnNil l (
        NewC m1 #[.int .u64 0, .int .u64 0, .int .u64 0, .int .u64 0] T_api_Set fun b_s_5 m2 =>
        St1 m2 b_s_5 0 (.int .u64 x30_0) fun m3 =>
        St1 m3 b_s_5 1 (.int .u64 x30_1) fun m4 =>
        St1 m4 b_s_5 2 (.int .u64 x30_2) fun m5 =>
        St1 m5 b_s_5 3 (.int .u64 x30_3) fun m6 =>
        l2  r_0 x2b x2o other_4 b_s_5 0 R m6)) (panicR R))
noncomputable def k1A  (R : Ending → Mem → Prop) : ACode := (.seq (.code (sL (sR (sR (sR (sR (sR (body)))))))) (.seq (.block 1 (.cut (l2E fun r_0 x2b x2o other_4 s_5b s_5o m => l2  r_0 x2b x2o other_4 s_5b s_5o R m) (.loop (lP (bB (sL (sR (sR (sR (sR (sR (sR (body))))))))))))) (.cut (k3E fun r_0 x2b x2o other_4 s_5b s_5o m => k3  r_0 x2b x2o other_4 s_5b s_5o R m) (sR (sR (sR (sR (sR (sR (sR (body)))))))))))
def e0 (r_0 : Option Addr) (R : Ending → Mem → Prop) (m : Mem) : Prop :=
  NewC m #[.int .u64 0, .int .u64 0, .int .u64 0, .int .u64 0] T_api_Set fun b2 m1 =>
  HC P class_reader_next.id #[.pointer r_0] m1 (Cont (fun v m2 =>
      UnI v .u8 fun x7 =>
      Br (x7 == 46) (
        HC P class_reader_take.id #[.pointer r_0] m2 (Cont (fun v m3 =>
            UnI v .u8 fun x16 =>
            HC P class_Not.id #[.agg #[.int .u64 0, .int .u64 0, .int .u64 0, .int .u64 0]] m3 (Cont (fun v m4 =>
                UnAgg v fun l =>
                UnCons l fun v l =>
                UnI v .u64 fun x18_0 =>
                UnCons l fun v l =>
                UnI v .u64 fun x18_1 =>
                UnCons l fun v l =>
                UnI v .u64 fun x18_2 =>
                UnCons l fun v l =>
                UnI v .u64 fun x18_3 =>
                UnNil l (
                  St1 m4 b2 0 (.int .u64 x18_0) fun m5 =>
                  St1 m5 b2 1 (.int .u64 x18_1) fun m6 =>
                  St1 m6 b2 2 (.int .u64 x18_2) fun m7 =>
                  St1 m7 b2 3 (.int .u64 x18_3) fun m8 =>
                  LdV m8 b2 0 fun v =>
                  UnI v .u64 fun res0_0 =>
                  LdV m8 b2 1 fun v =>
                  UnI v .u64 fun res0_1 =>
                  LdV m8 b2 2 fun v =>
                  UnI v .u64 fun res0_2 =>
                  LdV m8 b2 3 fun v =>
                  UnI v .u64 fun res0_3 =>
                  R (.returned (.agg #[.int .u64 res0_0, .int .u64 res0_1, .int .u64 res0_2, .int .u64 res0_3])) m8)) (panicR R))) (panicR R))) (
        Br (x7 == 91) (
          HC P class_reader_take.id #[.pointer r_0] m2 (Cont (fun v m3 =>
              UnI v .u8 fun x22 =>
              HC P class_reader_next.id #[.pointer r_0] m3 (Cont (fun v m4 =>
                  UnI v .u8 fun x24 =>
                  Br (x24 == 94) (
                    HC P class_reader_take.id #[.pointer r_0] m4 (Cont (fun v m5 =>
                        UnI v .u8 fun x28 =>
                        k1  r_0 b2 0 (x24 == 94) R m5) (panicR R))) (
                    k1  r_0 b2 0 (x24 == 94) R m4)) (panicR R))) (panicR R))) (
          HC P class_reader_sign.id #[.pointer r_0] m2 (Cont (fun v m3 =>
              UnI v .u8 fun x9 =>
              HC P class_run.id #[.int .u8 x9, .int .u8 x9] m3 (Cont (fun v m4 =>
                  UnAgg v fun l =>
                  UnCons l fun v l =>
                  UnI v .u64 fun x12_0 =>
                  UnCons l fun v l =>
                  UnI v .u64 fun x12_1 =>
                  UnCons l fun v l =>
                  UnI v .u64 fun x12_2 =>
                  UnCons l fun v l =>
                  UnI v .u64 fun x12_3 =>
                  UnNil l (
                    St1 m4 b2 0 (.int .u64 x12_0) fun m5 =>
                    St1 m5 b2 1 (.int .u64 x12_1) fun m6 =>
                    St1 m6 b2 2 (.int .u64 x12_2) fun m7 =>
                    St1 m7 b2 3 (.int .u64 x12_3) fun m8 =>
                    LdV m8 b2 0 fun v =>
                    UnI v .u64 fun res0_0 =>
                    LdV m8 b2 1 fun v =>
                    UnI v .u64 fun res0_1 =>
                    LdV m8 b2 2 fun v =>
                    UnI v .u64 fun res0_2 =>
                    LdV m8 b2 3 fun v =>
                    UnI v .u64 fun res0_3 =>
                    R (.returned (.agg #[.int .u64 res0_0, .int .u64 res0_1, .int .u64 res0_2, .int .u64 res0_3])) m8)) (panicR R))) (panicR R))))) (panicR R))
noncomputable def e0A (R : Ending → Mem → Prop) : ACode := (.seq (.code (sL (body))) (.seq (.code (sL (sR (body)))) (.seq (.code (sL (sR (sR (body))))) (.seq (.code (sL (sR (sR (sR (body)))))) (.seq (.code (sL (sR (sR (sR (sR (body))))))) (.cut (k1E fun r_0 x2b x2o other_4 m => k1  r_0 x2b x2o other_4 R m) (sR (sR (sR (sR (sR (body))))))))))))
theorem k3_eq  (R : Ending → Mem → Prop) (r_0 : Option Addr) (x2b : Nat) (x2o : Nat) (other_4 : Bool) (s_5b : Nat) (s_5o : Nat) (ρ : Env) (m : Mem) : k3  r_0 x2b x2o other_4 s_5b s_5o R m = acpt P od (panicR R) (k3A  R) (bodyQ P fn R) (upd (upd (upd (upd ρ 5 (.pointer (some ⟨s_5b, s_5o, none⟩))) 4 (.bool other_4)) 2 (.pointer (some ⟨x2b, x2o, none⟩))) 0 (.pointer r_0)) m := by kernel_rfl
theorem k3_er  (R : Ending → Mem → Prop) : (k3A  R).erase = sR (sR (sR (sR (sR (sR (sR (body))))))) := by kernel_rfl
theorem k3_ok  (R : Ending → Mem → Prop) (ρ : Env) (m : Mem) (h : (k3E fun r_0 x2b x2o other_4 s_5b s_5o m => k3  r_0 x2b x2o other_4 s_5b s_5o R m) ρ m) : cpt P od (panicR R) (sR (sR (sR (sR (sR (sR (sR (body)))))))) (bodyQ P fn R) ρ m := by
  unfold k3E at h
  obtain ⟨r_0, e0, h⟩ := h.ex
  obtain ⟨x2b, x2o, e2, h⟩ := h.ex
  obtain ⟨other_4, e4, h⟩ := h.ex
  obtain ⟨s_5b, s_5o, e5, h⟩ := h.ex
  rw [← upd_self e0, ← upd_self e2, ← upd_self e4, ← upd_self e5]
  rw [← k3_er  R]
  refine acpt_sound (P := P) (k3A  R) _ _ _ True.intro ?_
  exact Eq.mp (k3_eq  R r_0 x2b x2o other_4 s_5b s_5o ρ m) h
theorem l2_eq  (K2 : Option Addr → Nat → Nat → Bool → Nat → Nat → Mem → Prop) (R : Ending → Mem → Prop) (r_0 : Option Addr) (x2b : Nat) (x2o : Nat) (other_4 : Bool) (s_5b : Nat) (s_5o : Nat) (ρ : Env) (m : Mem) : l2B  K2 r_0 x2b x2o other_4 s_5b s_5o R m = acpt P od (panicR R) (l2A  K2 R) (thenQ (l2E K2) (blockQ 1 (thenQ (acpt P od (panicR R) (.cut (k3E fun r_0 x2b x2o other_4 s_5b s_5o m => k3  r_0 x2b x2o other_4 s_5b s_5o R m) (sR (sR (sR (sR (sR (sR (sR (body))))))))) (bodyQ P fn R)) (bodyQ P fn R)))) (upd (upd (upd (upd ρ 5 (.pointer (some ⟨s_5b, s_5o, none⟩))) 4 (.bool other_4)) 2 (.pointer (some ⟨x2b, x2o, none⟩))) 0 (.pointer r_0)) m := by kernel_rfl
theorem l2_er  (K2 : Option Addr → Nat → Nat → Bool → Nat → Nat → Mem → Prop) (R : Ending → Mem → Prop) : (l2A  K2 R).erase = lP (bB (sL (sR (sR (sR (sR (sR (sR (body))))))))) := by kernel_rfl
theorem l2_ok  (R : Ending → Mem → Prop) (ρ : Env) (m : Mem) (h : (l2E fun r_0 x2b x2o other_4 s_5b s_5o m => l2  r_0 x2b x2o other_4 s_5b s_5o R m) ρ m) : cpt P od (panicR R) (.loop (lP (bB (sL (sR (sR (sR (sR (sR (sR (body))))))))))) (blockQ 1 (thenQ (acpt P od (panicR R) (.cut (k3E fun r_0 x2b x2o other_4 s_5b s_5o m => k3  r_0 x2b x2o other_4 s_5b s_5o R m) (sR (sR (sR (sR (sR (sR (sR (body))))))))) (bodyQ P fn R)) (bodyQ P fn R))) ρ m := by
  unfold l2E at h
  obtain ⟨r_0, e0, h⟩ := h.ex
  obtain ⟨x2b, x2o, e2, h⟩ := h.ex
  obtain ⟨other_4, e4, h⟩ := h.ex
  obtain ⟨s_5b, s_5o, e5, h⟩ := h.ex
  obtain ⟨I, N, h0, hs⟩ := h
  refine ⟨fun N => l2E (I N), N, (by show l2E (I N) ρ m; unfold l2E; rw [e0, e2, e4, e5]; exact h0), ?_⟩
  clear h0 e0 e2 e4 e5
  intro N ρ m h
  unfold l2E at h
  obtain ⟨r_0, e0, h⟩ := h.ex
  obtain ⟨x2b, x2o, e2, h⟩ := h.ex
  obtain ⟨other_4, e4, h⟩ := h.ex
  obtain ⟨s_5b, s_5o, e5, h⟩ := h.ex
  refine cpt_mono (P := P) (lP (bB (sL (sR (sR (sR (sR (sR (sR (body)))))))))) (Q := thenQ (l2E fun r_0 x2b x2o other_4 s_5b s_5o m => ∃ N1, N1 < N ∧ I N1 r_0 x2b x2o other_4 s_5b s_5o m) (blockQ 1 (thenQ (acpt P od (panicR R) (.cut (k3E fun r_0 x2b x2o other_4 s_5b s_5o m => k3  r_0 x2b x2o other_4 s_5b s_5o R m) (sR (sR (sR (sR (sR (sR (sR (body))))))))) (bodyQ P fn R)) (bodyQ P fn R)))) (fun e ρ m h => ?_) ρ m ?_
  · cases e with
    | normal =>
      have h : l2E (fun r_0 x2b x2o other_4 s_5b s_5o m => ∃ N1, N1 < N ∧ I N1 r_0 x2b x2o other_4 s_5b s_5o m) ρ m := h
      unfold l2E at h
      obtain ⟨r_0, e0, h⟩ := h.ex
      obtain ⟨x2b, x2o, e2, h⟩ := h.ex
      obtain ⟨other_4, e4, h⟩ := h.ex
      obtain ⟨s_5b, s_5o, e5, h⟩ := h.ex
      obtain ⟨N1, hlt, h⟩ := h
      exact ⟨N1, hlt, (by show l2E (I N1) ρ m; unfold l2E; rw [e0, e2, e4, e5]; exact h)⟩
    | _ => exact h
  have hh := hs N r_0 x2b x2o other_4 s_5b s_5o m h
  generalize (fun r_0 x2b x2o other_4 s_5b s_5o m => ∃ N1, N1 < N ∧ I N1 r_0 x2b x2o other_4 s_5b s_5o m : Option Addr → Nat → Nat → Bool → Nat → Nat → Mem → Prop) = K2 at hh ⊢
  rw [← upd_self e0, ← upd_self e2, ← upd_self e4, ← upd_self e5]
  rw [← l2_er  K2 R]
  refine acpt_sound (P := P) (l2A  K2 R) _ _ _ True.intro ?_
  exact Eq.mp (l2_eq  K2 R r_0 x2b x2o other_4 s_5b s_5o ρ m) hh
theorem k1_eq  (R : Ending → Mem → Prop) (r_0 : Option Addr) (x2b : Nat) (x2o : Nat) (other_4 : Bool) (ρ : Env) (m : Mem) : k1  r_0 x2b x2o other_4 R m = acpt P od (panicR R) (k1A  R) (bodyQ P fn R) (upd (upd (upd ρ 4 (.bool other_4)) 2 (.pointer (some ⟨x2b, x2o, none⟩))) 0 (.pointer r_0)) m := by kernel_rfl
theorem k1_er  (R : Ending → Mem → Prop) : (k1A  R).erase = sR (sR (sR (sR (sR (body))))) := by kernel_rfl
theorem k1_ok  (R : Ending → Mem → Prop) (ρ : Env) (m : Mem) (h : (k1E fun r_0 x2b x2o other_4 m => k1  r_0 x2b x2o other_4 R m) ρ m) : cpt P od (panicR R) (sR (sR (sR (sR (sR (body)))))) (bodyQ P fn R) ρ m := by
  unfold k1E at h
  obtain ⟨r_0, e0, h⟩ := h.ex
  obtain ⟨x2b, x2o, e2, h⟩ := h.ex
  obtain ⟨other_4, e4, h⟩ := h.ex
  rw [← upd_self e0, ← upd_self e2, ← upd_self e4]
  rw [← k1_er  R]
  refine acpt_sound (P := P) (k1A  R) _ _ _ ⟨⟨(fun ρ m h => k3_ok  R ρ m h), (fun ρ m h => l2_ok  R ρ m h)⟩, True.intro⟩ ?_
  exact Eq.mp (k1_eq  R r_0 x2b x2o other_4 ρ m) h
theorem e0_eq (r_0 : Option Addr) (R : Ending → Mem → Prop) (m : Mem) : e0 r_0 R m = acpt P od (panicR R) (e0A R) (bodyQ P fn R) (argE (#[.pointer r_0] : Array Value).toList) m := by kernel_rfl
theorem ok (r_0 : Option Addr) (R : Ending → Mem → Prop) (m : Mem) (h : e0 r_0 R m) : HC P id #[.pointer r_0] m R := by
  refine HC_of (fn := fn) (c := body) (od := od) (tb := tb) Go.Proofs.Tryd.func29 (by kernel_rfl) (by kernel_rfl) follows (by kernel_rfl) (of_decide_eq_true (by kernel_rfl)) ?_
  have he : (e0A R).erase = body := by kernel_rfl
  rw [← he]
  refine acpt_sound (P := P) (e0A R) _ _ _ ⟨⟨⟨⟨⟨(fun ρ m h => k1_ok  R ρ m h), True.intro⟩, True.intro⟩, True.intro⟩, True.intro⟩, True.intro⟩ ?_
  exact Eq.mp (e0_eq r_0 R m) h
end class_reader_class

/-! ### eyot/eyotref8.sign -/
namespace eyotref8_sign
noncomputable def fn : Func := Go.Proofs.Tryd.f30
noncomputable def body : Code := fn.body.getD .skip
def od : Nat → Ord := fun | 11 => ordL [(0, 3), (1, 3), (2, 3), (3, 3), (6, 3), (7, 3), (8, 3), (9, 3), (13, 3), (14, 3), (4, 2), (5, 3), (10, 2), (11, 3), (12, 3), (15, 3), (16, 3)] .done | _ => .done
def tb : Nat → Tab := fun | 11 => (1040, [0, 0, 2, 7, 15, 31, 0, 0, 128, 448, 991, 2047, 4095, 0, 8192, 8191, 65535], [(0, 1, 76), (0, 2, 77), (2, 75557863725914323419136, 78), (5, 188894659314785808547840, 79), (8, 302231454903657293676544, 80), (16, 604462909807314587353088, 81), (0, 1, 82), (0, 2, 83), (128, 4835703278458516698824704, 84), (320, 12089258196146291747061760, 85), (528, 19342813113834066795298816, 86), (1056, 39894552047282762765303808, 87), (2048, 77371252455336267181195264, 88), (0, 2, 89), (8192, 309485009821345068724781056, 90), (8191, 154742504910672534362390528, 5), (65535, 618970019642690137449562112, 6)]) | _ => (0, [], [])
def k3E (K : ByteArray → Int → Bool → Mem → Prop) : Env → Mem → Prop := fun ρ m => UnStr (ρ 0) fun x0 => UnI (ρ 1) .i64 fun x1 => UnB (ρ 74) fun x74 => K x0 x1 x74 m
def k3  (x0 : ByteArray) (x1 : Int) (x74 : Bool) (R : Ending → Mem → Prop) (m : Mem) : Prop :=
  Br x74 (
    Sub m fun r1 =>
    IxB x0 (IntKind.i64.wrap (x1 + 2)) fun x78 =>
    IxB x0 (IntKind.i64.wrap (x1 + 3)) fun x84 =>
    HC P eyotref8_digit.id #[.int .u8 x78] m (Cont (fun v m2 =>
        UnI v .i64 fun x79 =>
        HC P eyotref8_digit.id #[.int .u8 x84] m2 (Cont (fun v m3 =>
            UnI v .i64 fun x85 =>
            R (.returned (.tuple #[.int .u8 (IntKind.u8.wrap (IntKind.i64.wrap ((IntKind.i64.wrap (x79 * 16)) + x85))), .int .i64 (IntKind.i64.wrap (x1 + 4))])) m3) (panicR R))) (panicR R))) (
    R (.returned (.tuple #[.int .u8 0, .int .i64 (-1)])) m)
noncomputable def k3A  (R : Ending → Mem → Prop) : ACode := (.code (sR (sL (sR (sR (sR (sR (sR (body)))))))))
def k2E (K : ByteArray → Int → Mem → Prop) : Env → Mem → Prop := fun ρ m => UnStr (ρ 0) fun x0 => UnI (ρ 1) .i64 fun x1 => K x0 x1 m
def k2  (x0 : ByteArray) (x1 : Int) (R : Ending → Mem → Prop) (m : Mem) : Prop :=
  Br (decide ((IntKind.i64.wrap (x1 + 3)) < (x0.size : Int))) (
    IxB x0 (IntKind.i64.wrap (x1 + 1)) fun x56 =>
    Br (x56 == 120) (
      IxB x0 (IntKind.i64.wrap (x1 + 2)) fun x63 =>
      HC P eyotref8_digit.id #[.int .u8 x63] m (Cont (fun v m1 =>
          UnI v .i64 fun x64 =>
          Br (decide (x64 ≥ 0)) (
            IxB x0 (IntKind.i64.wrap (x1 + 3)) fun x71 =>
            HC P eyotref8_digit.id #[.int .u8 x71] m1 (Cont (fun v m2 =>
                UnI v .i64 fun x72 =>
                k3  x0 x1 (decide (x72 ≥ 0)) R m2) (panicR R))) (
            k3  x0 x1 false R m1)) (panicR R))) (
      k3  x0 x1 false R m)) (
    k3  x0 x1 false R m)
noncomputable def k2A  (R : Ending → Mem → Prop) : ACode := (.seq (.seq (.code (sL (sL (sR (sR (sR (sR (sR (body))))))))) (.cut (k3E fun x0 x1 x74 m => k3  x0 x1 x74 R m) (sR (sL (sR (sR (sR (sR (sR (body)))))))))) (.code (sR (sR (sR (sR (sR (sR (body)))))))))
def k1E (K : ByteArray → Int → Bool → Mem → Prop) : Env → Mem → Prop := fun ρ m => UnStr (ρ 0) fun x0 => UnI (ρ 1) .i64 fun x1 => UnB (ρ 40) fun x40 => K x0 x1 x40 m
def k1  (x0 : ByteArray) (x1 : Int) (x40 : Bool) (R : Ending → Mem → Prop) (m : Mem) : Prop :=
  Br x40 (
    IxB x0 (IntKind.i64.wrap (x1 + 1)) fun x44 =>
    R (.returned (.tuple #[.int .u8 x44, .int .i64 (IntKind.i64.wrap (x1 + 2))])) m) (
    k2  x0 x1 R m)
noncomputable def k1A  (R : Ending → Mem → Prop) : ACode := (.code (sR (sL (sR (sR (sR (sR (body))))))))
def e0 (a0 : ByteArray) (a1 : Int) (R : Ending → Mem → Prop) (m : Mem) : Prop :=
  Br (decide (a1 ≥ (a0.size : Int))) (
    R (.returned (.tuple #[.int .u8 0, .int .i64 (-1)])) m) (
    IxB a0 a1 fun x13 =>
    Br (x13 != 92) (
      Br (decide (x13 < 33)) (
        R (.returned (.tuple #[.int .u8 0, .int .i64 (-1)])) m) (
        Br (decide (x13 > 126)) (
          R (.returned (.tuple #[.int .u8 0, .int .i64 (-1)])) m) (
          HC P eyotref8_in.id #[.string (ByteArray.mk #[92, 124, 42, 43, 63, 40, 41, 91, 93, 46, 94, 45]), .int .u8 x13] m (Cont (fun v m1 =>
              UnB v fun x24 =>
              Br x24 (
                R (.returned (.tuple #[.int .u8 0, .int .i64 (-1)])) m1) (
                R (.returned (.tuple #[.int .u8 x13, .int .i64 (IntKind.i64.wrap (a1 + 1))])) m1)) (panicR R))))) (
      Br (decide ((IntKind.i64.wrap (a1 + 1)) < (a0.size : Int))) (
        IxB a0 (IntKind.i64.wrap (a1 + 1)) fun x38 =>
        HC P eyotref8_in.id #[.string (ByteArray.mk #[92, 124, 42, 43, 63, 40, 41, 91, 93, 46, 94, 45]), .int .u8 x38] m (Cont (fun v m1 =>
            UnB v fun x39 =>
            k1  a0 a1 x39 R m1) (panicR R))) (
        k1  a0 a1 false R m)))
noncomputable def e0A (R : Ending → Mem → Prop) : ACode := (.seq (.code (sL (body))) (.seq (.code (sL (sR (body)))) (.seq (.code (sL (sR (sR (body))))) (.seq (.code (sL (sR (sR (sR (body)))))) (.seq (.seq (.code (sL (sL (sR (sR (sR (sR (body)))))))) (.cut (k1E fun x0 x1 x40 m => k1  x0 x1 x40 R m) (sR (sL (sR (sR (sR (sR (body))))))))) (.cut (k2E fun x0 x1 m => k2  x0 x1 R m) (sR (sR (sR (sR (sR (body))))))))))))
theorem k3_eq  (R : Ending → Mem → Prop) (x0 : ByteArray) (x1 : Int) (x74 : Bool) (ρ : Env) (m : Mem) : k3  x0 x1 x74 R m = acpt P od (panicR R) (k3A  R) (thenQ (acpt P od (panicR R) (.code (sR (sR (sR (sR (sR (sR (body)))))))) (bodyQ P fn R)) (bodyQ P fn R)) (upd (upd (upd ρ 74 (.bool x74)) 1 (.int .i64 x1)) 0 (.string x0)) m := by kernel_rfl
theorem k3_er  (R : Ending → Mem → Prop) : (k3A  R).erase = sR (sL (sR (sR (sR (sR (sR (body))))))) := by kernel_rfl
theorem k3_ok  (R : Ending → Mem → Prop) (ρ : Env) (m : Mem) (h : (k3E fun x0 x1 x74 m => k3  x0 x1 x74 R m) ρ m) : cpt P od (panicR R) (sR (sL (sR (sR (sR (sR (sR (body)))))))) (thenQ (acpt P od (panicR R) (.code (sR (sR (sR (sR (sR (sR (body)))))))) (bodyQ P fn R)) (bodyQ P fn R)) ρ m := by
  unfold k3E at h
  obtain ⟨x0, e0, h⟩ := h.ex
  obtain ⟨x1, e1, h⟩ := h.ex
  obtain ⟨x74, e74, h⟩ := h.ex
  rw [← upd_self e0, ← upd_self e1, ← upd_self e74]
  rw [← k3_er  R]
  refine acpt_sound (P := P) (k3A  R) _ _ _ True.intro ?_
  exact Eq.mp (k3_eq  R x0 x1 x74 ρ m) h
theorem k2_eq  (R : Ending → Mem → Prop) (x0 : ByteArray) (x1 : Int) (ρ : Env) (m : Mem) : k2  x0 x1 R m = acpt P od (panicR R) (k2A  R) (bodyQ P fn R) (upd (upd ρ 1 (.int .i64 x1)) 0 (.string x0)) m := by kernel_rfl
theorem k2_er  (R : Ending → Mem → Prop) : (k2A  R).erase = sR (sR (sR (sR (sR (body))))) := by kernel_rfl
theorem k2_ok  (R : Ending → Mem → Prop) (ρ : Env) (m : Mem) (h : (k2E fun x0 x1 m => k2  x0 x1 R m) ρ m) : cpt P od (panicR R) (sR (sR (sR (sR (sR (body)))))) (bodyQ P fn R) ρ m := by
  unfold k2E at h
  obtain ⟨x0, e0, h⟩ := h.ex
  obtain ⟨x1, e1, h⟩ := h.ex
  rw [← upd_self e0, ← upd_self e1]
  rw [← k2_er  R]
  refine acpt_sound (P := P) (k2A  R) _ _ _ ⟨True.intro, ⟨(fun ρ m h => k3_ok  R ρ m h), True.intro⟩⟩ ?_
  exact Eq.mp (k2_eq  R x0 x1 ρ m) h
theorem k1_eq  (R : Ending → Mem → Prop) (x0 : ByteArray) (x1 : Int) (x40 : Bool) (ρ : Env) (m : Mem) : k1  x0 x1 x40 R m = acpt P od (panicR R) (k1A  R) (thenQ (acpt P od (panicR R) (.cut (k2E fun x0 x1 m => k2  x0 x1 R m) (sR (sR (sR (sR (sR (body))))))) (bodyQ P fn R)) (bodyQ P fn R)) (upd (upd (upd ρ 40 (.bool x40)) 1 (.int .i64 x1)) 0 (.string x0)) m := by kernel_rfl
theorem k1_er  (R : Ending → Mem → Prop) : (k1A  R).erase = sR (sL (sR (sR (sR (sR (body)))))) := by kernel_rfl
theorem k1_ok  (R : Ending → Mem → Prop) (ρ : Env) (m : Mem) (h : (k1E fun x0 x1 x40 m => k1  x0 x1 x40 R m) ρ m) : cpt P od (panicR R) (sR (sL (sR (sR (sR (sR (body))))))) (thenQ (acpt P od (panicR R) (.cut (k2E fun x0 x1 m => k2  x0 x1 R m) (sR (sR (sR (sR (sR (body))))))) (bodyQ P fn R)) (bodyQ P fn R)) ρ m := by
  unfold k1E at h
  obtain ⟨x0, e0, h⟩ := h.ex
  obtain ⟨x1, e1, h⟩ := h.ex
  obtain ⟨x40, e40, h⟩ := h.ex
  rw [← upd_self e0, ← upd_self e1, ← upd_self e40]
  rw [← k1_er  R]
  refine acpt_sound (P := P) (k1A  R) _ _ _ True.intro ?_
  exact Eq.mp (k1_eq  R x0 x1 x40 ρ m) h
theorem e0_eq (a0 : ByteArray) (a1 : Int) (R : Ending → Mem → Prop) (m : Mem) : e0 a0 a1 R m = acpt P od (panicR R) (e0A R) (bodyQ P fn R) (argE (#[.string a0, .int .i64 a1] : Array Value).toList) m := by kernel_rfl
theorem ok (a0 : ByteArray) (a1 : Int) (R : Ending → Mem → Prop) (m : Mem) (h : e0 a0 a1 R m) : HC P id #[.string a0, .int .i64 a1] m R := by
  refine HC_of (fn := fn) (c := body) (od := od) (tb := tb) Go.Proofs.Tryd.func30 (by kernel_rfl) (by kernel_rfl) follows (by kernel_rfl) (of_decide_eq_true (by kernel_rfl)) ?_
  have he : (e0A R).erase = body := by kernel_rfl
  rw [← he]
  refine acpt_sound (P := P) (e0A R) _ _ _ ⟨⟨⟨⟨⟨(fun ρ m h => k2_ok  R ρ m h), ⟨(fun ρ m h => k1_ok  R ρ m h), True.intro⟩⟩, True.intro⟩, True.intro⟩, True.intro⟩, True.intro⟩ ?_
  exact Eq.mp (e0_eq a0 a1 R m) h
end eyotref8_sign

/-! ### eyot/class.runs -/
namespace class_runs
noncomputable def fn : Func := Go.Proofs.Tryd.f31
noncomputable def body : Code := fn.body.getD .skip
def od : Nat → Ord := fun _ => .done
def tb : Nat → Tab := fun _ => (0, [], [])
def k2E (K : Nat → Nat → Option Addr → Nat → Nat → Int → Int → Int → Bool → Mem → Prop) : Env → Mem → Prop := fun ρ m => UnPA (ρ 1) fun s_1b s_1o => UnS (ρ 3) fun out_3a out_3l out_3c => UnI (ρ 4) .i64 fun c_4 => UnI (ρ 5) .i64 fun k_5 => UnI (ρ 6) .i64 fun x6 => UnB (ρ 26) fun x26 => K s_1b s_1o out_3a out_3l out_3c c_4 k_5 x6 x26 m
def k2 (K1 : Nat → Nat → Option Addr → Nat → Nat → Int → Mem → Prop) (s_1b : Nat) (s_1o : Nat) (out_3a : Option Addr) (out_3l : Nat) (out_3c : Nat) (c_4 : Int) (k_5 : Int) (x6 : Int) (x26 : Bool) (R : Ending → Mem → Prop) (m : Mem) : Prop :=
  Br x26 (
    IxS out_3a out_3l k_5 2 fun x44b x44o =>
    0 ≤ (1 : Int) ∧ (1 : Int) < (2 : Nat) ∧ (
      St1 m x44b (x44o + (1 : Int).toNat * 1) (.int .u8 (IntKind.u8.wrap c_4)) fun m1 =>
      K1 s_1b s_1o out_3a out_3l out_3c (IntKind.i64.wrap (x6 + 1)) m1)) (
    NewC m #[.int .u8 (IntKind.u8.wrap c_4), .int .u8 (IntKind.u8.wrap c_4)] T_arr2_uint8 fun b18 m1 =>
    BiN P .append #[T_sl_arr2_uint8, T_sl_arr2_uint8] T_sl_arr2_uint8 #[false, false] #[.slice out_3a out_3l out_3c, .slice (some ⟨b18, 0, none⟩) 1 1] m1 (fun w m2 =>
      UnS w fun x19a x19l x19c =>
      K1 s_1b s_1o x19a x19l x19c (IntKind.i64.wrap (x6 + 1)) m2) (panicR R))
noncomputable def k2A (K1 : Nat → Nat → Option Addr → Nat → Nat → Int → Mem → Prop) (R : Ending → Mem → Prop) : ACode := (.code (sR (cE (sR (bB (sR (sR (bB (sL (sR (sR (lP (bB (sR (sL (sR (sR (body))))))))))))))))))
def l1E (K : Nat → Nat → Option Addr → Nat → Nat → Int → Mem → Prop) : Env → Mem → Prop := fun ρ m => UnPA (ρ 1) fun s_1b s_1o => UnS (ρ 3) fun out_3a out_3l out_3c => UnI (ρ 6) .i64 fun x6 => K s_1b s_1o out_3a out_3l out_3c x6 m
def l1B  (K1 : Nat → Nat → Option Addr → Nat → Nat → Int → Mem → Prop) (s_1b : Nat) (s_1o : Nat) (out_3a : Option Addr) (out_3l : Nat) (out_3c : Nat) (x6 : Int) (R : Ending → Mem → Prop) (m : Mem) : Prop :=
  Br (decide (x6 < 256)) (
    LdV m s_1b s_1o fun v =>
    UnI v .u64 fun x21_0 =>
    LdV m s_1b (s_1o + 1) fun v =>
    UnI v .u64 fun x21_1 =>
    LdV m s_1b (s_1o + 2) fun v =>
    UnI v .u64 fun x21_2 =>
    LdV m s_1b (s_1o + 3) fun v =>
    UnI v .u64 fun x21_3 =>
    HC P class_Has.id #[.agg #[.int .u64 x21_0, .int .u64 x21_1, .int .u64 x21_2, .int .u64 x21_3], .int .u8 (IntKind.u8.wrap x6)] m (Cont (fun v m1 =>
        UnB v fun x24 =>
        Br (!x24) (
          K1 s_1b s_1o out_3a out_3l out_3c (IntKind.i64.wrap (x6 + 1)) m1) (
          Br (decide ((IntKind.i64.wrap (((out_3l : Nat) : Int) - 1)) ≥ 0)) (
            IxS out_3a out_3l (IntKind.i64.wrap (((out_3l : Nat) : Int) - 1)) 2 fun x32b x32o =>
            0 ≤ (1 : Int) ∧ (1 : Int) < (2 : Nat) ∧ (
              LdV m1 x32b (x32o + (1 : Int).toNat * 1) fun v =>
              UnI v .u8 fun x34 =>
              k2 K1 s_1b s_1o out_3a out_3l out_3c x6 (IntKind.i64.wrap (((out_3l : Nat) : Int) - 1)) x6 ((IntKind.i64.wrap x34) == (IntKind.i64.wrap (x6 - 1))) R m1)) (
            k2 K1 s_1b s_1o out_3a out_3l out_3c x6 (IntKind.i64.wrap (((out_3l : Nat) : Int) - 1)) x6 false R m1))) (panicR R))) (
    R (.returned (.slice out_3a out_3l out_3c)) m)
def l1  (s_1b : Nat) (s_1o : Nat) (out_3a : Option Addr) (out_3l : Nat) (out_3c : Nat) (x6 : Int) (R : Ending → Mem → Prop) (m : Mem) : Prop :=
  ∃ (I : Nat → Nat → Nat → Option Addr → Nat → Nat → Int → Mem → Prop) (N : Nat), I N s_1b s_1o out_3a out_3l out_3c x6 m ∧ ∀ N s_1b s_1o out_3a out_3l out_3c x6 m, I N s_1b s_1o out_3a out_3l out_3c x6 m → l1B  (fun s_1b s_1o out_3a out_3l out_3c x6 m => ∃ N1, N1 < N ∧ I N1 s_1b s_1o out_3a out_3l out_3c x6 m) s_1b s_1o out_3a out_3l out_3c x6 R m
noncomputable def l1A  (K1 : Nat → Nat → Option Addr → Nat → Nat → Int → Mem → Prop) (R : Ending → Mem → Prop) : ACode := (.seq (.code (sL (lP (bB (sR (sL (sR (sR (body))))))))) (.seq (.code (sL (sR (lP (bB (sR (sL (sR (sR (body)))))))))) (.seq (.block 1 (.seq (.code (sL (bB (sL (sR (sR (lP (bB (sR (sL (sR (sR (body))))))))))))) (.seq (.code (sL (sR (bB (sL (sR (sR (lP (bB (sR (sL (sR (sR (body)))))))))))))) (.block 2 (.seq (.code (sL (bB (sR (sR (bB (sL (sR (sR (lP (bB (sR (sL (sR (sR (body)))))))))))))))) (.cond (.tmp 20) (.code (cT (sR (bB (sR (sR (bB (sL (sR (sR (lP (bB (sR (sL (sR (sR (body))))))))))))))))) (.seq (.code (sL (cE (sR (bB (sR (sR (bB (sL (sR (sR (lP (bB (sR (sL (sR (sR (body)))))))))))))))))) (.cut (k2E fun s_1b s_1o out_3a out_3l out_3c c_4 k_5 x6 x26 m => k2 K1 s_1b s_1o out_3a out_3l out_3c c_4 k_5 x6 x26 R m) (sR (cE (sR (bB (sR (sR (bB (sL (sR (sR (lP (bB (sR (sL (sR (sR (body))))))))))))))))))))))))) (.code (sR (sR (sR (lP (bB (sR (sL (sR (sR (body))))))))))))))
def e0 (s_0_0 : Int) (s_0_1 : Int) (s_0_2 : Int) (s_0_3 : Int) (R : Ending → Mem → Prop) (m : Mem) : Prop :=
  NewC m #[.int .u64 s_0_0, .int .u64 s_0_1, .int .u64 s_0_2, .int .u64 s_0_3] T_api_Set fun b_s_1 m1 =>
  l1  b_s_1 0 none 0 0 0 R m1
noncomputable def e0A (R : Ending → Mem → Prop) : ACode := (.seq (.code (sL (body))) (.seq (.code (sL (sR (body)))) (.seq (.seq (.code (sL (sL (sR (sR (body)))))) (.block 0 (.cut (l1E fun s_1b s_1o out_3a out_3l out_3c x6 m => l1  s_1b s_1o out_3a out_3l out_3c x6 R m) (.loop (lP (bB (sR (sL (sR (sR (body))))))))))) (.code (sR (sR (sR (body))))))))
theorem k2_eq (K1 : Nat → Nat → Option Addr → Nat → Nat → Int → Mem → Prop) (R : Ending → Mem → Prop) (s_1b : Nat) (s_1o : Nat) (out_3a : Option Addr) (out_3l : Nat) (out_3c : Nat) (c_4 : Int) (k_5 : Int) (x6 : Int) (x26 : Bool) (ρ : Env) (m : Mem) : k2 K1 s_1b s_1o out_3a out_3l out_3c c_4 k_5 x6 x26 R m = acpt P od (panicR R) (k2A K1 R) (blockQ 2 (blockQ 1 (thenQ (acpt P od (panicR R) (.code (sR (sR (sR (lP (bB (sR (sL (sR (sR (body))))))))))) (thenQ (l1E K1) (blockQ 0 (thenQ (acpt P od (panicR R) (.code (sR (sR (sR (body))))) (bodyQ P fn R)) (bodyQ P fn R))))) (thenQ (l1E K1) (blockQ 0 (thenQ (acpt P od (panicR R) (.code (sR (sR (sR (body))))) (bodyQ P fn R)) (bodyQ P fn R))))))) (upd (upd (upd (upd (upd (upd ρ 26 (.bool x26)) 6 (.int .i64 x6)) 5 (.int .i64 k_5)) 4 (.int .i64 c_4)) 3 (.slice out_3a out_3l out_3c)) 1 (.pointer (some ⟨s_1b, s_1o, none⟩))) m := by kernel_rfl
theorem k2_er (K1 : Nat → Nat → Option Addr → Nat → Nat → Int → Mem → Prop) (R : Ending → Mem → Prop) : (k2A K1 R).erase = sR (cE (sR (bB (sR (sR (bB (sL (sR (sR (lP (bB (sR (sL (sR (sR (body)))))))))))))))) := by kernel_rfl
theorem k2_ok (K1 : Nat → Nat → Option Addr → Nat → Nat → Int → Mem → Prop) (R : Ending → Mem → Prop) (ρ : Env) (m : Mem) (h : (k2E fun s_1b s_1o out_3a out_3l out_3c c_4 k_5 x6 x26 m => k2 K1 s_1b s_1o out_3a out_3l out_3c c_4 k_5 x6 x26 R m) ρ m) : cpt P od (panicR R) (sR (cE (sR (bB (sR (sR (bB (sL (sR (sR (lP (bB (sR (sL (sR (sR (body))))))))))))))))) (blockQ 2 (blockQ 1 (thenQ (acpt P od (panicR R) (.code (sR (sR (sR (lP (bB (sR (sL (sR (sR (body))))))))))) (thenQ (l1E K1) (blockQ 0 (thenQ (acpt P od (panicR R) (.code (sR (sR (sR (body))))) (bodyQ P fn R)) (bodyQ P fn R))))) (thenQ (l1E K1) (blockQ 0 (thenQ (acpt P od (panicR R) (.code (sR (sR (sR (body))))) (bodyQ P fn R)) (bodyQ P fn R))))))) ρ m := by
  unfold k2E at h
  obtain ⟨s_1b, s_1o, e1, h⟩ := h.ex
  obtain ⟨out_3a, out_3l, out_3c, e3, h⟩ := h.ex
  obtain ⟨c_4, e4, h⟩ := h.ex
  obtain ⟨k_5, e5, h⟩ := h.ex
  obtain ⟨x6, e6, h⟩ := h.ex
  obtain ⟨x26, e26, h⟩ := h.ex
  rw [← upd_self e1, ← upd_self e3, ← upd_self e4, ← upd_self e5, ← upd_self e6, ← upd_self e26]
  rw [← k2_er K1 R]
  refine acpt_sound (P := P) (k2A K1 R) _ _ _ True.intro ?_
  exact Eq.mp (k2_eq K1 R s_1b s_1o out_3a out_3l out_3c c_4 k_5 x6 x26 ρ m) h
theorem l1_eq  (K1 : Nat → Nat → Option Addr → Nat → Nat → Int → Mem → Prop) (R : Ending → Mem → Prop) (s_1b : Nat) (s_1o : Nat) (out_3a : Option Addr) (out_3l : Nat) (out_3c : Nat) (x6 : Int) (ρ : Env) (m : Mem) : l1B  K1 s_1b s_1o out_3a out_3l out_3c x6 R m = acpt P od (panicR R) (l1A  K1 R) (thenQ (l1E K1) (blockQ 0 (thenQ (acpt P od (panicR R) (.code (sR (sR (sR (body))))) (bodyQ P fn R)) (bodyQ P fn R)))) (upd (upd (upd ρ 6 (.int .i64 x6)) 3 (.slice out_3a out_3l out_3c)) 1 (.pointer (some ⟨s_1b, s_1o, none⟩))) m := by kernel_rfl
theorem l1_er  (K1 : Nat → Nat → Option Addr → Nat → Nat → Int → Mem → Prop) (R : Ending → Mem → Prop) : (l1A  K1 R).erase = lP (bB (sR (sL (sR (sR (body)))))) := by kernel_rfl
theorem l1_ok  (R : Ending → Mem → Prop) (ρ : Env) (m : Mem) (h : (l1E fun s_1b s_1o out_3a out_3l out_3c x6 m => l1  s_1b s_1o out_3a out_3l out_3c x6 R m) ρ m) : cpt P od (panicR R) (.loop (lP (bB (sR (sL (sR (sR (body)))))))) (blockQ 0 (thenQ (acpt P od (panicR R) (.code (sR (sR (sR (body))))) (bodyQ P fn R)) (bodyQ P fn R))) ρ m := by
  unfold l1E at h
  obtain ⟨s_1b, s_1o, e1, h⟩ := h.ex
  obtain ⟨out_3a, out_3l, out_3c, e3, h⟩ := h.ex
  obtain ⟨x6, e6, h⟩ := h.ex
  obtain ⟨I, N, h0, hs⟩ := h
  refine ⟨fun N => l1E (I N), N, (by show l1E (I N) ρ m; unfold l1E; rw [e1, e3, e6]; exact h0), ?_⟩
  clear h0 e1 e3 e6
  intro N ρ m h
  unfold l1E at h
  obtain ⟨s_1b, s_1o, e1, h⟩ := h.ex
  obtain ⟨out_3a, out_3l, out_3c, e3, h⟩ := h.ex
  obtain ⟨x6, e6, h⟩ := h.ex
  refine cpt_mono (P := P) (lP (bB (sR (sL (sR (sR (body))))))) (Q := thenQ (l1E fun s_1b s_1o out_3a out_3l out_3c x6 m => ∃ N1, N1 < N ∧ I N1 s_1b s_1o out_3a out_3l out_3c x6 m) (blockQ 0 (thenQ (acpt P od (panicR R) (.code (sR (sR (sR (body))))) (bodyQ P fn R)) (bodyQ P fn R)))) (fun e ρ m h => ?_) ρ m ?_
  · cases e with
    | normal =>
      have h : l1E (fun s_1b s_1o out_3a out_3l out_3c x6 m => ∃ N1, N1 < N ∧ I N1 s_1b s_1o out_3a out_3l out_3c x6 m) ρ m := h
      unfold l1E at h
      obtain ⟨s_1b, s_1o, e1, h⟩ := h.ex
      obtain ⟨out_3a, out_3l, out_3c, e3, h⟩ := h.ex
      obtain ⟨x6, e6, h⟩ := h.ex
      obtain ⟨N1, hlt, h⟩ := h
      exact ⟨N1, hlt, (by show l1E (I N1) ρ m; unfold l1E; rw [e1, e3, e6]; exact h)⟩
    | _ => exact h
  have hh := hs N s_1b s_1o out_3a out_3l out_3c x6 m h
  generalize (fun s_1b s_1o out_3a out_3l out_3c x6 m => ∃ N1, N1 < N ∧ I N1 s_1b s_1o out_3a out_3l out_3c x6 m : Nat → Nat → Option Addr → Nat → Nat → Int → Mem → Prop) = K1 at hh ⊢
  rw [← upd_self e1, ← upd_self e3, ← upd_self e6]
  rw [← l1_er  K1 R]
  refine acpt_sound (P := P) (l1A  K1 R) _ _ _ ⟨⟨⟨True.intro, ⟨⟨⟨⟨True.intro, ⟨(fun ρ m h => k2_ok K1 R ρ m h), True.intro⟩⟩, True.intro⟩, True.intro⟩, True.intro⟩⟩, True.intro⟩, True.intro⟩ ?_
  exact Eq.mp (l1_eq  K1 R s_1b s_1o out_3a out_3l out_3c x6 ρ m) hh
theorem e0_eq (s_0_0 : Int) (s_0_1 : Int) (s_0_2 : Int) (s_0_3 : Int) (R : Ending → Mem → Prop) (m : Mem) : e0 s_0_0 s_0_1 s_0_2 s_0_3 R m = acpt P od (panicR R) (e0A R) (bodyQ P fn R) (argE (#[.agg #[.int .u64 s_0_0, .int .u64 s_0_1, .int .u64 s_0_2, .int .u64 s_0_3]] : Array Value).toList) m := by kernel_rfl
theorem ok (s_0_0 : Int) (s_0_1 : Int) (s_0_2 : Int) (s_0_3 : Int) (R : Ending → Mem → Prop) (m : Mem) (h : e0 s_0_0 s_0_1 s_0_2 s_0_3 R m) : HC P id #[.agg #[.int .u64 s_0_0, .int .u64 s_0_1, .int .u64 s_0_2, .int .u64 s_0_3]] m R := by
  refine HC_of (fn := fn) (c := body) (od := od) (tb := tb) Go.Proofs.Tryd.func31 (by kernel_rfl) (by kernel_rfl) follows (by kernel_rfl) (of_decide_eq_true (by kernel_rfl)) ?_
  have he : (e0A R).erase = body := by kernel_rfl
  rw [← he]
  refine acpt_sound (P := P) (e0A R) _ _ _ ⟨⟨⟨True.intro, ⟨(fun ρ m h => l1_ok  R ρ m h), True.intro⟩⟩, True.intro⟩, True.intro⟩ ?_
  exact Eq.mp (e0_eq s_0_0 s_0_1 s_0_2 s_0_3 R m) h
end class_runs

/-! ### eyot/class.sign -/
namespace class_sign
noncomputable def fn : Func := Go.Proofs.Tryd.f32
noncomputable def body : Code := fn.body.getD .skip
def od : Nat → Ord := fun | 3 => ordL [(0, 3), (1, 3), (2, 3), (3, 3), (4, 3), (5, 3), (6, 3), (7, 3), (8, 3), (9, 3), (10, 3), (11, 3), (12, 3), (13, 3), (14, 3)] .done | _ => .done
def tb : Nat → Tab := fun | 3 => (0, [0, 1, 0, 4, 12, 31, 63, 0, 128, 0, 512, 1536, 3968, 8191, 16383], [(0, 1, 9), (1, 256, 10), (0, 1, 11), (4, 1024, 12), (8, 2048, 13), (18, 4608, 14), (32, 8192, 15), (0, 1, 16), (128, 32768, 17), (0, 1, 18), (512, 131072, 19), (1024, 262144, 20), (2304, 589824, 21), (4160, 1064960, 22), (16383, 2097152, 3)]) | _ => (0, [], [])
def k1E (K : Int → Bool → Mem → Prop) : Env → Mem → Prop := fun ρ m => UnI (ρ 0) .u8 fun c_0 => UnB (ρ 3) fun x3 => K c_0 x3 m
def k1  (c_0 : Int) (x3 : Bool) (R : Ending → Mem → Prop) (m : Mem) : Prop :=
  Br x3 (
    Sub m fun r1 =>
    SlB (ByteArray.mk #[48, 49, 50, 51, 52, 53, 54, 55, 56, 57, 97, 98, 99, 100, 101, 102]) (shrV .u8 c_0 4) (IntKind.u8.wrap ((shrV .u8 c_0 4) + 1)) fun x13 =>
    CatB (ByteArray.mk #[92, 120]) x13 (
      SlB (ByteArray.mk #[48, 49, 50, 51, 52, 53, 54, 55, 56, 57, 97, 98, 99, 100, 101, 102]) (bitsV .and .u8 c_0 15) (IntKind.u8.wrap ((bitsV .and .u8 c_0 15) + 1)) fun x20 =>
      CatB ((ByteArray.mk #[92, 120]) ++ x13) x20 (
        R (.returned (.string (((ByteArray.mk #[92, 120]) ++ x13) ++ x20))) m))) (
    HC P strings_IndexByte.id #[.string (ByteArray.mk #[92, 124, 42, 43, 63, 40, 41, 91, 93, 46, 94, 45]), .int .u8 c_0] m (Cont (fun v m1 =>
        UnI v .i64 fun x24 =>
        Br (decide (x24 ≥ 0)) (
          NewC m1 #[.int .u8 c_0] T_uint8 fun b27 m2 =>
          B2S m2 (some ⟨b27, 0, none⟩) 1 fun s28 =>
          CatB (ByteArray.mk #[92]) s28 (
            R (.returned (.string ((ByteArray.mk #[92]) ++ s28))) m2)) (
          NewC m1 #[.int .u8 c_0] T_uint8 fun b31 m2 =>
          B2S m2 (some ⟨b31, 0, none⟩) 1 fun s32 =>
          R (.returned (.string s32)) m2)) (panicR R)))
noncomputable def k1A  (R : Ending → Mem → Prop) : ACode := (.code (sR (bB (sL (sR (body))))))
def e0 (c_0 : Int) (R : Ending → Mem → Prop) (m : Mem) : Prop :=
  Br (decide (c_0 < 33)) (
    k1  c_0 true R m) (
    k1  c_0 (decide (c_0 > 126)) R m)
noncomputable def e0A (R : Ending → Mem → Prop) : ACode := (.seq (.code (sL (body))) (.seq (.block 0 (.seq (.code (sL (bB (sL (sR (body)))))) (.cut (k1E fun c_0 x3 m => k1  c_0 x3 R m) (sR (bB (sL (sR (body)))))))) (.code (sR (sR (body))))))
theorem k1_eq  (R : Ending → Mem → Prop) (c_0 : Int) (x3 : Bool) (ρ : Env) (m : Mem) : k1  c_0 x3 R m = acpt P od (panicR R) (k1A  R) (blockQ 0 (thenQ (acpt P od (panicR R) (.code (sR (sR (body)))) (bodyQ P fn R)) (bodyQ P fn R))) (upd (upd ρ 3 (.bool x3)) 0 (.int .u8 c_0)) m := by kernel_rfl
theorem k1_er  (R : Ending → Mem → Prop) : (k1A  R).erase = sR (bB (sL (sR (body)))) := by kernel_rfl
theorem k1_ok  (R : Ending → Mem → Prop) (ρ : Env) (m : Mem) (h : (k1E fun c_0 x3 m => k1  c_0 x3 R m) ρ m) : cpt P od (panicR R) (sR (bB (sL (sR (body))))) (blockQ 0 (thenQ (acpt P od (panicR R) (.code (sR (sR (body)))) (bodyQ P fn R)) (bodyQ P fn R))) ρ m := by
  unfold k1E at h
  obtain ⟨c_0, e0, h⟩ := h.ex
  obtain ⟨x3, e3, h⟩ := h.ex
  rw [← upd_self e0, ← upd_self e3]
  rw [← k1_er  R]
  refine acpt_sound (P := P) (k1A  R) _ _ _ True.intro ?_
  exact Eq.mp (k1_eq  R c_0 x3 ρ m) h
theorem e0_eq (c_0 : Int) (R : Ending → Mem → Prop) (m : Mem) : e0 c_0 R m = acpt P od (panicR R) (e0A R) (bodyQ P fn R) (argE (#[.int .u8 c_0] : Array Value).toList) m := by kernel_rfl
theorem ok (c_0 : Int) (R : Ending → Mem → Prop) (m : Mem) (h : e0 c_0 R m) : HC P id #[.int .u8 c_0] m R := by
  refine HC_of (fn := fn) (c := body) (od := od) (tb := tb) Go.Proofs.Tryd.func32 (by kernel_rfl) (by kernel_rfl) follows (by kernel_rfl) (of_decide_eq_true (by kernel_rfl)) ?_
  have he : (e0A R).erase = body := by kernel_rfl
  rw [← he]
  refine acpt_sound (P := P) (e0A R) _ _ _ ⟨⟨True.intro, ⟨(fun ρ m h => k1_ok  R ρ m h), True.intro⟩⟩, True.intro⟩ ?_
  exact Eq.mp (e0_eq c_0 R m) h
end class_sign

/-! ### eyot/class.shown -/
namespace class_shown
noncomputable def fn : Func := Go.Proofs.Tryd.f33
noncomputable def body : Code := fn.body.getD .skip
def od : Nat → Ord := fun | 5 => ordL [(0, 3), (1, 1), (3, 3), (4, 1), (2, 0), (5, 2), (6, 3), (7, 3)] .done | 6 => ordL [(0, 3), (1, 1), (4, 3), (5, 1), (2, 0), (3, 3), (6, 2), (7, 3), (8, 3)] .done | _ => .done
def tb : Nat → Tab := fun | 5 => (32, [0, 1, 3, 0, 8, 31, 63, 127], [(0, 2, 16), (1, 32768, 17), (2, 65536, 18), (0, 2, 19), (8, 262144, 20), (20, 524288, 21), (36, 1179648, 22), (127, 2097152, 3)]) | 6 => (64, [0, 1, 3, 7, 0, 16, 55, 127, 255], [(0, 2, 23), (1, 4194304, 24), (2, 8388608, 25), (4, 16777216, 26), (0, 2, 27), (16, 67108864, 28), (36, 134217728, 29), (72, 301989888, 30), (255, 536870912, 3)]) | _ => (0, [], [])
def e0 (r_0_0 : Int) (r_0_1 : Int) (R : Ending → Mem → Prop) (m : Mem) : Prop :=
  NewC m #[.int .u8 r_0_0, .int .u8 r_0_1] T_arr2_uint8 fun b_r_1 m1 =>
  0 ≤ (1 : Int) ∧ (1 : Int) < (2 : Nat) ∧ (
    LdV m1 b_r_1 (0 + (1 : Int).toNat * 1) fun v =>
    UnI v .u8 fun x4 =>
    0 ≤ (0 : Int) ∧ (0 : Int) < (2 : Nat) ∧ (
      LdV m1 b_r_1 (0 + (0 : Int).toNat * 1) fun v =>
      UnI v .u8 fun x6 =>
      Br ((IntKind.u8.wrap (x4 - x6)) == 0) (
        0 ≤ (0 : Int) ∧ (0 : Int) < (2 : Nat) ∧ (
          LdV m1 b_r_1 (0 + (0 : Int).toNat * 1) fun v =>
          UnI v .u8 fun x11 =>
          HC P class_sign.id #[.int .u8 x11] m1 (Cont (fun v m2 =>
              UnStr v fun x12 =>
              R (.returned (.string x12)) m2) (panicR R)))) (
        Br ((IntKind.u8.wrap (x4 - x6)) == 1) (
          Sub m1 fun r2 =>
          0 ≤ (0 : Int) ∧ (0 : Int) < (2 : Nat) ∧ (
            LdV r2 b_r_1 (0 + (0 : Int).toNat * 1) fun v =>
            UnI v .u8 fun x16 =>
            0 ≤ (1 : Int) ∧ (1 : Int) < (2 : Nat) ∧ (
              LdV r2 b_r_1 (0 + (1 : Int).toNat * 1) fun v =>
              UnI v .u8 fun x19 =>
              HC P class_sign.id #[.int .u8 x16] m1 (Cont (fun v m3 =>
                  UnStr v fun x17 =>
                  Lk r2 m3 fun r4 =>
                  HC P class_sign.id #[.int .u8 x19] m3 (Cont (fun v m5 =>
                      UnStr v fun x20 =>
                      CatB x17 x20 (
                        R (.returned (.string (x17 ++ x20))) m5)) (panicR R))) (panicR R))))) (
          Sub m1 fun r2 =>
          0 ≤ (0 : Int) ∧ (0 : Int) < (2 : Nat) ∧ (
            LdV r2 b_r_1 (0 + (0 : Int).toNat * 1) fun v =>
            UnI v .u8 fun x23 =>
            0 ≤ (1 : Int) ∧ (1 : Int) < (2 : Nat) ∧ (
              LdV r2 b_r_1 (0 + (1 : Int).toNat * 1) fun v =>
              UnI v .u8 fun x27 =>
              HC P class_sign.id #[.int .u8 x23] m1 (Cont (fun v m3 =>
                  UnStr v fun x24 =>
                  Lk r2 m3 fun r4 =>
                  CatB x24 (ByteArray.mk #[45]) (
                    HC P class_sign.id #[.int .u8 x27] m3 (Cont (fun v m5 =>
                        UnStr v fun x28 =>
                        CatB (x24 ++ (ByteArray.mk #[45])) x28 (
                        R (.returned (.string ((x24 ++ (ByteArray.mk #[45])) ++ x28))) m5)) (panicR R)))) (panicR R))))))))
noncomputable def e0A (R : Ending → Mem → Prop) : ACode := (.code (body))
theorem e0_eq (r_0_0 : Int) (r_0_1 : Int) (R : Ending → Mem → Prop) (m : Mem) : e0 r_0_0 r_0_1 R m = acpt P od (panicR R) (e0A R) (bodyQ P fn R) (argE (#[.agg #[.int .u8 r_0_0, .int .u8 r_0_1]] : Array Value).toList) m := by kernel_rfl
theorem ok (r_0_0 : Int) (r_0_1 : Int) (R : Ending → Mem → Prop) (m : Mem) (h : e0 r_0_0 r_0_1 R m) : HC P id #[.agg #[.int .u8 r_0_0, .int .u8 r_0_1]] m R := by
  refine HC_of (fn := fn) (c := body) (od := od) (tb := tb) Go.Proofs.Tryd.func33 (by kernel_rfl) (by kernel_rfl) follows (by kernel_rfl) (of_decide_eq_true (by kernel_rfl)) ?_
  have he : (e0A R).erase = body := by kernel_rfl
  rw [← he]
  refine acpt_sound (P := P) (e0A R) _ _ _ True.intro ?_
  exact Eq.mp (e0_eq r_0_0 r_0_1 R m) h
end class_shown

/-! ### eyot/class.with -/
namespace class_with
noncomputable def fn : Func := Go.Proofs.Tryd.f34
noncomputable def body : Code := fn.body.getD .skip
def od : Nat → Ord := fun | 4 => ordL [(0, 3), (1, 3), (2, 3), (3, 3), (4, 1), (5, 3), (6, 3), (7, 0), (8, 2), (9, 3), (10, 2)] .done | _ => .done
def tb : Nat → Tab := fun | 4 => (1280, [0, 0, 0, 4, 12, 0, 32, 96, 254, 511, 1023], [(0, 128, 12), (0, 4, 13), (0, 128, 14), (4, 8200, 15), (8, 16384, 16), (0, 128, 17), (32, 65552, 18), (64, 131072, 19), (146, 299008, 20), (511, 2056, 21), (1023, 1572864, 0)]) | _ => (0, [], [])
def l1E (K : Value → Nat → Nat → Nat → Nat → Nat → Nat → Int → Mem → Prop) : Env → Mem → Prop := fun ρ m => (fun f_2 => UnPA (ρ 3) fun a_3b a_3o => UnPA (ρ 4) fun b_4b b_4o => UnPA (ρ 6) fun x6b x6o => UnI (ρ 8) .i64 fun x8 => K f_2 a_3b a_3o b_4b b_4o x6b x6o x8 m) (ρ 2)
def l1B  (K1 : Value → Nat → Nat → Nat → Nat → Nat → Nat → Int → Mem → Prop) (f_2 : Value) (a_3b : Nat) (a_3o : Nat) (b_4b : Nat) (b_4o : Nat) (x6b : Nat) (x6o : Nat) (x8 : Int) (R : Ending → Mem → Prop) (m : Mem) : Prop :=
  Br (decide (x8 < 4)) (
    Sub m fun r1 =>
    0 ≤ (x8 : Int) ∧ (x8 : Int) < (4 : Nat) ∧ (
      LdV r1 a_3b (a_3o + (x8 : Int).toNat * 1) fun v =>
      UnI v .u64 fun x15 =>
      0 ≤ (x8 : Int) ∧ (x8 : Int) < (4 : Nat) ∧ (
        LdV m b_4b (b_4o + (x8 : Int).toNat * 1) fun v =>
        UnI v .u64 fun x18 =>
        CallV P f_2 #[.int .u64 x15, .int .u64 x18] m (Cont (fun v m2 =>
            UnI v .u64 fun x19 =>
            0 ≤ (x8 : Int) ∧ (x8 : Int) < (4 : Nat) ∧ (
              St1 m2 a_3b (a_3o + (x8 : Int).toNat * 1) (.int .u64 x19) fun m3 =>
              K1 f_2 a_3b a_3o b_4b b_4o x6b x6o (IntKind.i64.wrap (x8 + 1)) m3)) (panicR R))))) (
    LdV m a_3b a_3o fun v =>
    UnI v .u64 fun x22_0 =>
    LdV m a_3b (a_3o + 1) fun v =>
    UnI v .u64 fun x22_1 =>
    LdV m a_3b (a_3o + 2) fun v =>
    UnI v .u64 fun x22_2 =>
    LdV m a_3b (a_3o + 3) fun v =>
    UnI v .u64 fun x22_3 =>
    St1 m x6b x6o (.int .u64 x22_0) fun m1 =>
    St1 m1 x6b (x6o + 1) (.int .u64 x22_1) fun m2 =>
    St1 m2 x6b (x6o + 2) (.int .u64 x22_2) fun m3 =>
    St1 m3 x6b (x6o + 3) (.int .u64 x22_3) fun m4 =>
    LdV m4 x6b x6o fun v =>
    UnI v .u64 fun res0_0 =>
    LdV m4 x6b (x6o + 1) fun v =>
    UnI v .u64 fun res0_1 =>
    LdV m4 x6b (x6o + 2) fun v =>
    UnI v .u64 fun res0_2 =>
    LdV m4 x6b (x6o + 3) fun v =>
    UnI v .u64 fun res0_3 =>
    R (.returned (.agg #[.int .u64 res0_0, .int .u64 res0_1, .int .u64 res0_2, .int .u64 res0_3])) m4)
def l1  (f_2 : Value) (a_3b : Nat) (a_3o : Nat) (b_4b : Nat) (b_4o : Nat) (x6b : Nat) (x6o : Nat) (x8 : Int) (R : Ending → Mem → Prop) (m : Mem) : Prop :=
  ∃ (I : Nat → Value → Nat → Nat → Nat → Nat → Nat → Nat → Int → Mem → Prop) (N : Nat), I N f_2 a_3b a_3o b_4b b_4o x6b x6o x8 m ∧ ∀ N f_2 a_3b a_3o b_4b b_4o x6b x6o x8 m, I N f_2 a_3b a_3o b_4b b_4o x6b x6o x8 m → l1B  (fun f_2 a_3b a_3o b_4b b_4o x6b x6o x8 m => ∃ N1, N1 < N ∧ I N1 f_2 a_3b a_3o b_4b b_4o x6b x6o x8 m) f_2 a_3b a_3o b_4b b_4o x6b x6o x8 R m
noncomputable def l1A  (K1 : Value → Nat → Nat → Nat → Nat → Nat → Nat → Int → Mem → Prop) (R : Ending → Mem → Prop) : ACode := (.code (lP (bB (sR (sL (sR (body)))))))
def e0 (a_0_0 : Int) (a_0_1 : Int) (a_0_2 : Int) (a_0_3 : Int) (b_1_0 : Int) (b_1_1 : Int) (b_1_2 : Int) (b_1_3 : Int) (f_2 : Value) (R : Ending → Mem → Prop) (m : Mem) : Prop :=
  NewC m #[.int .u64 a_0_0, .int .u64 a_0_1, .int .u64 a_0_2, .int .u64 a_0_3] T_api_Set fun b_a_3 m1 =>
  NewC m1 #[.int .u64 b_1_0, .int .u64 b_1_1, .int .u64 b_1_2, .int .u64 b_1_3] T_api_Set fun b_4 m2 =>
  NewC m2 #[.int .u64 0, .int .u64 0, .int .u64 0, .int .u64 0] T_api_Set fun b6 m3 =>
  l1  f_2 b_a_3 0 b_4 0 b6 0 0 R m3
noncomputable def e0A (R : Ending → Mem → Prop) : ACode := (.seq (.code (sL (body))) (.seq (.seq (.code (sL (sL (sR (body))))) (.block 0 (.cut (l1E fun f_2 a_3b a_3o b_4b b_4o x6b x6o x8 m => l1  f_2 a_3b a_3o b_4b b_4o x6b x6o x8 R m) (.loop (lP (bB (sR (sL (sR (body)))))))))) (.code (sR (sR (body))))))
theorem l1_eq  (K1 : Value → Nat → Nat → Nat → Nat → Nat → Nat → Int → Mem → Prop) (R : Ending → Mem → Prop) (f_2 : Value) (a_3b : Nat) (a_3o : Nat) (b_4b : Nat) (b_4o : Nat) (x6b : Nat) (x6o : Nat) (x8 : Int) (ρ : Env) (m : Mem) : l1B  K1 f_2 a_3b a_3o b_4b b_4o x6b x6o x8 R m = acpt P od (panicR R) (l1A  K1 R) (thenQ (l1E K1) (blockQ 0 (thenQ (acpt P od (panicR R) (.code (sR (sR (body)))) (bodyQ P fn R)) (bodyQ P fn R)))) (upd (upd (upd (upd (upd ρ 8 (.int .i64 x8)) 6 (.pointer (some ⟨x6b, x6o, none⟩))) 4 (.pointer (some ⟨b_4b, b_4o, none⟩))) 3 (.pointer (some ⟨a_3b, a_3o, none⟩))) 2 (f_2)) m := by kernel_rfl
theorem l1_er  (K1 : Value → Nat → Nat → Nat → Nat → Nat → Nat → Int → Mem → Prop) (R : Ending → Mem → Prop) : (l1A  K1 R).erase = lP (bB (sR (sL (sR (body))))) := by kernel_rfl
theorem l1_ok  (R : Ending → Mem → Prop) (ρ : Env) (m : Mem) (h : (l1E fun f_2 a_3b a_3o b_4b b_4o x6b x6o x8 m => l1  f_2 a_3b a_3o b_4b b_4o x6b x6o x8 R m) ρ m) : cpt P od (panicR R) (.loop (lP (bB (sR (sL (sR (body))))))) (blockQ 0 (thenQ (acpt P od (panicR R) (.code (sR (sR (body)))) (bodyQ P fn R)) (bodyQ P fn R))) ρ m := by
  unfold l1E at h
  generalize e2 : ρ 2 = f_2 at h
  try dsimp only at h
  obtain ⟨a_3b, a_3o, e3, h⟩ := h.ex
  obtain ⟨b_4b, b_4o, e4, h⟩ := h.ex
  obtain ⟨x6b, x6o, e6, h⟩ := h.ex
  obtain ⟨x8, e8, h⟩ := h.ex
  obtain ⟨I, N, h0, hs⟩ := h
  refine ⟨fun N => l1E (I N), N, (by show l1E (I N) ρ m; unfold l1E; rw [e2, e3, e4, e6, e8]; exact h0), ?_⟩
  clear h0 e2 e3 e4 e6 e8
  intro N ρ m h
  unfold l1E at h
  generalize e2 : ρ 2 = f_2 at h
  try dsimp only at h
  obtain ⟨a_3b, a_3o, e3, h⟩ := h.ex
  obtain ⟨b_4b, b_4o, e4, h⟩ := h.ex
  obtain ⟨x6b, x6o, e6, h⟩ := h.ex
  obtain ⟨x8, e8, h⟩ := h.ex
  refine cpt_mono (P := P) (lP (bB (sR (sL (sR (body)))))) (Q := thenQ (l1E fun f_2 a_3b a_3o b_4b b_4o x6b x6o x8 m => ∃ N1, N1 < N ∧ I N1 f_2 a_3b a_3o b_4b b_4o x6b x6o x8 m) (blockQ 0 (thenQ (acpt P od (panicR R) (.code (sR (sR (body)))) (bodyQ P fn R)) (bodyQ P fn R)))) (fun e ρ m h => ?_) ρ m ?_
  · cases e with
    | normal =>
      have h : l1E (fun f_2 a_3b a_3o b_4b b_4o x6b x6o x8 m => ∃ N1, N1 < N ∧ I N1 f_2 a_3b a_3o b_4b b_4o x6b x6o x8 m) ρ m := h
      unfold l1E at h
      generalize e2 : ρ 2 = f_2 at h
      try dsimp only at h
      obtain ⟨a_3b, a_3o, e3, h⟩ := h.ex
      obtain ⟨b_4b, b_4o, e4, h⟩ := h.ex
      obtain ⟨x6b, x6o, e6, h⟩ := h.ex
      obtain ⟨x8, e8, h⟩ := h.ex
      obtain ⟨N1, hlt, h⟩ := h
      exact ⟨N1, hlt, (by show l1E (I N1) ρ m; unfold l1E; rw [e2, e3, e4, e6, e8]; exact h)⟩
    | _ => exact h
  have hh := hs N f_2 a_3b a_3o b_4b b_4o x6b x6o x8 m h
  generalize (fun f_2 a_3b a_3o b_4b b_4o x6b x6o x8 m => ∃ N1, N1 < N ∧ I N1 f_2 a_3b a_3o b_4b b_4o x6b x6o x8 m : Value → Nat → Nat → Nat → Nat → Nat → Nat → Int → Mem → Prop) = K1 at hh ⊢
  rw [← upd_self e2, ← upd_self e3, ← upd_self e4, ← upd_self e6, ← upd_self e8]
  rw [← l1_er  K1 R]
  refine acpt_sound (P := P) (l1A  K1 R) _ _ _ True.intro ?_
  exact Eq.mp (l1_eq  K1 R f_2 a_3b a_3o b_4b b_4o x6b x6o x8 ρ m) hh
theorem e0_eq (a_0_0 : Int) (a_0_1 : Int) (a_0_2 : Int) (a_0_3 : Int) (b_1_0 : Int) (b_1_1 : Int) (b_1_2 : Int) (b_1_3 : Int) (f_2 : Value) (R : Ending → Mem → Prop) (m : Mem) : e0 a_0_0 a_0_1 a_0_2 a_0_3 b_1_0 b_1_1 b_1_2 b_1_3 f_2 R m = acpt P od (panicR R) (e0A R) (bodyQ P fn R) (argE (#[.agg #[.int .u64 a_0_0, .int .u64 a_0_1, .int .u64 a_0_2, .int .u64 a_0_3], .agg #[.int .u64 b_1_0, .int .u64 b_1_1, .int .u64 b_1_2, .int .u64 b_1_3], f_2] : Array Value).toList) m := by kernel_rfl
theorem ok (a_0_0 : Int) (a_0_1 : Int) (a_0_2 : Int) (a_0_3 : Int) (b_1_0 : Int) (b_1_1 : Int) (b_1_2 : Int) (b_1_3 : Int) (f_2 : Value) (R : Ending → Mem → Prop) (m : Mem) (h : e0 a_0_0 a_0_1 a_0_2 a_0_3 b_1_0 b_1_1 b_1_2 b_1_3 f_2 R m) : HC P id #[.agg #[.int .u64 a_0_0, .int .u64 a_0_1, .int .u64 a_0_2, .int .u64 a_0_3], .agg #[.int .u64 b_1_0, .int .u64 b_1_1, .int .u64 b_1_2, .int .u64 b_1_3], f_2] m R := by
  refine HC_of (fn := fn) (c := body) (od := od) (tb := tb) Go.Proofs.Tryd.func34 (by kernel_rfl) (by kernel_rfl) follows (by kernel_rfl) (of_decide_eq_true (by kernel_rfl)) ?_
  have he : (e0A R).erase = body := by kernel_rfl
  rw [← he]
  refine acpt_sound (P := P) (e0A R) _ _ _ ⟨⟨True.intro, ⟨(fun ρ m h => l1_ok  R ρ m h), True.intro⟩⟩, True.intro⟩ ?_
  exact Eq.mp (e0_eq a_0_0 a_0_1 a_0_2 a_0_3 b_1_0 b_1_1 b_1_2 b_1_3 f_2 R m) h
end class_with

/-! ### eyot/class.Or$1 -/
namespace class_Or_1
noncomputable def fn : Func := Go.Proofs.Tryd.f35
noncomputable def body : Code := fn.body.getD .skip
def od : Nat → Ord := fun _ => .done
def tb : Nat → Tab := fun _ => (0, [], [])
def e0 (x_0 : Int) (y_1 : Int) (R : Ending → Mem → Prop) (m : Mem) : Prop :=
  R (.returned (.int .u64 (bitsV .or .u64 x_0 y_1))) m
noncomputable def e0A (R : Ending → Mem → Prop) : ACode := (.code (body))
theorem e0_eq (x_0 : Int) (y_1 : Int) (R : Ending → Mem → Prop) (m : Mem) : e0 x_0 y_1 R m = acpt P od (panicR R) (e0A R) (bodyQ P fn R) (argE (#[.int .u64 x_0, .int .u64 y_1] : Array Value).toList) m := by kernel_rfl
theorem ok (x_0 : Int) (y_1 : Int) (R : Ending → Mem → Prop) (m : Mem) (h : e0 x_0 y_1 R m) : HC P id #[.int .u64 x_0, .int .u64 y_1] m R := by
  refine HC_of (fn := fn) (c := body) (od := od) (tb := tb) Go.Proofs.Tryd.func35 (by kernel_rfl) (by kernel_rfl) follows (by kernel_rfl) (of_decide_eq_true (by kernel_rfl)) ?_
  have he : (e0A R).erase = body := by kernel_rfl
  rw [← he]
  refine acpt_sound (P := P) (e0A R) _ _ _ True.intro ?_
  exact Eq.mp (e0_eq x_0 y_1 R m) h
end class_Or_1

/-! ### eyot/class.Not$1 -/
namespace class_Not_1
noncomputable def fn : Func := Go.Proofs.Tryd.f36
noncomputable def body : Code := fn.body.getD .skip
def od : Nat → Ord := fun _ => .done
def tb : Nat → Tab := fun _ => (0, [], [])
def e0 (x_0 : Int) (a1 : Int) (R : Ending → Mem → Prop) (m : Mem) : Prop :=
  R (.returned (.int .u64 (bitsV .xor .u64 18446744073709551615 x_0))) m
noncomputable def e0A (R : Ending → Mem → Prop) : ACode := (.code (body))
theorem e0_eq (x_0 : Int) (a1 : Int) (R : Ending → Mem → Prop) (m : Mem) : e0 x_0 a1 R m = acpt P od (panicR R) (e0A R) (bodyQ P fn R) (argE (#[.int .u64 x_0, .int .u64 a1] : Array Value).toList) m := by kernel_rfl
theorem ok (x_0 : Int) (a1 : Int) (R : Ending → Mem → Prop) (m : Mem) (h : e0 x_0 a1 R m) : HC P id #[.int .u64 x_0, .int .u64 a1] m R := by
  refine HC_of (fn := fn) (c := body) (od := od) (tb := tb) Go.Proofs.Tryd.func36 (by kernel_rfl) (by kernel_rfl) follows (by kernel_rfl) (of_decide_eq_true (by kernel_rfl)) ?_
  have he : (e0A R).erase = body := by kernel_rfl
  rw [← he]
  refine acpt_sound (P := P) (e0A R) _ _ _ True.intro ?_
  exact Eq.mp (e0_eq x_0 a1 R m) h
end class_Not_1

/-! ### eyot/eyotref8.list -/
namespace eyotref8_list
noncomputable def fn : Func := Go.Proofs.Tryd.f37
noncomputable def body : Code := fn.body.getD .skip
def od : Nat → Ord := fun _ => .done
def tb : Nat → Tab := fun _ => (0, [], [])
def l1E (K : Nat → Nat → Option Addr → Nat → Nat → Int → Mem → Prop) : Env → Mem → Prop := fun ρ m => UnPA (ρ 1) fun s_1b s_1o => UnS (ρ 3) fun l_3a l_3l l_3c => UnI (ρ 4) .i64 fun b_4 => K s_1b s_1o l_3a l_3l l_3c b_4 m
def l1B  (K1 : Nat → Nat → Option Addr → Nat → Nat → Int → Mem → Prop) (s_1b : Nat) (s_1o : Nat) (l_3a : Option Addr) (l_3l : Nat) (l_3c : Nat) (b_4 : Int) (R : Ending → Mem → Prop) (m : Mem) : Prop :=
  Br (decide (b_4 < 256)) (
    LdV m s_1b s_1o fun v =>
    UnI v .u64 fun x9_0 =>
    LdV m s_1b (s_1o + 1) fun v =>
    UnI v .u64 fun x9_1 =>
    LdV m s_1b (s_1o + 2) fun v =>
    UnI v .u64 fun x9_2 =>
    LdV m s_1b (s_1o + 3) fun v =>
    UnI v .u64 fun x9_3 =>
    HC P eyotref8_Has.id #[.agg #[.int .u64 x9_0, .int .u64 x9_1, .int .u64 x9_2, .int .u64 x9_3], .int .u8 (IntKind.u8.wrap b_4)] m (Cont (fun v m1 =>
        UnB v fun x12 =>
        Br x12 (
          NewC m1 #[.int .u8 (IntKind.u8.wrap b_4)] T_uint8 fun b16 m2 =>
          BiN P .append #[T_sl_uint8, T_sl_uint8] T_sl_uint8 #[false, false] #[.slice l_3a l_3l l_3c, .slice (some ⟨b16, 0, none⟩) 1 1] m2 (fun w m3 =>
            UnS w fun x17a x17l x17c =>
            K1 s_1b s_1o x17a x17l x17c (IntKind.i64.wrap (b_4 + 1)) m3) (panicR R)) (
          K1 s_1b s_1o l_3a l_3l l_3c (IntKind.i64.wrap (b_4 + 1)) m1)) (panicR R))) (
    R (.returned (.slice l_3a l_3l l_3c)) m)
def l1  (s_1b : Nat) (s_1o : Nat) (l_3a : Option Addr) (l_3l : Nat) (l_3c : Nat) (b_4 : Int) (R : Ending → Mem → Prop) (m : Mem) : Prop :=
  ∃ (I : Nat → Nat → Nat → Option Addr → Nat → Nat → Int → Mem → Prop) (N : Nat), I N s_1b s_1o l_3a l_3l l_3c b_4 m ∧ ∀ N s_1b s_1o l_3a l_3l l_3c b_4 m, I N s_1b s_1o l_3a l_3l l_3c b_4 m → l1B  (fun s_1b s_1o l_3a l_3l l_3c b_4 m => ∃ N1, N1 < N ∧ I N1 s_1b s_1o l_3a l_3l l_3c b_4 m) s_1b s_1o l_3a l_3l l_3c b_4 R m
noncomputable def l1A  (K1 : Nat → Nat → Option Addr → Nat → Nat → Int → Mem → Prop) (R : Ending → Mem → Prop) : ACode := (.code (lP (bB (sR (sL (sR (sR (body))))))))
def e0 (s_0_0 : Int) (s_0_1 : Int) (s_0_2 : Int) (s_0_3 : Int) (R : Ending → Mem → Prop) (m : Mem) : Prop :=
  NewC m #[.int .u64 s_0_0, .int .u64 s_0_1, .int .u64 s_0_2, .int .u64 s_0_3] T_api_Set fun b_s_1 m1 =>
  l1  b_s_1 0 none 0 0 0 R m1
noncomputable def e0A (R : Ending → Mem → Prop) : ACode := (.seq (.code (sL (body))) (.seq (.code (sL (sR (body)))) (.seq (.seq (.code (sL (sL (sR (sR (body)))))) (.block 0 (.cut (l1E fun s_1b s_1o l_3a l_3l l_3c b_4 m => l1  s_1b s_1o l_3a l_3l l_3c b_4 R m) (.loop (lP (bB (sR (sL (sR (sR (body))))))))))) (.code (sR (sR (sR (body))))))))
theorem l1_eq  (K1 : Nat → Nat → Option Addr → Nat → Nat → Int → Mem → Prop) (R : Ending → Mem → Prop) (s_1b : Nat) (s_1o : Nat) (l_3a : Option Addr) (l_3l : Nat) (l_3c : Nat) (b_4 : Int) (ρ : Env) (m : Mem) : l1B  K1 s_1b s_1o l_3a l_3l l_3c b_4 R m = acpt P od (panicR R) (l1A  K1 R) (thenQ (l1E K1) (blockQ 0 (thenQ (acpt P od (panicR R) (.code (sR (sR (sR (body))))) (bodyQ P fn R)) (bodyQ P fn R)))) (upd (upd (upd ρ 4 (.int .i64 b_4)) 3 (.slice l_3a l_3l l_3c)) 1 (.pointer (some ⟨s_1b, s_1o, none⟩))) m := by kernel_rfl
theorem l1_er  (K1 : Nat → Nat → Option Addr → Nat → Nat → Int → Mem → Prop) (R : Ending → Mem → Prop) : (l1A  K1 R).erase = lP (bB (sR (sL (sR (sR (body)))))) := by kernel_rfl
theorem l1_ok  (R : Ending → Mem → Prop) (ρ : Env) (m : Mem) (h : (l1E fun s_1b s_1o l_3a l_3l l_3c b_4 m => l1  s_1b s_1o l_3a l_3l l_3c b_4 R m) ρ m) : cpt P od (panicR R) (.loop (lP (bB (sR (sL (sR (sR (body)))))))) (blockQ 0 (thenQ (acpt P od (panicR R) (.code (sR (sR (sR (body))))) (bodyQ P fn R)) (bodyQ P fn R))) ρ m := by
  unfold l1E at h
  obtain ⟨s_1b, s_1o, e1, h⟩ := h.ex
  obtain ⟨l_3a, l_3l, l_3c, e3, h⟩ := h.ex
  obtain ⟨b_4, e4, h⟩ := h.ex
  obtain ⟨I, N, h0, hs⟩ := h
  refine ⟨fun N => l1E (I N), N, (by show l1E (I N) ρ m; unfold l1E; rw [e1, e3, e4]; exact h0), ?_⟩
  clear h0 e1 e3 e4
  intro N ρ m h
  unfold l1E at h
  obtain ⟨s_1b, s_1o, e1, h⟩ := h.ex
  obtain ⟨l_3a, l_3l, l_3c, e3, h⟩ := h.ex
  obtain ⟨b_4, e4, h⟩ := h.ex
  refine cpt_mono (P := P) (lP (bB (sR (sL (sR (sR (body))))))) (Q := thenQ (l1E fun s_1b s_1o l_3a l_3l l_3c b_4 m => ∃ N1, N1 < N ∧ I N1 s_1b s_1o l_3a l_3l l_3c b_4 m) (blockQ 0 (thenQ (acpt P od (panicR R) (.code (sR (sR (sR (body))))) (bodyQ P fn R)) (bodyQ P fn R)))) (fun e ρ m h => ?_) ρ m ?_
  · cases e with
    | normal =>
      have h : l1E (fun s_1b s_1o l_3a l_3l l_3c b_4 m => ∃ N1, N1 < N ∧ I N1 s_1b s_1o l_3a l_3l l_3c b_4 m) ρ m := h
      unfold l1E at h
      obtain ⟨s_1b, s_1o, e1, h⟩ := h.ex
      obtain ⟨l_3a, l_3l, l_3c, e3, h⟩ := h.ex
      obtain ⟨b_4, e4, h⟩ := h.ex
      obtain ⟨N1, hlt, h⟩ := h
      exact ⟨N1, hlt, (by show l1E (I N1) ρ m; unfold l1E; rw [e1, e3, e4]; exact h)⟩
    | _ => exact h
  have hh := hs N s_1b s_1o l_3a l_3l l_3c b_4 m h
  generalize (fun s_1b s_1o l_3a l_3l l_3c b_4 m => ∃ N1, N1 < N ∧ I N1 s_1b s_1o l_3a l_3l l_3c b_4 m : Nat → Nat → Option Addr → Nat → Nat → Int → Mem → Prop) = K1 at hh ⊢
  rw [← upd_self e1, ← upd_self e3, ← upd_self e4]
  rw [← l1_er  K1 R]
  refine acpt_sound (P := P) (l1A  K1 R) _ _ _ True.intro ?_
  exact Eq.mp (l1_eq  K1 R s_1b s_1o l_3a l_3l l_3c b_4 ρ m) hh
theorem e0_eq (s_0_0 : Int) (s_0_1 : Int) (s_0_2 : Int) (s_0_3 : Int) (R : Ending → Mem → Prop) (m : Mem) : e0 s_0_0 s_0_1 s_0_2 s_0_3 R m = acpt P od (panicR R) (e0A R) (bodyQ P fn R) (argE (#[.agg #[.int .u64 s_0_0, .int .u64 s_0_1, .int .u64 s_0_2, .int .u64 s_0_3]] : Array Value).toList) m := by kernel_rfl
theorem ok (s_0_0 : Int) (s_0_1 : Int) (s_0_2 : Int) (s_0_3 : Int) (R : Ending → Mem → Prop) (m : Mem) (h : e0 s_0_0 s_0_1 s_0_2 s_0_3 R m) : HC P id #[.agg #[.int .u64 s_0_0, .int .u64 s_0_1, .int .u64 s_0_2, .int .u64 s_0_3]] m R := by
  refine HC_of (fn := fn) (c := body) (od := od) (tb := tb) Go.Proofs.Tryd.func37 (by kernel_rfl) (by kernel_rfl) follows (by kernel_rfl) (of_decide_eq_true (by kernel_rfl)) ?_
  have he : (e0A R).erase = body := by kernel_rfl
  rw [← he]
  refine acpt_sound (P := P) (e0A R) _ _ _ ⟨⟨⟨True.intro, ⟨(fun ρ m h => l1_ok  R ρ m h), True.intro⟩⟩, True.intro⟩, True.intro⟩ ?_
  exact Eq.mp (e0_eq s_0_0 s_0_1 s_0_2 s_0_3 R m) h
end eyotref8_list

/-! ### eyot/eyotref8.shown -/
namespace eyotref8_shown
noncomputable def fn : Func := Go.Proofs.Tryd.f38
noncomputable def body : Code := fn.body.getD .skip
def od : Nat → Ord := fun | 5 => ordL [(0, 3), (1, 3), (2, 3), (3, 3), (4, 3), (5, 3), (6, 2), (7, 2), (8, 3)] .done | _ => .done
def tb : Nat → Tab := fun | 5 => (192, [0, 1, 3, 0, 8, 24, 63, 127, 255], [(0, 1, 18), (1, 131072, 19), (2, 262144, 20), (0, 1, 21), (8, 1048576, 22), (16, 2097152, 23), (36, 4718592, 24), (64, 8388608, 25), (255, 16777216, 3)]) | _ => (0, [], [])
def k2E (K : Int → Mem → Prop) : Env → Mem → Prop := fun ρ m => UnI (ρ 0) .u8 fun c_0 => K c_0 m
def k2  (c_0 : Int) (R : Ending → Mem → Prop) (m : Mem) : Prop :=
  Sub m fun r1 =>
  IxB (ByteArray.mk #[48, 49, 50, 51, 52, 53, 54, 55, 56, 57, 97, 98, 99, 100, 101, 102]) (IntKind.u8.wrap (Int.tdiv c_0 16)) fun x19 =>
  IxB (ByteArray.mk #[48, 49, 50, 51, 52, 53, 54, 55, 56, 57, 97, 98, 99, 100, 101, 102]) (Int.tmod c_0 16) fun x22 =>
  NewC m #[.int .u8 92, .int .u8 120, .int .u8 x19, .int .u8 x22] T_uint8 fun b23 m2 =>
  B2S m2 (some ⟨b23, 0, none⟩) 4 fun s24 =>
  R (.returned (.string s24)) m2
noncomputable def k2A  (R : Ending → Mem → Prop) : ACode := (.code (sR (sR (sR (body)))))
def k1E (K : Int → Bool → Mem → Prop) : Env → Mem → Prop := fun ρ m => UnI (ρ 0) .u8 fun c_0 => UnB (ρ 13) fun x13 => K c_0 x13 m
def k1  (c_0 : Int) (x13 : Bool) (R : Ending → Mem → Prop) (m : Mem) : Prop :=
  Br x13 (
    NewC m #[.int .u8 c_0] T_uint8 fun b15 m1 =>
    B2S m1 (some ⟨b15, 0, none⟩) 1 fun s16 =>
    R (.returned (.string s16)) m1) (
    k2  c_0 R m)
noncomputable def k1A  (R : Ending → Mem → Prop) : ACode := (.code (sR (sL (sR (sR (body))))))
def e0 (c_0 : Int) (R : Ending → Mem → Prop) (m : Mem) : Prop :=
  HC P eyotref8_in.id #[.string (ByteArray.mk #[92, 124, 42, 43, 63, 40, 41, 91, 93, 46, 94, 45]), .int .u8 c_0] m (Cont (fun v m1 =>
      UnB v fun x4 =>
      Br x4 (
        NewC m1 #[.int .u8 92, .int .u8 c_0] T_uint8 fun b6 m2 =>
        B2S m2 (some ⟨b6, 0, none⟩) 2 fun s7 =>
        R (.returned (.string s7)) m2) (
        Br (decide (c_0 ≥ 33)) (
          k1  c_0 (decide (c_0 ≤ 126)) R m1) (
          k1  c_0 false R m1))) (panicR R))
noncomputable def e0A (R : Ending → Mem → Prop) : ACode := (.seq (.code (sL (body))) (.seq (.code (sL (sR (body)))) (.seq (.seq (.code (sL (sL (sR (sR (body)))))) (.cut (k1E fun c_0 x13 m => k1  c_0 x13 R m) (sR (sL (sR (sR (body))))))) (.cut (k2E fun c_0 m => k2  c_0 R m) (sR (sR (sR (body))))))))
theorem k2_eq  (R : Ending → Mem → Prop) (c_0 : Int) (ρ : Env) (m : Mem) : k2  c_0 R m = acpt P od (panicR R) (k2A  R) (bodyQ P fn R) (upd ρ 0 (.int .u8 c_0)) m := by kernel_rfl
theorem k2_er  (R : Ending → Mem → Prop) : (k2A  R).erase = sR (sR (sR (body))) := by kernel_rfl
theorem k2_ok  (R : Ending → Mem → Prop) (ρ : Env) (m : Mem) (h : (k2E fun c_0 m => k2  c_0 R m) ρ m) : cpt P od (panicR R) (sR (sR (sR (body)))) (bodyQ P fn R) ρ m := by
  unfold k2E at h
  obtain ⟨c_0, e0, h⟩ := h.ex
  rw [← upd_self e0]
  rw [← k2_er  R]
  refine acpt_sound (P := P) (k2A  R) _ _ _ True.intro ?_
  exact Eq.mp (k2_eq  R c_0 ρ m) h
theorem k1_eq  (R : Ending → Mem → Prop) (c_0 : Int) (x13 : Bool) (ρ : Env) (m : Mem) : k1  c_0 x13 R m = acpt P od (panicR R) (k1A  R) (thenQ (acpt P od (panicR R) (.cut (k2E fun c_0 m => k2  c_0 R m) (sR (sR (sR (body))))) (bodyQ P fn R)) (bodyQ P fn R)) (upd (upd ρ 13 (.bool x13)) 0 (.int .u8 c_0)) m := by kernel_rfl
theorem k1_er  (R : Ending → Mem → Prop) : (k1A  R).erase = sR (sL (sR (sR (body)))) := by kernel_rfl
theorem k1_ok  (R : Ending → Mem → Prop) (ρ : Env) (m : Mem) (h : (k1E fun c_0 x13 m => k1  c_0 x13 R m) ρ m) : cpt P od (panicR R) (sR (sL (sR (sR (body))))) (thenQ (acpt P od (panicR R) (.cut (k2E fun c_0 m => k2  c_0 R m) (sR (sR (sR (body))))) (bodyQ P fn R)) (bodyQ P fn R)) ρ m := by
  unfold k1E at h
  obtain ⟨c_0, e0, h⟩ := h.ex
  obtain ⟨x13, e13, h⟩ := h.ex
  rw [← upd_self e0, ← upd_self e13]
  rw [← k1_er  R]
  refine acpt_sound (P := P) (k1A  R) _ _ _ True.intro ?_
  exact Eq.mp (k1_eq  R c_0 x13 ρ m) h
theorem e0_eq (c_0 : Int) (R : Ending → Mem → Prop) (m : Mem) : e0 c_0 R m = acpt P od (panicR R) (e0A R) (bodyQ P fn R) (argE (#[.int .u8 c_0] : Array Value).toList) m := by kernel_rfl
theorem ok (c_0 : Int) (R : Ending → Mem → Prop) (m : Mem) (h : e0 c_0 R m) : HC P id #[.int .u8 c_0] m R := by
  refine HC_of (fn := fn) (c := body) (od := od) (tb := tb) Go.Proofs.Tryd.func38 (by kernel_rfl) (by kernel_rfl) follows (by kernel_rfl) (of_decide_eq_true (by kernel_rfl)) ?_
  have he : (e0A R).erase = body := by kernel_rfl
  rw [← he]
  refine acpt_sound (P := P) (e0A R) _ _ _ ⟨⟨⟨(fun ρ m h => k2_ok  R ρ m h), ⟨(fun ρ m h => k1_ok  R ρ m h), True.intro⟩⟩, True.intro⟩, True.intro⟩ ?_
  exact Eq.mp (e0_eq c_0 R m) h
end eyotref8_shown

/-! ### math/bits.TrailingZeros64 -/
namespace math_bits_TrailingZeros64
noncomputable def fn : Func := Go.Proofs.Tryd.f39
noncomputable def body : Code := fn.body.getD .skip
def od : Nat → Ord := fun _ => .done
def tb : Nat → Tab := fun _ => (0, [], [])
def e0 (x_0 : Int) (R : Ending → Mem → Prop) (m : Mem) : Prop :=
  Br (x_0 == 0) (
    R (.returned (.int .i64 64)) m) (
    0 ≤ (shrV .u64 (IntKind.u64.wrap ((bitsV .and .u64 x_0 (IntKind.u64.wrap (0 - x_0))) * 285870213051353865)) 58 : Int) ∧ (shrV .u64 (IntKind.u64.wrap ((bitsV .and .u64 x_0 (IntKind.u64.wrap (0 - x_0))) * 285870213051353865)) 58 : Int) < (64 : Nat) ∧ (
      LdV m 0 (0 + (shrV .u64 (IntKind.u64.wrap ((bitsV .and .u64 x_0 (IntKind.u64.wrap (0 - x_0))) * 285870213051353865)) 58 : Int).toNat * 1) fun v =>
      UnI v .u8 fun x12 =>
      R (.returned (.int .i64 (IntKind.i64.wrap x12))) m))
noncomputable def e0A (R : Ending → Mem → Prop) : ACode := (.code (body))
theorem e0_eq (x_0 : Int) (R : Ending → Mem → Prop) (m : Mem) : e0 x_0 R m = acpt P od (panicR R) (e0A R) (bodyQ P fn R) (argE (#[.int .u64 x_0] : Array Value).toList) m := by kernel_rfl
theorem ok (x_0 : Int) (R : Ending → Mem → Prop) (m : Mem) (h : e0 x_0 R m) : HC P id #[.int .u64 x_0] m R := by
  refine HC_of (fn := fn) (c := body) (od := od) (tb := tb) Go.Proofs.Tryd.func39 (by kernel_rfl) (by kernel_rfl) follows (by kernel_rfl) (of_decide_eq_true (by kernel_rfl)) ?_
  have he : (e0A R).erase = body := by kernel_rfl
  rw [← he]
  refine acpt_sound (P := P) (e0A R) _ _ _ True.intro ?_
  exact Eq.mp (e0_eq x_0 R m) h
end math_bits_TrailingZeros64

/-! ### (*eyot/class.reader).next -/
namespace class_reader_next
noncomputable def fn : Func := Go.Proofs.Tryd.f41
noncomputable def body : Code := fn.body.getD .skip
def od : Nat → Ord := fun | 1 => ordL [(0, 3), (1, 3), (2, 3), (3, 1), (4, 3), (5, 3), (6, 3), (7, 0), (8, 3), (9, 3)] .done | 2 => ordL [(0, 3), (1, 3), (2, 3), (3, 1), (4, 3), (5, 3), (6, 3), (7, 0), (8, 3), (9, 3)] .done | _ => .done
def tb : Nat → Tab := fun | 1 => (0, [0, 1, 3, 7, 0, 16, 48, 112, 240, 511], [(0, 1, 4), (1, 8, 5), (2, 16, 6), (4, 32, 7), (0, 1, 8), (16, 128, 9), (32, 256, 10), (64, 512, 11), (128, 1024, 12), (264, 2112, 13)]) | 2 => (0, [0, 1, 3, 7, 0, 16, 48, 112, 255, 511], [(0, 1, 14), (1, 8192, 15), (2, 16384, 16), (4, 32768, 17), (0, 1, 18), (16, 131072, 19), (32, 262144, 20), (64, 524288, 21), (136, 1114112, 22), (511, 2097152, 3)]) | _ => (0, [], [])
def e0 (r_0 : Option Addr) (R : Ending → Mem → Prop) (m : Mem) : Prop :=
  Sub m fun r1 =>
  NilC r_0 (fun x4b x4o =>
    LdV r1 x4b (x4o + 1) fun v =>
    UnI v .i64 fun x6 =>
    NilC r_0 (fun x8b x8o =>
      LdV m x8b x8o fun v =>
      UnStr v fun x10 =>
      Br (decide (x6 < (x10.size : Int))) (
        Sub m fun r2 =>
        NilC r_0 (fun x14b x14o =>
          LdV r2 x14b x14o fun v =>
          UnStr v fun x16 =>
          NilC r_0 (fun x18b x18o =>
            LdV m x18b (x18o + 1) fun v =>
            UnI v .i64 fun x20 =>
            IxB x16 x20 fun x21 =>
            R (.returned (.int .u8 x21)) m) (False)) (False)) (
        R (.returned (.int .u8 0)) m)) (False)) (False)
noncomputable def e0A (R : Ending → Mem → Prop) : ACode := (.code (body))
theorem e0_eq (r_0 : Option Addr) (R : Ending → Mem → Prop) (m : Mem) : e0 r_0 R m = acpt P od (panicR R) (e0A R) (bodyQ P fn R) (argE (#[.pointer r_0] : Array Value).toList) m := by kernel_rfl
theorem ok (r_0 : Option Addr) (R : Ending → Mem → Prop) (m : Mem) (h : e0 r_0 R m) : HC P id #[.pointer r_0] m R := by
  refine HC_of (fn := fn) (c := body) (od := od) (tb := tb) Go.Proofs.Tryd.func41 (by kernel_rfl) (by kernel_rfl) follows (by kernel_rfl) (of_decide_eq_true (by kernel_rfl)) ?_
  have he : (e0A R).erase = body := by kernel_rfl
  rw [← he]
  refine acpt_sound (P := P) (e0A R) _ _ _ True.intro ?_
  exact Eq.mp (e0_eq r_0 R m) h
end class_reader_next

/-! ### (*eyot/class.reader).take -/
namespace class_reader_take
noncomputable def fn : Func := Go.Proofs.Tryd.f42
noncomputable def body : Code := fn.body.getD .skip
def od : Nat → Ord := fun | 1 => ordL [(0, 3), (1, 3), (2, 3), (3, 1), (4, 3), (5, 3), (6, 3), (7, 0), (8, 3), (9, 3)] .done | 4 => ordL [(0, 3), (1, 3), (2, 3), (3, 1), (4, 3), (5, 3), (6, 3), (7, 0), (8, 3), (9, 3), (10, 3)] .done | _ => .done
def tb : Nat → Tab := fun | 1 => (0, [0, 1, 3, 7, 0, 16, 48, 112, 240, 511], [(0, 1, 4), (1, 8, 5), (2, 16, 6), (4, 32, 7), (0, 1, 8), (16, 128, 9), (32, 256, 10), (64, 512, 11), (128, 1024, 12), (264, 2112, 13)]) | 4 => (0, [0, 1, 3, 7, 0, 16, 48, 112, 240, 511, 1023], [(0, 1, 23), (1, 4194304, 24), (2, 8388608, 25), (4, 16777216, 26), (0, 1, 27), (16, 67108864, 28), (32, 134217728, 29), (64, 268435456, 30), (128, 536870912, 31), (264, 1107296256, 32), (1023, 2147483648, 3)]) | _ => (0, [], [])
def e0 (r_0 : Option Addr) (R : Ending → Mem → Prop) (m : Mem) : Prop :=
  Sub m fun r1 =>
  NilC r_0 (fun x4b x4o =>
    LdV r1 x4b (x4o + 1) fun v =>
    UnI v .i64 fun x6 =>
    NilC r_0 (fun x8b x8o =>
      LdV m x8b x8o fun v =>
      UnStr v fun x10 =>
      Br (decide (x6 ≥ (x10.size : Int))) (
        R (.panicked [{ v := .iface T_class_refusal (.agg #[]), recovered := false }]) m) (
        NilC r_0 (fun x16b x16o =>
          LdV m x16b (x16o + 1) fun v =>
          UnI v .i64 fun x18 =>
          NilC r_0 (fun x20b x20o =>
            St1 m x20b (x20o + 1) (.int .i64 (IntKind.i64.wrap (x18 + 1))) fun m2 =>
            Sub m2 fun r3 =>
            NilC r_0 (fun x23b x23o =>
              LdV r3 x23b x23o fun v =>
              UnStr v fun x25 =>
              NilC r_0 (fun x27b x27o =>
                LdV m2 x27b (x27o + 1) fun v =>
                UnI v .i64 fun x29 =>
                IxB x25 (IntKind.i64.wrap (x29 - 1)) fun x31 =>
                R (.returned (.int .u8 x31)) m2) (False)) (False)) (R (.panicked (nilPanic P)) m)) (R (.panicked (nilPanic P)) m))) (False)) (False)
noncomputable def e0A (R : Ending → Mem → Prop) : ACode := (.code (body))
theorem e0_eq (r_0 : Option Addr) (R : Ending → Mem → Prop) (m : Mem) : e0 r_0 R m = acpt P od (panicR R) (e0A R) (bodyQ P fn R) (argE (#[.pointer r_0] : Array Value).toList) m := by kernel_rfl
theorem ok (r_0 : Option Addr) (R : Ending → Mem → Prop) (m : Mem) (h : e0 r_0 R m) : HC P id #[.pointer r_0] m R := by
  refine HC_of (fn := fn) (c := body) (od := od) (tb := tb) Go.Proofs.Tryd.func42 (by kernel_rfl) (by kernel_rfl) follows (by kernel_rfl) (of_decide_eq_true (by kernel_rfl)) ?_
  have he : (e0A R).erase = body := by kernel_rfl
  rw [← he]
  refine acpt_sound (P := P) (e0A R) _ _ _ True.intro ?_
  exact Eq.mp (e0_eq r_0 R m) h
end class_reader_take

/-! ### (*eyot/class.reader).sign -/
namespace class_reader_sign
noncomputable def fn : Func := Go.Proofs.Tryd.f43
noncomputable def body : Code := fn.body.getD .skip
def od : Nat → Ord := fun _ => .done
def tb : Nat → Tab := fun _ => (0, [], [])
def e0 (r_0 : Option Addr) (R : Ending → Mem → Prop) (m : Mem) : Prop :=
  HC P class_reader_take.id #[.pointer r_0] m (Cont (fun v m1 =>
      UnI v .u8 fun x6 =>
      Br (x6 != 92) (
        Br (decide (x6 < 33)) (
          R (.panicked [{ v := .iface T_class_refusal (.agg #[]), recovered := false }]) m1) (
          Br (decide (x6 > 126)) (
            R (.panicked [{ v := .iface T_class_refusal (.agg #[]), recovered := false }]) m1) (
            HC P strings_IndexByte.id #[.string (ByteArray.mk #[92, 124, 42, 43, 63, 40, 41, 91, 93, 46, 94, 45]), .int .u8 x6] m1 (Cont (fun v m2 =>
                UnI v .i64 fun x17 =>
                Br (decide (x17 ≥ 0)) (
                  R (.panicked [{ v := .iface T_class_refusal (.agg #[]), recovered := false }]) m2) (
                  R (.returned (.int .u8 x6)) m2)) (panicR R))))) (
        HC P class_reader_take.id #[.pointer r_0] m1 (Cont (fun v m2 =>
            UnI v .u8 fun x24 =>
            Br (x24 == 120) (
              HC P class_reader_digit.id #[.pointer r_0] m2 (Cont (fun v m3 =>
                  UnI v .u8 fun x28 =>
                  HC P class_reader_digit.id #[.pointer r_0] m3 (Cont (fun v m4 =>
                      UnI v .u8 fun x32 =>
                      R (.returned (.int .u8 (bitsV .or .u8 (shlV .u8 x28 4) x32))) m4) (panicR R))) (panicR R))) (
              HC P strings_IndexByte.id #[.string (ByteArray.mk #[92, 124, 42, 43, 63, 40, 41, 91, 93, 46, 94, 45]), .int .u8 x24] m2 (Cont (fun v m3 =>
                  UnI v .i64 fun x35 =>
                  Br (decide (x35 < 0)) (
                    R (.panicked [{ v := .iface T_class_refusal (.agg #[]), recovered := false }]) m3) (
                    R (.returned (.int .u8 x24)) m3)) (panicR R)))) (panicR R)))) (panicR R))
noncomputable def e0A (R : Ending → Mem → Prop) : ACode := (.code (body))
theorem e0_eq (r_0 : Option Addr) (R : Ending → Mem → Prop) (m : Mem) : e0 r_0 R m = acpt P od (panicR R) (e0A R) (bodyQ P fn R) (argE (#[.pointer r_0] : Array Value).toList) m := by kernel_rfl
theorem ok (r_0 : Option Addr) (R : Ending → Mem → Prop) (m : Mem) (h : e0 r_0 R m) : HC P id #[.pointer r_0] m R := by
  refine HC_of (fn := fn) (c := body) (od := od) (tb := tb) Go.Proofs.Tryd.func43 (by kernel_rfl) (by kernel_rfl) follows (by kernel_rfl) (of_decide_eq_true (by kernel_rfl)) ?_
  have he : (e0A R).erase = body := by kernel_rfl
  rw [← he]
  refine acpt_sound (P := P) (e0A R) _ _ _ True.intro ?_
  exact Eq.mp (e0_eq r_0 R m) h
end class_reader_sign

/-! ### eyot/class.run -/
namespace class_run
noncomputable def fn : Func := Go.Proofs.Tryd.f44
noncomputable def body : Code := fn.body.getD .skip
def od : Nat → Ord := fun _ => .done
def tb : Nat → Tab := fun _ => (0, [], [])
def l1E (K : Int → Nat → Nat → Option Addr → Nat → Nat → Int → Mem → Prop) : Env → Mem → Prop := fun ρ m => UnI (ρ 1) .u8 fun b_1 => UnPA (ρ 4) fun x4b x4o => UnS (ρ 5) fun l_5a l_5l l_5c => UnI (ρ 6) .i64 fun c_6 => K b_1 x4b x4o l_5a l_5l l_5c c_6 m
def l1B  (K1 : Int → Nat → Nat → Option Addr → Nat → Nat → Int → Mem → Prop) (b_1 : Int) (x4b : Nat) (x4o : Nat) (l_5a : Option Addr) (l_5l : Nat) (l_5c : Nat) (c_6 : Int) (R : Ending → Mem → Prop) (m : Mem) : Prop :=
  Br (decide (c_6 ≤ (IntKind.i64.wrap b_1))) (
    NewC m #[.int .u8 (IntKind.u8.wrap c_6)] T_uint8 fun b18 m1 =>
    BiN P .append #[T_sl_uint8, T_sl_uint8] T_sl_uint8 #[false, false] #[.slice l_5a l_5l l_5c, .slice (some ⟨b18, 0, none⟩) 1 1] m1 (fun w m2 =>
      UnS w fun x19a x19l x19c =>
      K1 b_1 x4b x4o x19a x19l x19c (IntKind.i64.wrap (c_6 + 1)) m2) (panicR R)) (
    HC P class_Of.id #[.slice l_5a l_5l l_5c] m (Cont (fun v m1 =>
        UnAgg v fun l =>
        UnCons l fun v l =>
        UnI v .u64 fun x21_0 =>
        UnCons l fun v l =>
        UnI v .u64 fun x21_1 =>
        UnCons l fun v l =>
        UnI v .u64 fun x21_2 =>
        UnCons l fun v l =>
        UnI v .u64 fun x21_3 =>
        UnNil l (
          St1 m1 x4b x4o (.int .u64 x21_0) fun m2 =>
          St1 m2 x4b (x4o + 1) (.int .u64 x21_1) fun m3 =>
          St1 m3 x4b (x4o + 2) (.int .u64 x21_2) fun m4 =>
          St1 m4 x4b (x4o + 3) (.int .u64 x21_3) fun m5 =>
          LdV m5 x4b x4o fun v =>
          UnI v .u64 fun res0_0 =>
          LdV m5 x4b (x4o + 1) fun v =>
          UnI v .u64 fun res0_1 =>
          LdV m5 x4b (x4o + 2) fun v =>
          UnI v .u64 fun res0_2 =>
          LdV m5 x4b (x4o + 3) fun v =>
          UnI v .u64 fun res0_3 =>
          R (.returned (.agg #[.int .u64 res0_0, .int .u64 res0_1, .int .u64 res0_2, .int .u64 res0_3])) m5)) (panicR R)))
def l1  (b_1 : Int) (x4b : Nat) (x4o : Nat) (l_5a : Option Addr) (l_5l : Nat) (l_5c : Nat) (c_6 : Int) (R : Ending → Mem → Prop) (m : Mem) : Prop :=
  ∃ (I : Nat → Int → Nat → Nat → Option Addr → Nat → Nat → Int → Mem → Prop) (N : Nat), I N b_1 x4b x4o l_5a l_5l l_5c c_6 m ∧ ∀ N b_1 x4b x4o l_5a l_5l l_5c c_6 m, I N b_1 x4b x4o l_5a l_5l l_5c c_6 m → l1B  (fun b_1 x4b x4o l_5a l_5l l_5c c_6 m => ∃ N1, N1 < N ∧ I N1 b_1 x4b x4o l_5a l_5l l_5c c_6 m) b_1 x4b x4o l_5a l_5l l_5c c_6 R m
noncomputable def l1A  (K1 : Int → Nat → Nat → Option Addr → Nat → Nat → Int → Mem → Prop) (R : Ending → Mem → Prop) : ACode := (.code (lP (bB (sR (sL (sR (sR (body))))))))
def e0 (a_0 : Int) (b_1 : Int) (R : Ending → Mem → Prop) (m : Mem) : Prop :=
  NewC m #[.int .u64 0, .int .u64 0, .int .u64 0, .int .u64 0] T_api_Set fun b4 m1 =>
  l1  b_1 b4 0 none 0 0 (IntKind.i64.wrap a_0) R m1
noncomputable def e0A (R : Ending → Mem → Prop) : ACode := (.seq (.code (sL (body))) (.seq (.code (sL (sR (body)))) (.seq (.seq (.code (sL (sL (sR (sR (body)))))) (.block 0 (.cut (l1E fun b_1 x4b x4o l_5a l_5l l_5c c_6 m => l1  b_1 x4b x4o l_5a l_5l l_5c c_6 R m) (.loop (lP (bB (sR (sL (sR (sR (body))))))))))) (.code (sR (sR (sR (body))))))))
theorem l1_eq  (K1 : Int → Nat → Nat → Option Addr → Nat → Nat → Int → Mem → Prop) (R : Ending → Mem → Prop) (b_1 : Int) (x4b : Nat) (x4o : Nat) (l_5a : Option Addr) (l_5l : Nat) (l_5c : Nat) (c_6 : Int) (ρ : Env) (m : Mem) : l1B  K1 b_1 x4b x4o l_5a l_5l l_5c c_6 R m = acpt P od (panicR R) (l1A  K1 R) (thenQ (l1E K1) (blockQ 0 (thenQ (acpt P od (panicR R) (.code (sR (sR (sR (body))))) (bodyQ P fn R)) (bodyQ P fn R)))) (upd (upd (upd (upd ρ 6 (.int .i64 c_6)) 5 (.slice l_5a l_5l l_5c)) 4 (.pointer (some ⟨x4b, x4o, none⟩))) 1 (.int .u8 b_1)) m := by kernel_rfl
theorem l1_er  (K1 : Int → Nat → Nat → Option Addr → Nat → Nat → Int → Mem → Prop) (R : Ending → Mem → Prop) : (l1A  K1 R).erase = lP (bB (sR (sL (sR (sR (body)))))) := by kernel_rfl
theorem l1_ok  (R : Ending → Mem → Prop) (ρ : Env) (m : Mem) (h : (l1E fun b_1 x4b x4o l_5a l_5l l_5c c_6 m => l1  b_1 x4b x4o l_5a l_5l l_5c c_6 R m) ρ m) : cpt P od (panicR R) (.loop (lP (bB (sR (sL (sR (sR (body)))))))) (blockQ 0 (thenQ (acpt P od (panicR R) (.code (sR (sR (sR (body))))) (bodyQ P fn R)) (bodyQ P fn R))) ρ m := by
  unfold l1E at h
  obtain ⟨b_1, e1, h⟩ := h.ex
  obtain ⟨x4b, x4o, e4, h⟩ := h.ex
  obtain ⟨l_5a, l_5l, l_5c, e5, h⟩ := h.ex
  obtain ⟨c_6, e6, h⟩ := h.ex
  obtain ⟨I, N, h0, hs⟩ := h
  refine ⟨fun N => l1E (I N), N, (by show l1E (I N) ρ m; unfold l1E; rw [e1, e4, e5, e6]; exact h0), ?_⟩
  clear h0 e1 e4 e5 e6
  intro N ρ m h
  unfold l1E at h
  obtain ⟨b_1, e1, h⟩ := h.ex
  obtain ⟨x4b, x4o, e4, h⟩ := h.ex
  obtain ⟨l_5a, l_5l, l_5c, e5, h⟩ := h.ex
  obtain ⟨c_6, e6, h⟩ := h.ex
  refine cpt_mono (P := P) (lP (bB (sR (sL (sR (sR (body))))))) (Q := thenQ (l1E fun b_1 x4b x4o l_5a l_5l l_5c c_6 m => ∃ N1, N1 < N ∧ I N1 b_1 x4b x4o l_5a l_5l l_5c c_6 m) (blockQ 0 (thenQ (acpt P od (panicR R) (.code (sR (sR (sR (body))))) (bodyQ P fn R)) (bodyQ P fn R)))) (fun e ρ m h => ?_) ρ m ?_
  · cases e with
    | normal =>
      have h : l1E (fun b_1 x4b x4o l_5a l_5l l_5c c_6 m => ∃ N1, N1 < N ∧ I N1 b_1 x4b x4o l_5a l_5l l_5c c_6 m) ρ m := h
      unfold l1E at h
      obtain ⟨b_1, e1, h⟩ := h.ex
      obtain ⟨x4b, x4o, e4, h⟩ := h.ex
      obtain ⟨l_5a, l_5l, l_5c, e5, h⟩ := h.ex
      obtain ⟨c_6, e6, h⟩ := h.ex
      obtain ⟨N1, hlt, h⟩ := h
      exact ⟨N1, hlt, (by show l1E (I N1) ρ m; unfold l1E; rw [e1, e4, e5, e6]; exact h)⟩
    | _ => exact h
  have hh := hs N b_1 x4b x4o l_5a l_5l l_5c c_6 m h
  generalize (fun b_1 x4b x4o l_5a l_5l l_5c c_6 m => ∃ N1, N1 < N ∧ I N1 b_1 x4b x4o l_5a l_5l l_5c c_6 m : Int → Nat → Nat → Option Addr → Nat → Nat → Int → Mem → Prop) = K1 at hh ⊢
  rw [← upd_self e1, ← upd_self e4, ← upd_self e5, ← upd_self e6]
  rw [← l1_er  K1 R]
  refine acpt_sound (P := P) (l1A  K1 R) _ _ _ True.intro ?_
  exact Eq.mp (l1_eq  K1 R b_1 x4b x4o l_5a l_5l l_5c c_6 ρ m) hh
theorem e0_eq (a_0 : Int) (b_1 : Int) (R : Ending → Mem → Prop) (m : Mem) : e0 a_0 b_1 R m = acpt P od (panicR R) (e0A R) (bodyQ P fn R) (argE (#[.int .u8 a_0, .int .u8 b_1] : Array Value).toList) m := by kernel_rfl
theorem ok (a_0 : Int) (b_1 : Int) (R : Ending → Mem → Prop) (m : Mem) (h : e0 a_0 b_1 R m) : HC P id #[.int .u8 a_0, .int .u8 b_1] m R := by
  refine HC_of (fn := fn) (c := body) (od := od) (tb := tb) Go.Proofs.Tryd.func44 (by kernel_rfl) (by kernel_rfl) follows (by kernel_rfl) (of_decide_eq_true (by kernel_rfl)) ?_
  have he : (e0A R).erase = body := by kernel_rfl
  rw [← he]
  refine acpt_sound (P := P) (e0A R) _ _ _ ⟨⟨⟨True.intro, ⟨(fun ρ m h => l1_ok  R ρ m h), True.intro⟩⟩, True.intro⟩, True.intro⟩ ?_
  exact Eq.mp (e0_eq a_0 b_1 R m) h
end class_run

/-! ### (*eyot/class.reader).part -/
namespace class_reader_part
noncomputable def fn : Func := Go.Proofs.Tryd.f45
noncomputable def body : Code := fn.body.getD .skip
def od : Nat → Ord := fun _ => .done
def tb : Nat → Tab := fun _ => (0, [], [])
def e0 (r_0 : Option Addr) (R : Ending → Mem → Prop) (m : Mem) : Prop :=
  NewC m #[.int .u64 0, .int .u64 0, .int .u64 0, .int .u64 0] T_api_Set fun b2 m1 =>
  HC P class_reader_sign.id #[.pointer r_0] m1 (Cont (fun v m2 =>
      UnI v .u8 fun x6 =>
      HC P class_reader_next.id #[.pointer r_0] m2 (Cont (fun v m3 =>
          UnI v .u8 fun x8 =>
          Br (x8 != 45) (
            HC P class_run.id #[.int .u8 x6, .int .u8 x6] m3 (Cont (fun v m4 =>
                UnAgg v fun l =>
                UnCons l fun v l =>
                UnI v .u64 fun x12_0 =>
                UnCons l fun v l =>
                UnI v .u64 fun x12_1 =>
                UnCons l fun v l =>
                UnI v .u64 fun x12_2 =>
                UnCons l fun v l =>
                UnI v .u64 fun x12_3 =>
                UnNil l (
                  St1 m4 b2 0 (.int .u64 x12_0) fun m5 =>
                  St1 m5 b2 1 (.int .u64 x12_1) fun m6 =>
                  St1 m6 b2 2 (.int .u64 x12_2) fun m7 =>
                  St1 m7 b2 3 (.int .u64 x12_3) fun m8 =>
                  LdV m8 b2 0 fun v =>
                  UnI v .u64 fun res0_0 =>
                  LdV m8 b2 1 fun v =>
                  UnI v .u64 fun res0_1 =>
                  LdV m8 b2 2 fun v =>
                  UnI v .u64 fun res0_2 =>
                  LdV m8 b2 3 fun v =>
                  UnI v .u64 fun res0_3 =>
                  R (.returned (.agg #[.int .u64 res0_0, .int .u64 res0_1, .int .u64 res0_2, .int .u64 res0_3])) m8)) (panicR R))) (
            HC P class_reader_take.id #[.pointer r_0] m3 (Cont (fun v m4 =>
                UnI v .u8 fun x14 =>
                HC P class_reader_sign.id #[.pointer r_0] m4 (Cont (fun v m5 =>
                    UnI v .u8 fun x16 =>
                    Br (decide (x16 < x6)) (
                      R (.panicked [{ v := .iface T_class_refusal (.agg #[]), recovered := false }]) m5) (
                      HC P class_run.id #[.int .u8 x6, .int .u8 x16] m5 (Cont (fun v m6 =>
                        UnAgg v fun l =>
                        UnCons l fun v l =>
                        UnI v .u64 fun x24_0 =>
                        UnCons l fun v l =>
                        UnI v .u64 fun x24_1 =>
                        UnCons l fun v l =>
                        UnI v .u64 fun x24_2 =>
                        UnCons l fun v l =>
                        UnI v .u64 fun x24_3 =>
                        UnNil l (
                        St1 m6 b2 0 (.int .u64 x24_0) fun m7 =>
                        St1 m7 b2 1 (.int .u64 x24_1) fun m8 =>
                        St1 m8 b2 2 (.int .u64 x24_2) fun m9 =>
                        St1 m9 b2 3 (.int .u64 x24_3) fun m10 =>
                        LdV m10 b2 0 fun v =>
                        UnI v .u64 fun res0_0 =>
                        LdV m10 b2 1 fun v =>
                        UnI v .u64 fun res0_1 =>
                        LdV m10 b2 2 fun v =>
                        UnI v .u64 fun res0_2 =>
                        LdV m10 b2 3 fun v =>
                        UnI v .u64 fun res0_3 =>
                        R (.returned (.agg #[.int .u64 res0_0, .int .u64 res0_1, .int .u64 res0_2, .int .u64 res0_3])) m10)) (panicR R)))) (panicR R))) (panicR R)))) (panicR R))) (panicR R))
noncomputable def e0A (R : Ending → Mem → Prop) : ACode := (.code (body))
theorem e0_eq (r_0 : Option Addr) (R : Ending → Mem → Prop) (m : Mem) : e0 r_0 R m = acpt P od (panicR R) (e0A R) (bodyQ P fn R) (argE (#[.pointer r_0] : Array Value).toList) m := by kernel_rfl
theorem ok (r_0 : Option Addr) (R : Ending → Mem → Prop) (m : Mem) (h : e0 r_0 R m) : HC P id #[.pointer r_0] m R := by
  refine HC_of (fn := fn) (c := body) (od := od) (tb := tb) Go.Proofs.Tryd.func45 (by kernel_rfl) (by kernel_rfl) follows (by kernel_rfl) (of_decide_eq_true (by kernel_rfl)) ?_
  have he : (e0A R).erase = body := by kernel_rfl
  rw [← he]
  refine acpt_sound (P := P) (e0A R) _ _ _ True.intro ?_
  exact Eq.mp (e0_eq r_0 R m) h
end class_reader_part

/-! ### eyot/eyotref8.in -/
namespace eyotref8_in
noncomputable def fn : Func := Go.Proofs.Tryd.f46
noncomputable def body : Code := fn.body.getD .skip
def od : Nat → Ord := fun _ => .done
def tb : Nat → Tab := fun _ => (0, [], [])
def l1E (K : ByteArray → Int → Int → Mem → Prop) : Env → Mem → Prop := fun ρ m => UnStr (ρ 0) fun s_0 => UnI (ρ 1) .u8 fun c_1 => UnI (ρ 5) .i64 fun i_5 => K s_0 c_1 i_5 m
def l1B  (K1 : ByteArray → Int → Int → Mem → Prop) (s_0 : ByteArray) (c_1 : Int) (i_5 : Int) (R : Ending → Mem → Prop) (m : Mem) : Prop :=
  Br (decide (i_5 < (s_0.size : Int))) (
    IxB s_0 i_5 fun x14 =>
    Br (x14 == c_1) (
      R (.returned (.bool true)) m) (
      K1 s_0 c_1 (IntKind.i64.wrap (i_5 + 1)) m)) (
    R (.returned (.bool false)) m)
def l1  (s_0 : ByteArray) (c_1 : Int) (i_5 : Int) (R : Ending → Mem → Prop) (m : Mem) : Prop :=
  ∃ (I : Nat → ByteArray → Int → Int → Mem → Prop) (N : Nat), I N s_0 c_1 i_5 m ∧ ∀ N s_0 c_1 i_5 m, I N s_0 c_1 i_5 m → l1B  (fun s_0 c_1 i_5 m => ∃ N1, N1 < N ∧ I N1 s_0 c_1 i_5 m) s_0 c_1 i_5 R m
noncomputable def l1A  (K1 : ByteArray → Int → Int → Mem → Prop) (R : Ending → Mem → Prop) : ACode := (.code (lP (bB (sR (sL (sR (body)))))))
def e0 (s_0 : ByteArray) (c_1 : Int) (R : Ending → Mem → Prop) (m : Mem) : Prop :=
  l1  s_0 c_1 0 R m
noncomputable def e0A (R : Ending → Mem → Prop) : ACode := (.seq (.code (sL (body))) (.seq (.seq (.code (sL (sL (sR (body))))) (.block 0 (.cut (l1E fun s_0 c_1 i_5 m => l1  s_0 c_1 i_5 R m) (.loop (lP (bB (sR (sL (sR (body)))))))))) (.code (sR (sR (body))))))
theorem l1_eq  (K1 : ByteArray → Int → Int → Mem → Prop) (R : Ending → Mem → Prop) (s_0 : ByteArray) (c_1 : Int) (i_5 : Int) (ρ : Env) (m : Mem) : l1B  K1 s_0 c_1 i_5 R m = acpt P od (panicR R) (l1A  K1 R) (thenQ (l1E K1) (blockQ 0 (thenQ (acpt P od (panicR R) (.code (sR (sR (body)))) (bodyQ P fn R)) (bodyQ P fn R)))) (upd (upd (upd ρ 5 (.int .i64 i_5)) 1 (.int .u8 c_1)) 0 (.string s_0)) m := by kernel_rfl
theorem l1_er  (K1 : ByteArray → Int → Int → Mem → Prop) (R : Ending → Mem → Prop) : (l1A  K1 R).erase = lP (bB (sR (sL (sR (body))))) := by kernel_rfl
theorem l1_ok  (R : Ending → Mem → Prop) (ρ : Env) (m : Mem) (h : (l1E fun s_0 c_1 i_5 m => l1  s_0 c_1 i_5 R m) ρ m) : cpt P od (panicR R) (.loop (lP (bB (sR (sL (sR (body))))))) (blockQ 0 (thenQ (acpt P od (panicR R) (.code (sR (sR (body)))) (bodyQ P fn R)) (bodyQ P fn R))) ρ m := by
  unfold l1E at h
  obtain ⟨s_0, e0, h⟩ := h.ex
  obtain ⟨c_1, e1, h⟩ := h.ex
  obtain ⟨i_5, e5, h⟩ := h.ex
  obtain ⟨I, N, h0, hs⟩ := h
  refine ⟨fun N => l1E (I N), N, (by show l1E (I N) ρ m; unfold l1E; rw [e0, e1, e5]; exact h0), ?_⟩
  clear h0 e0 e1 e5
  intro N ρ m h
  unfold l1E at h
  obtain ⟨s_0, e0, h⟩ := h.ex
  obtain ⟨c_1, e1, h⟩ := h.ex
  obtain ⟨i_5, e5, h⟩ := h.ex
  refine cpt_mono (P := P) (lP (bB (sR (sL (sR (body)))))) (Q := thenQ (l1E fun s_0 c_1 i_5 m => ∃ N1, N1 < N ∧ I N1 s_0 c_1 i_5 m) (blockQ 0 (thenQ (acpt P od (panicR R) (.code (sR (sR (body)))) (bodyQ P fn R)) (bodyQ P fn R)))) (fun e ρ m h => ?_) ρ m ?_
  · cases e with
    | normal =>
      have h : l1E (fun s_0 c_1 i_5 m => ∃ N1, N1 < N ∧ I N1 s_0 c_1 i_5 m) ρ m := h
      unfold l1E at h
      obtain ⟨s_0, e0, h⟩ := h.ex
      obtain ⟨c_1, e1, h⟩ := h.ex
      obtain ⟨i_5, e5, h⟩ := h.ex
      obtain ⟨N1, hlt, h⟩ := h
      exact ⟨N1, hlt, (by show l1E (I N1) ρ m; unfold l1E; rw [e0, e1, e5]; exact h)⟩
    | _ => exact h
  have hh := hs N s_0 c_1 i_5 m h
  generalize (fun s_0 c_1 i_5 m => ∃ N1, N1 < N ∧ I N1 s_0 c_1 i_5 m : ByteArray → Int → Int → Mem → Prop) = K1 at hh ⊢
  rw [← upd_self e0, ← upd_self e1, ← upd_self e5]
  rw [← l1_er  K1 R]
  refine acpt_sound (P := P) (l1A  K1 R) _ _ _ True.intro ?_
  exact Eq.mp (l1_eq  K1 R s_0 c_1 i_5 ρ m) hh
theorem e0_eq (s_0 : ByteArray) (c_1 : Int) (R : Ending → Mem → Prop) (m : Mem) : e0 s_0 c_1 R m = acpt P od (panicR R) (e0A R) (bodyQ P fn R) (argE (#[.string s_0, .int .u8 c_1] : Array Value).toList) m := by kernel_rfl
theorem ok (s_0 : ByteArray) (c_1 : Int) (R : Ending → Mem → Prop) (m : Mem) (h : e0 s_0 c_1 R m) : HC P id #[.string s_0, .int .u8 c_1] m R := by
  refine HC_of (fn := fn) (c := body) (od := od) (tb := tb) Go.Proofs.Tryd.func46 (by kernel_rfl) (by kernel_rfl) follows (by kernel_rfl) (of_decide_eq_true (by kernel_rfl)) ?_
  have he : (e0A R).erase = body := by kernel_rfl
  rw [← he]
  refine acpt_sound (P := P) (e0A R) _ _ _ ⟨⟨True.intro, ⟨(fun ρ m h => l1_ok  R ρ m h), True.intro⟩⟩, True.intro⟩ ?_
  exact Eq.mp (e0_eq s_0 c_1 R m) h
end eyotref8_in

/-! ### eyot/eyotref8.digit -/
namespace eyotref8_digit
noncomputable def fn : Func := Go.Proofs.Tryd.f47
noncomputable def body : Code := fn.body.getD .skip
def od : Nat → Ord := fun _ => .done
def tb : Nat → Tab := fun _ => (0, [], [])
def l1E (K : Int → Int → Mem → Prop) : Env → Mem → Prop := fun ρ m => UnI (ρ 0) .u8 fun c_0 => UnI (ρ 3) .i64 fun i_3 => K c_0 i_3 m
def l1B  (K1 : Int → Int → Mem → Prop) (c_0 : Int) (i_3 : Int) (R : Ending → Mem → Prop) (m : Mem) : Prop :=
  Br (decide (i_3 < 16)) (
    IxB (ByteArray.mk #[48, 49, 50, 51, 52, 53, 54, 55, 56, 57, 97, 98, 99, 100, 101, 102]) i_3 fun x9 =>
    Br (x9 == c_0) (
      R (.returned (.int .i64 i_3)) m) (
      K1 c_0 (IntKind.i64.wrap (i_3 + 1)) m)) (
    R (.returned (.int .i64 (-1))) m)
def l1  (c_0 : Int) (i_3 : Int) (R : Ending → Mem → Prop) (m : Mem) : Prop :=
  ∃ (I : Nat → Int → Int → Mem → Prop) (N : Nat), I N c_0 i_3 m ∧ ∀ N c_0 i_3 m, I N c_0 i_3 m → l1B  (fun c_0 i_3 m => ∃ N1, N1 < N ∧ I N1 c_0 i_3 m) c_0 i_3 R m
noncomputable def l1A  (K1 : Int → Int → Mem → Prop) (R : Ending → Mem → Prop) : ACode := (.code (lP (bB (sR (sL (sR (body)))))))
def e0 (c_0 : Int) (R : Ending → Mem → Prop) (m : Mem) : Prop :=
  l1  c_0 0 R m
noncomputable def e0A (R : Ending → Mem → Prop) : ACode := (.seq (.code (sL (body))) (.seq (.seq (.code (sL (sL (sR (body))))) (.block 0 (.cut (l1E fun c_0 i_3 m => l1  c_0 i_3 R m) (.loop (lP (bB (sR (sL (sR (body)))))))))) (.code (sR (sR (body))))))
theorem l1_eq  (K1 : Int → Int → Mem → Prop) (R : Ending → Mem → Prop) (c_0 : Int) (i_3 : Int) (ρ : Env) (m : Mem) : l1B  K1 c_0 i_3 R m = acpt P od (panicR R) (l1A  K1 R) (thenQ (l1E K1) (blockQ 0 (thenQ (acpt P od (panicR R) (.code (sR (sR (body)))) (bodyQ P fn R)) (bodyQ P fn R)))) (upd (upd ρ 3 (.int .i64 i_3)) 0 (.int .u8 c_0)) m := by kernel_rfl
theorem l1_er  (K1 : Int → Int → Mem → Prop) (R : Ending → Mem → Prop) : (l1A  K1 R).erase = lP (bB (sR (sL (sR (body))))) := by kernel_rfl
theorem l1_ok  (R : Ending → Mem → Prop) (ρ : Env) (m : Mem) (h : (l1E fun c_0 i_3 m => l1  c_0 i_3 R m) ρ m) : cpt P od (panicR R) (.loop (lP (bB (sR (sL (sR (body))))))) (blockQ 0 (thenQ (acpt P od (panicR R) (.code (sR (sR (body)))) (bodyQ P fn R)) (bodyQ P fn R))) ρ m := by
  unfold l1E at h
  obtain ⟨c_0, e0, h⟩ := h.ex
  obtain ⟨i_3, e3, h⟩ := h.ex
  obtain ⟨I, N, h0, hs⟩ := h
  refine ⟨fun N => l1E (I N), N, (by show l1E (I N) ρ m; unfold l1E; rw [e0, e3]; exact h0), ?_⟩
  clear h0 e0 e3
  intro N ρ m h
  unfold l1E at h
  obtain ⟨c_0, e0, h⟩ := h.ex
  obtain ⟨i_3, e3, h⟩ := h.ex
  refine cpt_mono (P := P) (lP (bB (sR (sL (sR (body)))))) (Q := thenQ (l1E fun c_0 i_3 m => ∃ N1, N1 < N ∧ I N1 c_0 i_3 m) (blockQ 0 (thenQ (acpt P od (panicR R) (.code (sR (sR (body)))) (bodyQ P fn R)) (bodyQ P fn R)))) (fun e ρ m h => ?_) ρ m ?_
  · cases e with
    | normal =>
      have h : l1E (fun c_0 i_3 m => ∃ N1, N1 < N ∧ I N1 c_0 i_3 m) ρ m := h
      unfold l1E at h
      obtain ⟨c_0, e0, h⟩ := h.ex
      obtain ⟨i_3, e3, h⟩ := h.ex
      obtain ⟨N1, hlt, h⟩ := h
      exact ⟨N1, hlt, (by show l1E (I N1) ρ m; unfold l1E; rw [e0, e3]; exact h)⟩
    | _ => exact h
  have hh := hs N c_0 i_3 m h
  generalize (fun c_0 i_3 m => ∃ N1, N1 < N ∧ I N1 c_0 i_3 m : Int → Int → Mem → Prop) = K1 at hh ⊢
  rw [← upd_self e0, ← upd_self e3]
  rw [← l1_er  K1 R]
  refine acpt_sound (P := P) (l1A  K1 R) _ _ _ True.intro ?_
  exact Eq.mp (l1_eq  K1 R c_0 i_3 ρ m) hh
theorem e0_eq (c_0 : Int) (R : Ending → Mem → Prop) (m : Mem) : e0 c_0 R m = acpt P od (panicR R) (e0A R) (bodyQ P fn R) (argE (#[.int .u8 c_0] : Array Value).toList) m := by kernel_rfl
theorem ok (c_0 : Int) (R : Ending → Mem → Prop) (m : Mem) (h : e0 c_0 R m) : HC P id #[.int .u8 c_0] m R := by
  refine HC_of (fn := fn) (c := body) (od := od) (tb := tb) Go.Proofs.Tryd.func47 (by kernel_rfl) (by kernel_rfl) follows (by kernel_rfl) (of_decide_eq_true (by kernel_rfl)) ?_
  have he : (e0A R).erase = body := by kernel_rfl
  rw [← he]
  refine acpt_sound (P := P) (e0A R) _ _ _ ⟨⟨True.intro, ⟨(fun ρ m h => l1_ok  R ρ m h), True.intro⟩⟩, True.intro⟩ ?_
  exact Eq.mp (e0_eq c_0 R m) h
end eyotref8_digit

/-! ### strings.IndexByte -/
namespace strings_IndexByte
noncomputable def fn : Func := Go.Proofs.Tryd.f48
noncomputable def body : Code := fn.body.getD .skip
def od : Nat → Ord := fun _ => .done
def tb : Nat → Tab := fun _ => (0, [], [])
def e0 (s_0 : ByteArray) (c_1 : Int) (R : Ending → Mem → Prop) (m : Mem) : Prop :=
  HC P internal_stringslite_IndexByte.id #[.string s_0, .int .u8 c_1] m (Cont (fun v m1 =>
      UnI v .i64 fun x7 =>
      R (.returned (.int .i64 x7)) m1) (panicR R))
noncomputable def e0A (R : Ending → Mem → Prop) : ACode := (.code (body))
theorem e0_eq (s_0 : ByteArray) (c_1 : Int) (R : Ending → Mem → Prop) (m : Mem) : e0 s_0 c_1 R m = acpt P od (panicR R) (e0A R) (bodyQ P fn R) (argE (#[.string s_0, .int .u8 c_1] : Array Value).toList) m := by kernel_rfl
theorem ok (s_0 : ByteArray) (c_1 : Int) (R : Ending → Mem → Prop) (m : Mem) (h : e0 s_0 c_1 R m) : HC P id #[.string s_0, .int .u8 c_1] m R := by
  refine HC_of (fn := fn) (c := body) (od := od) (tb := tb) Go.Proofs.Tryd.func48 (by kernel_rfl) (by kernel_rfl) follows (by kernel_rfl) (of_decide_eq_true (by kernel_rfl)) ?_
  have he : (e0A R).erase = body := by kernel_rfl
  rw [← he]
  refine acpt_sound (P := P) (e0A R) _ _ _ True.intro ?_
  exact Eq.mp (e0_eq s_0 c_1 R m) h
end strings_IndexByte

/-! ### (*eyot/class.reader).digit -/
namespace class_reader_digit
noncomputable def fn : Func := Go.Proofs.Tryd.f49
noncomputable def body : Code := fn.body.getD .skip
def od : Nat → Ord := fun _ => .done
def tb : Nat → Tab := fun _ => (0, [], [])
def e0 (r_0 : Option Addr) (R : Ending → Mem → Prop) (m : Mem) : Prop :=
  HC P class_reader_take.id #[.pointer r_0] m (Cont (fun v m1 =>
      UnI v .u8 fun x5 =>
      HC P strings_IndexByte.id #[.string (ByteArray.mk #[48, 49, 50, 51, 52, 53, 54, 55, 56, 57, 97, 98, 99, 100, 101, 102]), .int .u8 x5] m1 (Cont (fun v m2 =>
          UnI v .i64 fun x6 =>
          Br (decide (x6 < 0)) (
            R (.panicked [{ v := .iface T_class_refusal (.agg #[]), recovered := false }]) m2) (
            R (.returned (.int .u8 (IntKind.u8.wrap x6))) m2)) (panicR R))) (panicR R))
noncomputable def e0A (R : Ending → Mem → Prop) : ACode := (.code (body))
theorem e0_eq (r_0 : Option Addr) (R : Ending → Mem → Prop) (m : Mem) : e0 r_0 R m = acpt P od (panicR R) (e0A R) (bodyQ P fn R) (argE (#[.pointer r_0] : Array Value).toList) m := by kernel_rfl
theorem ok (r_0 : Option Addr) (R : Ending → Mem → Prop) (m : Mem) (h : e0 r_0 R m) : HC P id #[.pointer r_0] m R := by
  refine HC_of (fn := fn) (c := body) (od := od) (tb := tb) Go.Proofs.Tryd.func49 (by kernel_rfl) (by kernel_rfl) follows (by kernel_rfl) (of_decide_eq_true (by kernel_rfl)) ?_
  have he : (e0A R).erase = body := by kernel_rfl
  rw [← he]
  refine acpt_sound (P := P) (e0A R) _ _ _ True.intro ?_
  exact Eq.mp (e0_eq r_0 R m) h
end class_reader_digit

/-! ### internal/stringslite.IndexByte -/
namespace internal_stringslite_IndexByte
noncomputable def fn : Func := Go.Proofs.Tryd.f50
noncomputable def body : Code := fn.body.getD .skip
def od : Nat → Ord := fun _ => .done
def tb : Nat → Tab := fun _ => (0, [], [])
def e0 (s_0 : ByteArray) (c_1 : Int) (R : Ending → Mem → Prop) (m : Mem) : Prop :=
  HC P internal_bytealg_IndexByteString.id #[.string s_0, .int .u8 c_1] m (Cont (fun v m1 =>
      UnI v .i64 fun x7 =>
      R (.returned (.int .i64 x7)) m1) (panicR R))
noncomputable def e0A (R : Ending → Mem → Prop) : ACode := (.code (body))
theorem e0_eq (s_0 : ByteArray) (c_1 : Int) (R : Ending → Mem → Prop) (m : Mem) : e0 s_0 c_1 R m = acpt P od (panicR R) (e0A R) (bodyQ P fn R) (argE (#[.string s_0, .int .u8 c_1] : Array Value).toList) m := by kernel_rfl
theorem ok (s_0 : ByteArray) (c_1 : Int) (R : Ending → Mem → Prop) (m : Mem) (h : e0 s_0 c_1 R m) : HC P id #[.string s_0, .int .u8 c_1] m R := by
  refine HC_of (fn := fn) (c := body) (od := od) (tb := tb) Go.Proofs.Tryd.func50 (by kernel_rfl) (by kernel_rfl) follows (by kernel_rfl) (of_decide_eq_true (by kernel_rfl)) ?_
  have he : (e0A R).erase = body := by kernel_rfl
  rw [← he]
  refine acpt_sound (P := P) (e0A R) _ _ _ True.intro ?_
  exact Eq.mp (e0_eq s_0 c_1 R m) h
end internal_stringslite_IndexByte

end
end Go.E
