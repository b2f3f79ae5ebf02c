/- Printed by this project's own gen.py: more shallow forms. -/
import Derived.Test.YtpbnhcggfgegkaaDoorG8
set_option linter.unusedVariables false
set_option maxRecDepth 100000
namespace Go.E
open Go.H
noncomputable section
/-! ### eyot/eyotref8.Class -/
namespace eyotref8_Class
noncomputable def fn : Func := Go.Proofs.Tryd.f12
noncomputable def body : Code := fn.body.getD .skip
def od : Nat → Ord := fun _ => .done
def tb : Nat → Tab := fun _ => (0, [], [])
def l9E (K : ByteArray → Nat → Nat → Bool → Option Addr → Nat → Nat → Int → Int → Int → Mem → Prop) : Env → Mem → Prop := fun ρ m => UnStr (ρ 0) fun x0 => UnPA (ρ 2) fun x2b x2o => UnB (ρ 8) fun x8 => UnS (ρ 9) fun x9a x9l x9c => UnI (ρ 11) .i64 fun x11 => UnI (ρ 12) .u8 fun x12 => UnI (ρ 13) .i64 fun x13 => K x0 x2b x2o x8 x9a x9l x9c x11 x12 x13 m
def l9B (K5 : ByteArray → Nat → Nat → Int → Bool → Option Addr → Nat → Nat → Mem → Prop) (K9 : ByteArray → Nat → Nat → Bool → Option Addr → Nat → Nat → Int → Int → Int → Mem → Prop) (x0 : ByteArray) (x2b : Nat) (x2o : Nat) (x8 : Bool) (x9a : Option Addr) (x9l : Nat) (x9c : Nat) (x11 : Int) (x12 : Int) (x13 : Int) (R : Ending → Mem → Prop) (m : Mem) : Prop :=
  Br (decide (x13 ≤ (IntKind.i64.wrap x12))) (
    NewC m #[.int .u8 (IntKind.u8.wrap x13)] T_uint8 fun b109 m1 =>
    BiN P .append #[T_sl_uint8, T_sl_uint8] T_sl_uint8 #[false, false] #[.slice x9a x9l x9c, .slice (some ⟨b109, 0, none⟩) 1 1] m1 (fun w m2 =>
      UnS w fun x110a x110l x110c =>
      K9 x0 x2b x2o x8 x110a x110l x110c x11 x12 (IntKind.i64.wrap (x13 + 1)) m2) (panicR R)) (
    K5 x0 x2b x2o x11 x8 x9a x9l x9c m)
def l9 (K5 : ByteArray → Nat → Nat → Int → Bool → Option Addr → Nat → Nat → Mem → Prop) (x0 : ByteArray) (x2b : Nat) (x2o : Nat) (x8 : Bool) (x9a : Option Addr) (x9l : Nat) (x9c : Nat) (x11 : Int) (x12 : Int) (x13 : Int) (R : Ending → Mem → Prop) (m : Mem) : Prop :=
  ∃ (I : Nat → ByteArray → Nat → Nat → Bool → Option Addr → Nat → Nat → Int → Int → Int → Mem → Prop) (N : Nat), I N x0 x2b x2o x8 x9a x9l x9c x11 x12 x13 m ∧ ∀ N x0 x2b x2o x8 x9a x9l x9c x11 x12 x13 m, I N x0 x2b x2o x8 x9a x9l x9c x11 x12 x13 m → l9B K5 (fun x0 x2b x2o x8 x9a x9l x9c x11 x12 x13 m => ∃ N1, N1 < N ∧ I N1 x0 x2b x2o x8 x9a x9l x9c x11 x12 x13 m) x0 x2b x2o x8 x9a x9l x9c x11 x12 x13 R m
noncomputable def l9A (K5 : ByteArray → Nat → Nat → Int → Bool → Option Addr → Nat → Nat → Mem → Prop) (K9 : ByteArray → Nat → Nat → Bool → Option Addr → Nat → Nat → Int → Int → Int → Mem → Prop) (R : Ending → Mem → Prop) : ACode := (.code (lP (bB (sR (sL (sR (sR (sR (sR (bB (sR (lP (bB (sL (sR (sR (sR (sR (sR (sR (body)))))))))))))))))))))
def k8E (K : ByteArray → Nat → Nat → Bool → Option Addr → Nat → Nat → Int → Int → Int → Mem → Prop) : Env → Mem → Prop := fun ρ m => UnStr (ρ 0) fun x0 => UnPA (ρ 2) fun x2b x2o => UnB (ρ 8) fun x8 => UnS (ρ 9) fun x9a x9l x9c => UnI (ρ 10) .u8 fun x10 => UnI (ρ 11) .i64 fun x11 => UnI (ρ 12) .u8 fun x12 => K x0 x2b x2o x8 x9a x9l x9c x10 x11 x12 m
def k8 (K5 : ByteArray → Nat → Nat → Int → Bool → Option Addr → Nat → Nat → Mem → Prop) (x0 : ByteArray) (x2b : Nat) (x2o : Nat) (x8 : Bool) (x9a : Option Addr) (x9l : Nat) (x9c : Nat) (x10 : Int) (x11 : Int) (x12 : Int) (R : Ending → Mem → Prop) (m : Mem) : Prop :=
  l9 K5 x0 x2b x2o x8 x9a x9l x9c x11 x12 (IntKind.i64.wrap x10) R m
noncomputable def k8A (K5 : ByteArray → Nat → Nat → Int → Bool → Option Addr → Nat → Nat → Mem → Prop) (R : Ending → Mem → Prop) : ACode := (.seq (.seq (.code (sL (sL (sR (sR (sR (sR (bB (sR (lP (bB (sL (sR (sR (sR (sR (sR (sR (body))))))))))))))))))) (.block 2 (.cut (l9E fun x0 x2b x2o x8 x9a x9l x9c x11 x12 x13 m => l9 K5 x0 x2b x2o x8 x9a x9l x9c x11 x12 x13 R m) (.loop (lP (bB (sR (sL (sR (sR (sR (sR (bB (sR (lP (bB (sL (sR (sR (sR (sR (sR (sR (body)))))))))))))))))))))))) (.code (sR (sR (sR (sR (sR (bB (sR (lP (bB (sL (sR (sR (sR (sR (sR (sR (body)))))))))))))))))))
def k7E (K : ByteArray → Nat → Nat → Bool → Option Addr → Nat → Nat → Int → Int → Int → Bool → Mem → Prop) : Env → Mem → Prop := fun ρ m => UnStr (ρ 0) fun x0 => UnPA (ρ 2) fun x2b x2o => UnB (ρ 8) fun x8 => UnS (ρ 9) fun x9a x9l x9c => UnI (ρ 10) .u8 fun x10 => UnI (ρ 11) .i64 fun x11 => UnI (ρ 12) .u8 fun x12 => UnB (ρ 96) fun x96 => K x0 x2b x2o x8 x9a x9l x9c x10 x11 x12 x96 m
def k7 (K5 : ByteArray → Nat → Nat → Int → Bool → Option Addr → Nat → Nat → Mem → Prop) (x0 : ByteArray) (x2b : Nat) (x2o : Nat) (x8 : Bool) (x9a : Option Addr) (x9l : Nat) (x9c : Nat) (x10 : Int) (x11 : Int) (x12 : Int) (x96 : Bool) (R : Ending → Mem → Prop) (m : Mem) : Prop :=
  Br x96 (
    St1 m x2b x2o (.int .u64 0) fun m1 =>
    St1 m1 x2b (x2o + 1) (.int .u64 0) fun m2 =>
    St1 m2 x2b (x2o + 2) (.int .u64 0) fun m3 =>
    St1 m3 x2b (x2o + 3) (.int .u64 0) fun m4 =>
    LdV m4 x2b x2o fun v =>
    UnI v .u64 fun res0_0 =>
    LdV m4 x2b (x2o + 1) fun v =>
    UnI v .u64 fun res0_1 =>
    LdV m4 x2b (x2o + 2) fun v =>
    UnI v .u64 fun res0_2 =>
    LdV m4 x2b (x2o + 3) fun v =>
    UnI v .u64 fun res0_3 =>
    R (.returned (.tuple #[.agg #[.int .u64 res0_0, .int .u64 res0_1, .int .u64 res0_2, .int .u64 res0_3], .int .i64 0, .int .i64 2])) m4) (
    k8 K5 x0 x2b x2o x8 x9a x9l x9c x10 x11 x12 R m)
noncomputable def k7A (K5 : ByteArray → Nat → Nat → Int → Bool → Option Addr → Nat → Nat → Mem → Prop) (R : Ending → Mem → Prop) : ACode := (.code (sR (sR (cT (sR (sL (sR (sR (sR (bB (sR (lP (bB (sL (sR (sR (sR (sR (sR (sR (body)))))))))))))))))))))
def k6E (K : ByteArray → Nat → Nat → Bool → Option Addr → Nat → Nat → Int → Int → Int → Bool → Mem → Prop) : Env → Mem → Prop := fun ρ m => UnStr (ρ 0) fun x0 => UnPA (ρ 2) fun x2b x2o => UnB (ρ 8) fun x8 => UnS (ρ 9) fun x9a x9l x9c => UnI (ρ 10) .u8 fun x10 => UnI (ρ 11) .i64 fun x11 => UnI (ρ 12) .u8 fun x12 => UnB (ρ 82) fun x82 => K x0 x2b x2o x8 x9a x9l x9c x10 x11 x12 x82 m
def k6 (K5 : ByteArray → Nat → Nat → Int → Bool → Option Addr → Nat → Nat → Mem → Prop) (x0 : ByteArray) (x2b : Nat) (x2o : Nat) (x8 : Bool) (x9a : Option Addr) (x9l : Nat) (x9c : Nat) (x10 : Int) (x11 : Int) (x12 : Int) (x82 : Bool) (R : Ending → Mem → Prop) (m : Mem) : Prop :=
  Br x82 (
    HC P eyotref8_sign.id #[.string x0, .int .i64 (IntKind.i64.wrap (x11 + 1))] m (Cont (fun v m1 =>
        UnTup v fun us0 =>
        UnCons us0 fun w us1 =>
        UnI w .u8 fun x87_0 =>
        UnCons us1 fun w us2 =>
        UnI w .i64 fun x87_1 =>
        UnNil us2 (
          Br (decide (x87_1 < 0)) (
            k7 K5 x0 x2b x2o x8 x9a x9l x9c x10 x87_1 x87_0 true R m1) (
            k7 K5 x0 x2b x2o x8 x9a x9l x9c x10 x87_1 x87_0 (decide (x87_0 < x10)) R m1))) (panicR R))) (
    k8 K5 x0 x2b x2o x8 x9a x9l x9c x10 x11 x12 R m)
noncomputable def k6A (K5 : ByteArray → Nat → Nat → Int → Bool → Option Addr → Nat → Nat → Mem → Prop) (R : Ending → Mem → Prop) : ACode := (.cond (.tmp 82) (.seq (.code (sL (cT (sR (sL (sR (sR (sR (bB (sR (lP (bB (sL (sR (sR (sR (sR (sR (sR (body)))))))))))))))))))) (.seq (.code (sL (sR (cT (sR (sL (sR (sR (sR (bB (sR (lP (bB (sL (sR (sR (sR (sR (sR (sR (body))))))))))))))))))))) (.cut (k7E fun x0 x2b x2o x8 x9a x9l x9c x10 x11 x12 x96 m => k7 K5 x0 x2b x2o x8 x9a x9l x9c x10 x11 x12 x96 R m) (sR (sR (cT (sR (sL (sR (sR (sR (bB (sR (lP (bB (sL (sR (sR (sR (sR (sR (sR (body))))))))))))))))))))))) (.code (cE (sR (sL (sR (sR (sR (bB (sR (lP (bB (sL (sR (sR (sR (sR (sR (sR (body))))))))))))))))))))
def k12E (K : Nat → Nat → Int → Nat → Nat → Mem → Prop) : Env → Mem → Prop := fun ρ m => UnPA (ρ 2) fun x2b x2o => UnI (ρ 7) .i64 fun x7 => UnPA (ρ 14) fun x14b x14o => K x2b x2o x7 x14b x14o m
def k12  (x2b : Nat) (x2o : Nat) (x7 : Int) (x14b : Nat) (x14o : Nat) (R : Ending → Mem → Prop) (m : Mem) : Prop :=
  LdV m x14b x14o fun v =>
  UnI v .u64 fun x127_0 =>
  LdV m x14b (x14o + 1) fun v =>
  UnI v .u64 fun x127_1 =>
  LdV m x14b (x14o + 2) fun v =>
  UnI v .u64 fun x127_2 =>
  LdV m x14b (x14o + 3) fun v =>
  UnI v .u64 fun x127_3 =>
  HC P eyotref8_Empty.id #[.agg #[.int .u64 x127_0, .int .u64 x127_1, .int .u64 x127_2, .int .u64 x127_3]] m (Cont (fun v m1 =>
      UnB v fun x128 =>
      Br x128 (
        St1 m1 x2b x2o (.int .u64 0) fun m2 =>
        St1 m2 x2b (x2o + 1) (.int .u64 0) fun m3 =>
        St1 m3 x2b (x2o + 2) (.int .u64 0) fun m4 =>
        St1 m4 x2b (x2o + 3) (.int .u64 0) fun m5 =>
        LdV m5 x2b x2o fun v =>
        UnI v .u64 fun res0_0 =>
        LdV m5 x2b (x2o + 1) fun v =>
        UnI v .u64 fun res0_1 =>
        LdV m5 x2b (x2o + 2) fun v =>
        UnI v .u64 fun res0_2 =>
        LdV m5 x2b (x2o + 3) fun v =>
        UnI v .u64 fun res0_3 =>
        R (.returned (.tuple #[.agg #[.int .u64 res0_0, .int .u64 res0_1, .int .u64 res0_2, .int .u64 res0_3], .int .i64 0, .int .i64 2])) m5) (
        LdV m1 x14b x14o fun v =>
        UnI v .u64 fun x130_0 =>
        LdV m1 x14b (x14o + 1) fun v =>
        UnI v .u64 fun x130_1 =>
        LdV m1 x14b (x14o + 2) fun v =>
        UnI v .u64 fun x130_2 =>
        LdV m1 x14b (x14o + 3) fun v =>
        UnI v .u64 fun x130_3 =>
        St1 m1 x2b x2o (.int .u64 x130_0) fun m2 =>
        St1 m2 x2b (x2o + 1) (.int .u64 x130_1) fun m3 =>
        St1 m3 x2b (x2o + 2) (.int .u64 x130_2) fun m4 =>
        St1 m4 x2b (x2o + 3) (.int .u64 x130_3) fun m5 =>
        LdV m5 x2b x2o fun v =>
        UnI v .u64 fun res0_0 =>
        LdV m5 x2b (x2o + 1) fun v =>
        UnI v .u64 fun res0_1 =>
        LdV m5 x2b (x2o + 2) fun v =>
        UnI v .u64 fun res0_2 =>
        LdV m5 x2b (x2o + 3) fun v =>
        UnI v .u64 fun res0_3 =>
        R (.returned (.tuple #[.agg #[.int .u64 res0_0, .int .u64 res0_1, .int .u64 res0_2, .int .u64 res0_3], .int .i64 (IntKind.i64.wrap (x7 + 1)), .int .i64 0])) m5)) (panicR R))
noncomputable def k12A  (R : Ending → Mem → Prop) : ACode := (.code (sR (sR (sR (sR (sR (sR (sR (sR (sR (sR (body))))))))))))
def k11E (K : Nat → Nat → Int → Bool → Option Addr → Nat → Nat → Bool → Mem → Prop) : Env → Mem → Prop := fun ρ m => UnPA (ρ 2) fun x2b x2o => UnI (ρ 7) .i64 fun x7 => UnB (ρ 8) fun x8 => UnS (ρ 9) fun x9a x9l x9c => UnB (ρ 120) fun x120 => K x2b x2o x7 x8 x9a x9l x9c x120 m
def k11  (x2b : Nat) (x2o : Nat) (x7 : Int) (x8 : Bool) (x9a : Option Addr) (x9l : Nat) (x9c : Nat) (x120 : Bool) (R : Ending → Mem → Prop) (m : Mem) : Prop :=
  Br x120 (
    St1 m x2b x2o (.int .u64 0) fun m1 =>
    St1 m1 x2b (x2o + 1) (.int .u64 0) fun m2 =>
    St1 m2 x2b (x2o + 2) (.int .u64 0) fun m3 =>
    St1 m3 x2b (x2o + 3) (.int .u64 0) fun m4 =>
    LdV m4 x2b x2o fun v =>
    UnI v .u64 fun res0_0 =>
    LdV m4 x2b (x2o + 1) fun v =>
    UnI v .u64 fun res0_1 =>
    LdV m4 x2b (x2o + 2) fun v =>
    UnI v .u64 fun res0_2 =>
    LdV m4 x2b (x2o + 3) fun v =>
    UnI v .u64 fun res0_3 =>
    R (.returned (.tuple #[.agg #[.int .u64 res0_0, .int .u64 res0_1, .int .u64 res0_2, .int .u64 res0_3], .int .i64 0, .int .i64 2])) m4) (
    HC P eyotref8_Of.id #[.slice x9a x9l x9c] m (Cont (fun v m1 =>
        UnAgg v fun l =>
        UnCons l fun v l =>
        UnI v .u64 fun x123_0 =>
        UnCons l fun v l =>
        UnI v .u64 fun x123_1 =>
        UnCons l fun v l =>
        UnI v .u64 fun x123_2 =>
        UnCons l fun v l =>
        UnI v .u64 fun x123_3 =>
        UnNil l (
          NewC m1 #[.int .u64 0, .int .u64 0, .int .u64 0, .int .u64 0] T_api_Set fun b14 m2 =>
          St1 m2 b14 0 (.int .u64 x123_0) fun m3 =>
          St1 m3 b14 1 (.int .u64 x123_1) fun m4 =>
          St1 m4 b14 2 (.int .u64 x123_2) fun m5 =>
          St1 m5 b14 3 (.int .u64 x123_3) fun m6 =>
          Br x8 (
            LdV m6 b14 0 fun v =>
            UnI v .u64 fun x125_0 =>
            LdV m6 b14 1 fun v =>
            UnI v .u64 fun x125_1 =>
            LdV m6 b14 2 fun v =>
            UnI v .u64 fun x125_2 =>
            LdV m6 b14 3 fun v =>
            UnI v .u64 fun x125_3 =>
            HC P eyotref8_Not.id #[.agg #[.int .u64 x125_0, .int .u64 x125_1, .int .u64 x125_2, .int .u64 x125_3]] m6 (Cont (fun v m7 =>
                UnAgg v fun l =>
                UnCons l fun v l =>
                UnI v .u64 fun x126_0 =>
                UnCons l fun v l =>
                UnI v .u64 fun x126_1 =>
                UnCons l fun v l =>
                UnI v .u64 fun x126_2 =>
                UnCons l fun v l =>
                UnI v .u64 fun x126_3 =>
                UnNil l (
                  St1 m7 b14 0 (.int .u64 x126_0) fun m8 =>
                  St1 m8 b14 1 (.int .u64 x126_1) fun m9 =>
                  St1 m9 b14 2 (.int .u64 x126_2) fun m10 =>
                  St1 m10 b14 3 (.int .u64 x126_3) fun m11 =>
                  k12  x2b x2o x7 b14 0 R m11)) (panicR R))) (
            k12  x2b x2o x7 b14 0 R m6))) (panicR R)))
noncomputable def k11A  (R : Ending → Mem → Prop) : ACode := (.code (sR (sL (sR (sR (sR (sR (sR (sR (sR (body)))))))))))
def k10E (K : ByteArray → Nat → Nat → Int → Bool → Option Addr → Nat → Nat → Mem → Prop) : Env → Mem → Prop := fun ρ m => UnStr (ρ 0) fun x0 => UnPA (ρ 2) fun x2b x2o => UnI (ρ 7) .i64 fun x7 => UnB (ρ 8) fun x8 => UnS (ρ 9) fun x9a x9l x9c => K x0 x2b x2o x7 x8 x9a x9l x9c m
def k10  (x0 : ByteArray) (x2b : Nat) (x2o : Nat) (x7 : Int) (x8 : Bool) (x9a : Option Addr) (x9l : Nat) (x9c : Nat) (R : Ending → Mem → Prop) (m : Mem) : Prop :=
  Br (decide (x7 ≥ (x0.size : Int))) (
    k11  x2b x2o x7 x8 x9a x9l x9c true R m) (
    k11  x2b x2o x7 x8 x9a x9l x9c (((x9l : Nat) : Int) == 0) R m)
noncomputable def k10A  (R : Ending → Mem → Prop) : ACode := (.seq (.seq (.code (sL (sL (sR (sR (sR (sR (sR (sR (sR (body))))))))))) (.cut (k11E fun x2b x2o x7 x8 x9a x9l x9c x120 m => k11  x2b x2o x7 x8 x9a x9l x9c x120 R m) (sR (sL (sR (sR (sR (sR (sR (sR (sR (body)))))))))))) (.seq (.code (sL (sR (sR (sR (sR (sR (sR (sR (sR (body))))))))))) (.seq (.code (sL (sR (sR (sR (sR (sR (sR (sR (sR (sR (body)))))))))))) (.cut (k12E fun x2b x2o x7 x14b x14o m => k12  x2b x2o x7 x14b x14o R m) (sR (sR (sR (sR (sR (sR (sR (sR (sR (sR (body)))))))))))))))
def l5E (K : ByteArray → Nat → Nat → Int → Bool → Option Addr → Nat → Nat → Mem → Prop) : Env → Mem → Prop := fun ρ m => UnStr (ρ 0) fun x0 => UnPA (ρ 2) fun x2b x2o => UnI (ρ 7) .i64 fun x7 => UnB (ρ 8) fun x8 => UnS (ρ 9) fun x9a x9l x9c => K x0 x2b x2o x7 x8 x9a x9l x9c m
def l5B  (K5 : ByteArray → Nat → Nat → Int → Bool → Option Addr → Nat → Nat → Mem → Prop) (x0 : ByteArray) (x2b : Nat) (x2o : Nat) (x7 : Int) (x8 : Bool) (x9a : Option Addr) (x9l : Nat) (x9c : Nat) (R : Ending → Mem → Prop) (m : Mem) : Prop :=
  Br (decide (x7 < (x0.size : Int))) (
    IxB x0 x7 fun x60 =>
    Br (x60 != 93) (
      HC P eyotref8_sign.id #[.string x0, .int .i64 x7] m (Cont (fun v m1 =>
          UnTup v fun us0 =>
          UnCons us0 fun w us1 =>
          UnI w .u8 fun x66_0 =>
          UnCons us1 fun w us2 =>
          UnI w .i64 fun x66_1 =>
          UnNil us2 (
            Br (decide (x66_1 < 0)) (
              St1 m1 x2b x2o (.int .u64 0) fun m2 =>
              St1 m2 x2b (x2o + 1) (.int .u64 0) fun m3 =>
              St1 m3 x2b (x2o + 2) (.int .u64 0) fun m4 =>
              St1 m4 x2b (x2o + 3) (.int .u64 0) fun m5 =>
              LdV m5 x2b x2o fun v =>
              UnI v .u64 fun res0_0 =>
              LdV m5 x2b (x2o + 1) fun v =>
              UnI v .u64 fun res0_1 =>
              LdV m5 x2b (x2o + 2) fun v =>
              UnI v .u64 fun res0_2 =>
              LdV m5 x2b (x2o + 3) fun v =>
              UnI v .u64 fun res0_3 =>
              R (.returned (.tuple #[.agg #[.int .u64 res0_0, .int .u64 res0_1, .int .u64 res0_2, .int .u64 res0_3], .int .i64 0, .int .i64 2])) m5) (
              Br (decide (x66_1 < (x0.size : Int))) (
                IxB x0 x66_1 fun x80 =>
                k6 K5 x0 x2b x2o x8 x9a x9l x9c x66_0 x66_1 x66_0 (x80 == 45) R m1) (
                k6 K5 x0 x2b x2o x8 x9a x9l x9c x66_0 x66_1 x66_0 false R m1)))) (panicR R))) (
      k10  x0 x2b x2o x7 x8 x9a x9l x9c R m)) (
    k10  x0 x2b x2o x7 x8 x9a x9l x9c R m)
def l5  (x0 : ByteArray) (x2b : Nat) (x2o : Nat) (x7 : Int) (x8 : Bool) (x9a : Option Addr) (x9l : Nat) (x9c : Nat) (R : Ending → Mem → Prop) (m : Mem) : Prop :=
  ∃ (I : Nat → ByteArray → Nat → Nat → Int → Bool → Option Addr → Nat → Nat → Mem → Prop) (N : Nat), I N x0 x2b x2o x7 x8 x9a x9l x9c m ∧ ∀ N x0 x2b x2o x7 x8 x9a x9l x9c m, I N x0 x2b x2o x7 x8 x9a x9l x9c m → l5B  (fun x0 x2b x2o x7 x8 x9a x9l x9c m => ∃ N1, N1 < N ∧ I N1 x0 x2b x2o x7 x8 x9a x9l x9c m) x0 x2b x2o x7 x8 x9a x9l x9c R m
noncomputable def l5A  (K5 : ByteArray → Nat → Nat → Int → Bool → Option Addr → Nat → Nat → Mem → Prop) (R : Ending → Mem → Prop) : ACode := (.seq (.code (sL (lP (bB (sL (sR (sR (sR (sR (sR (sR (body)))))))))))) (.block 1 (.seq (.code (sL (bB (sR (lP (bB (sL (sR (sR (sR (sR (sR (sR (body)))))))))))))) (.seq (.code (sL (sR (bB (sR (lP (bB (sL (sR (sR (sR (sR (sR (sR (body))))))))))))))) (.seq (.code (sL (sR (sR (bB (sR (lP (bB (sL (sR (sR (sR (sR (sR (sR (body)))))))))))))))) (.seq (.seq (.code (sL (sL (sR (sR (sR (bB (sR (lP (bB (sL (sR (sR (sR (sR (sR (sR (body)))))))))))))))))) (.cut (k6E fun x0 x2b x2o x8 x9a x9l x9c x10 x11 x12 x82 m => k6 K5 x0 x2b x2o x8 x9a x9l x9c x10 x11 x12 x82 R m) (sR (sL (sR (sR (sR (bB (sR (lP (bB (sL (sR (sR (sR (sR (sR (sR (body))))))))))))))))))) (.cut (k8E fun x0 x2b x2o x8 x9a x9l x9c x10 x11 x12 m => k8 K5 x0 x2b x2o x8 x9a x9l x9c x10 x11 x12 R m) (sR (sR (sR (sR (bB (sR (lP (bB (sL (sR (sR (sR (sR (sR (sR (body)))))))))))))))))))))))
def k4E (K : ByteArray → Nat → Nat → Int → Bool → Mem → Prop) : Env → Mem → Prop := fun ρ m => UnStr (ρ 0) fun x0 => UnPA (ρ 2) fun x2b x2o => UnI (ρ 7) .i64 fun x7 => UnB (ρ 8) fun x8 => K x0 x2b x2o x7 x8 m
def k4  (x0 : ByteArray) (x2b : Nat) (x2o : Nat) (x7 : Int) (x8 : Bool) (R : Ending → Mem → Prop) (m : Mem) : Prop :=
  l5  x0 x2b x2o x7 x8 none 0 0 R m
noncomputable def k4A  (R : Ending → Mem → Prop) : ACode := (.seq (.code (sL (sR (sR (sR (sR (sR (body)))))))) (.seq (.block 0 (.cut (l5E fun x0 x2b x2o x7 x8 x9a x9l x9c m => l5  x0 x2b x2o x7 x8 x9a x9l x9c R m) (.loop (lP (bB (sL (sR (sR (sR (sR (sR (sR (body))))))))))))) (.cut (k10E fun x0 x2b x2o x7 x8 x9a x9l x9c m => k10  x0 x2b x2o x7 x8 x9a x9l x9c R m) (sR (sR (sR (sR (sR (sR (sR (body)))))))))))
def k3E (K : ByteArray → Nat → Nat → Bool → Mem → Prop) : Env → Mem → Prop := fun ρ m => UnStr (ρ 0) fun x0 => UnPA (ρ 2) fun x2b x2o => UnB (ρ 32) fun x32 => K x0 x2b x2o x32 m
def k3  (x0 : ByteArray) (x2b : Nat) (x2o : Nat) (x32 : Bool) (R : Ending → Mem → Prop) (m : Mem) : Prop :=
  Br x32 (
    HC P eyotref8_sign.id #[.string x0, .int .i64 0] m (Cont (fun v m1 =>
        UnTup v fun us0 =>
        UnCons us0 fun w us1 =>
        UnI w .u8 fun x35_0 =>
        UnCons us1 fun w us2 =>
        UnI w .i64 fun x35_1 =>
        UnNil us2 (
          Br (decide (x35_1 < 0)) (
            St1 m1 x2b x2o (.int .u64 0) fun m2 =>
            St1 m2 x2b (x2o + 1) (.int .u64 0) fun m3 =>
            St1 m3 x2b (x2o + 2) (.int .u64 0) fun m4 =>
            St1 m4 x2b (x2o + 3) (.int .u64 0) fun m5 =>
            LdV m5 x2b x2o fun v =>
            UnI v .u64 fun res0_0 =>
            LdV m5 x2b (x2o + 1) fun v =>
            UnI v .u64 fun res0_1 =>
            LdV m5 x2b (x2o + 2) fun v =>
            UnI v .u64 fun res0_2 =>
            LdV m5 x2b (x2o + 3) fun v =>
            UnI v .u64 fun res0_3 =>
            R (.returned (.tuple #[.agg #[.int .u64 res0_0, .int .u64 res0_1, .int .u64 res0_2, .int .u64 res0_3], .int .i64 0, .int .i64 2])) m5) (
            NewC m1 #[.int .u8 x35_0] T_uint8 fun b42 m2 =>
            HC P eyotref8_Of.id #[.slice (some ⟨b42, 0, none⟩) 1 1] m2 (Cont (fun v m3 =>
                UnAgg v fun l =>
                UnCons l fun v l =>
                UnI v .u64 fun x43_0 =>
                UnCons l fun v l =>
                UnI v .u64 fun x43_1 =>
                UnCons l fun v l =>
                UnI v .u64 fun x43_2 =>
                UnCons l fun v l =>
                UnI v .u64 fun x43_3 =>
                UnNil l (
                  St1 m3 x2b x2o (.int .u64 x43_0) fun m4 =>
                  St1 m4 x2b (x2o + 1) (.int .u64 x43_1) fun m5 =>
                  St1 m5 x2b (x2o + 2) (.int .u64 x43_2) fun m6 =>
                  St1 m6 x2b (x2o + 3) (.int .u64 x43_3) fun m7 =>
                  LdV m7 x2b x2o fun v =>
                  UnI v .u64 fun res0_0 =>
                  LdV m7 x2b (x2o + 1) fun v =>
                  UnI v .u64 fun res0_1 =>
                  LdV m7 x2b (x2o + 2) fun v =>
                  UnI v .u64 fun res0_2 =>
                  LdV m7 x2b (x2o + 3) fun v =>
                  UnI v .u64 fun res0_3 =>
                  R (.returned (.tuple #[.agg #[.int .u64 res0_0, .int .u64 res0_1, .int .u64 res0_2, .int .u64 res0_3], .int .i64 x35_1, .int .i64 0])) m7)) (panicR R))))) (panicR R))) (
    Br (decide ((x0.size : Int) > 1)) (
      IxB x0 1 fun x50 =>
      Br (x50 == 94) (
        k4  x0 x2b x2o 2 true R m) (
        k4  x0 x2b x2o 1 false R m)) (
      k4  x0 x2b x2o 1 false R m))
noncomputable def k3A  (R : Ending → Mem → Prop) : ACode := (.code (sR (sL (sR (sR (body))))))
def k2E (K : ByteArray → Nat → Nat → Mem → Prop) : Env → Mem → Prop := fun ρ m => UnStr (ρ 0) fun x0 => UnPA (ρ 2) fun x2b x2o => K x0 x2b x2o m
def k2  (x0 : ByteArray) (x2b : Nat) (x2o : Nat) (R : Ending → Mem → Prop) (m : Mem) : Prop :=
  Br ((x0.size : Int) == 0) (
    k3  x0 x2b x2o true R m) (
    IxB x0 0 fun x30 =>
    k3  x0 x2b x2o (x30 != 91) R m)
noncomputable def k2A  (R : Ending → Mem → Prop) : ACode := (.seq (.seq (.code (sL (sL (sR (sR (body)))))) (.cut (k3E fun x0 x2b x2o x32 m => k3  x0 x2b x2o x32 R m) (sR (sL (sR (sR (body))))))) (.seq (.code (sL (sR (sR (sR (body)))))) (.seq (.code (sL (sR (sR (sR (sR (body))))))) (.cut (k4E fun x0 x2b x2o x7 x8 m => k4  x0 x2b x2o x7 x8 R m) (sR (sR (sR (sR (sR (body))))))))))
def k1E (K : ByteArray → Nat → Nat → Bool → Mem → Prop) : Env → Mem → Prop := fun ρ m => UnStr (ρ 0) fun x0 => UnPA (ρ 2) fun x2b x2o => UnB (ρ 22) fun x22 => K x0 x2b x2o x22 m
def k1  (x0 : ByteArray) (x2b : Nat) (x2o : Nat) (x22 : Bool) (R : Ending → Mem → Prop) (m : Mem) : Prop :=
  Br x22 (
    HC P eyotref8_Not.id #[.agg #[.int .u64 0, .int .u64 0, .int .u64 0, .int .u64 0]] m (Cont (fun v m1 =>
        UnAgg v fun l =>
        UnCons l fun v l =>
        UnI v .u64 fun x24_0 =>
        UnCons l fun v l =>
        UnI v .u64 fun x24_1 =>
        UnCons l fun v l =>
        UnI v .u64 fun x24_2 =>
        UnCons l fun v l =>
        UnI v .u64 fun x24_3 =>
        UnNil l (
          St1 m1 x2b x2o (.int .u64 x24_0) fun m2 =>
          St1 m2 x2b (x2o + 1) (.int .u64 x24_1) fun m3 =>
          St1 m3 x2b (x2o + 2) (.int .u64 x24_2) fun m4 =>
          St1 m4 x2b (x2o + 3) (.int .u64 x24_3) fun m5 =>
          LdV m5 x2b x2o fun v =>
          UnI v .u64 fun res0_0 =>
          LdV m5 x2b (x2o + 1) fun v =>
          UnI v .u64 fun res0_1 =>
          LdV m5 x2b (x2o + 2) fun v =>
          UnI v .u64 fun res0_2 =>
          LdV m5 x2b (x2o + 3) fun v =>
          UnI v .u64 fun res0_3 =>
          R (.returned (.tuple #[.agg #[.int .u64 res0_0, .int .u64 res0_1, .int .u64 res0_2, .int .u64 res0_3], .int .i64 1, .int .i64 0])) m5)) (panicR R))) (
    k2  x0 x2b x2o R m)
noncomputable def k1A  (R : Ending → Mem → Prop) : ACode := (.code (sR (sL (sR (body)))))
def e0 (a0 : ByteArray) (R : Ending → Mem → Prop) (m : Mem) : Prop :=
  NewC m #[.int .u64 0, .int .u64 0, .int .u64 0, .int .u64 0] T_api_Set fun b2 m1 =>
  Br (decide ((a0.size : Int) > 0)) (
    IxB a0 0 fun x20 =>
    k1  a0 b2 0 (x20 == 46) R m1) (
    k1  a0 b2 0 false R m1)
noncomputable def e0A (R : Ending → Mem → Prop) : ACode := (.seq (.code (sL (body))) (.seq (.seq (.code (sL (sL (sR (body))))) (.cut (k1E fun x0 x2b x2o x22 m => k1  x0 x2b x2o x22 R m) (sR (sL (sR (body)))))) (.cut (k2E fun x0 x2b x2o m => k2  x0 x2b x2o R m) (sR (sR (body))))))
theorem l9_eq (K5 : ByteArray → Nat → Nat → Int → Bool → Option Addr → Nat → Nat → Mem → Prop) (K9 : ByteArray → Nat → Nat → Bool → Option Addr → Nat → Nat → Int → Int → Int → Mem → Prop) (R : Ending → Mem → Prop) (x0 : ByteArray) (x2b : Nat) (x2o : Nat) (x8 : Bool) (x9a : Option Addr) (x9l : Nat) (x9c : Nat) (x11 : Int) (x12 : Int) (x13 : Int) (ρ : Env) (m : Mem) : l9B K5 K9 x0 x2b x2o x8 x9a x9l x9c x11 x12 x13 R m = acpt P od (panicR R) (l9A K5 K9 R) (thenQ (l9E K9) (blockQ 2 (thenQ (acpt P od (panicR R) (.code (sR (sR (sR (sR (sR (bB (sR (lP (bB (sL (sR (sR (sR (sR (sR (sR (body)))))))))))))))))) (blockQ 1 (thenQ (l5E K5) (blockQ 0 (thenQ (acpt P od (panicR R) (.cut (k10E fun x0 x2b x2o x7 x8 x9a x9l x9c m => k10  x0 x2b x2o x7 x8 x9a x9l x9c R m) (sR (sR (sR (sR (sR (sR (sR (body))))))))) (bodyQ P fn R)) (bodyQ P fn R)))))) (blockQ 1 (thenQ (l5E K5) (blockQ 0 (thenQ (acpt P od (panicR R) (.cut (k10E fun x0 x2b x2o x7 x8 x9a x9l x9c m => k10  x0 x2b x2o x7 x8 x9a x9l x9c R m) (sR (sR (sR (sR (sR (sR (sR (body))))))))) (bodyQ P fn R)) (bodyQ P fn R)))))))) (upd (upd (upd (upd (upd (upd (upd ρ 13 (.int .i64 x13)) 12 (.int .u8 x12)) 11 (.int .i64 x11)) 9 (.slice x9a x9l x9c)) 8 (.bool x8)) 2 (.pointer (some ⟨x2b, x2o, none⟩))) 0 (.string x0)) m := by kernel_rfl
theorem l9_er (K5 : ByteArray → Nat → Nat → Int → Bool → Option Addr → Nat → Nat → Mem → Prop) (K9 : ByteArray → Nat → Nat → Bool → Option Addr → Nat → Nat → Int → Int → Int → Mem → Prop) (R : Ending → Mem → Prop) : (l9A K5 K9 R).erase = lP (bB (sR (sL (sR (sR (sR (sR (bB (sR (lP (bB (sL (sR (sR (sR (sR (sR (sR (body))))))))))))))))))) := by kernel_rfl
theorem l9_ok (K5 : ByteArray → Nat → Nat → Int → Bool → Option Addr → Nat → Nat → Mem → Prop) (R : Ending → Mem → Prop) (ρ : Env) (m : Mem) (h : (l9E fun x0 x2b x2o x8 x9a x9l x9c x11 x12 x13 m => l9 K5 x0 x2b x2o x8 x9a x9l x9c x11 x12 x13 R m) ρ m) : cpt P od (panicR R) (.loop (lP (bB (sR (sL (sR (sR (sR (sR (bB (sR (lP (bB (sL (sR (sR (sR (sR (sR (sR (body))))))))))))))))))))) (blockQ 2 (thenQ (acpt P od (panicR R) (.code (sR (sR (sR (sR (sR (bB (sR (lP (bB (sL (sR (sR (sR (sR (sR (sR (body)))))))))))))))))) (blockQ 1 (thenQ (l5E K5) (blockQ 0 (thenQ (acpt P od (panicR R) (.cut (k10E fun x0 x2b x2o x7 x8 x9a x9l x9c m => k10  x0 x2b x2o x7 x8 x9a x9l x9c R m) (sR (sR (sR (sR (sR (sR (sR (body))))))))) (bodyQ P fn R)) (bodyQ P fn R)))))) (blockQ 1 (thenQ (l5E K5) (blockQ 0 (thenQ (acpt P od (panicR R) (.cut (k10E fun x0 x2b x2o x7 x8 x9a x9l x9c m => k10  x0 x2b x2o x7 x8 x9a x9l x9c R m) (sR (sR (sR (sR (sR (sR (sR (body))))))))) (bodyQ P fn R)) (bodyQ P fn R))))))) ρ m := by
  unfold l9E at h
  obtain ⟨x0, e0, h⟩ := h.ex
  obtain ⟨x2b, x2o, e2, h⟩ := h.ex
  obtain ⟨x8, e8, h⟩ := h.ex
  obtain ⟨x9a, x9l, x9c, e9, h⟩ := h.ex
  obtain ⟨x11, e11, h⟩ := h.ex
  obtain ⟨x12, e12, h⟩ := h.ex
  obtain ⟨x13, e13, h⟩ := h.ex
  obtain ⟨I, N, h0, hs⟩ := h
  refine ⟨fun N => l9E (I N), N, (by show l9E (I N) ρ m; unfold l9E; rw [e0, e2, e8, e9, e11, e12, e13]; exact h0), ?_⟩
  clear h0 e0 e2 e8 e9 e11 e12 e13
  intro N ρ m h
  unfold l9E at h
  obtain ⟨x0, e0, h⟩ := h.ex
  obtain ⟨x2b, x2o, e2, h⟩ := h.ex
  obtain ⟨x8, e8, h⟩ := h.ex
  obtain ⟨x9a, x9l, x9c, e9, h⟩ := h.ex
  obtain ⟨x11, e11, h⟩ := h.ex
  obtain ⟨x12, e12, h⟩ := h.ex
  obtain ⟨x13, e13, h⟩ := h.ex
  refine cpt_mono (P := P) (lP (bB (sR (sL (sR (sR (sR (sR (bB (sR (lP (bB (sL (sR (sR (sR (sR (sR (sR (body)))))))))))))))))))) (Q := thenQ (l9E fun x0 x2b x2o x8 x9a x9l x9c x11 x12 x13 m => ∃ N1, N1 < N ∧ I N1 x0 x2b x2o x8 x9a x9l x9c x11 x12 x13 m) (blockQ 2 (thenQ (acpt P od (panicR R) (.code (sR (sR (sR (sR (sR (bB (sR (lP (bB (sL (sR (sR (sR (sR (sR (sR (body)))))))))))))))))) (blockQ 1 (thenQ (l5E K5) (blockQ 0 (thenQ (acpt P od (panicR R) (.cut (k10E fun x0 x2b x2o x7 x8 x9a x9l x9c m => k10  x0 x2b x2o x7 x8 x9a x9l x9c R m) (sR (sR (sR (sR (sR (sR (sR (body))))))))) (bodyQ P fn R)) (bodyQ P fn R)))))) (blockQ 1 (thenQ (l5E K5) (blockQ 0 (thenQ (acpt P od (panicR R) (.cut (k10E fun x0 x2b x2o x7 x8 x9a x9l x9c m => k10  x0 x2b x2o x7 x8 x9a x9l x9c R m) (sR (sR (sR (sR (sR (sR (sR (body))))))))) (bodyQ P fn R)) (bodyQ P fn R)))))))) (fun e ρ m h => ?_) ρ m ?_
  · cases e with
    | normal =>
      have h : l9E (fun x0 x2b x2o x8 x9a x9l x9c x11 x12 x13 m => ∃ N1, N1 < N ∧ I N1 x0 x2b x2o x8 x9a x9l x9c x11 x12 x13 m) ρ m := h
      unfold l9E at h
      obtain ⟨x0, e0, h⟩ := h.ex
      obtain ⟨x2b, x2o, e2, h⟩ := h.ex
      obtain ⟨x8, e8, h⟩ := h.ex
      obtain ⟨x9a, x9l, x9c, e9, h⟩ := h.ex
      obtain ⟨x11, e11, h⟩ := h.ex
      obtain ⟨x12, e12, h⟩ := h.ex
      obtain ⟨x13, e13, h⟩ := h.ex
      obtain ⟨N1, hlt, h⟩ := h
      exact ⟨N1, hlt, (by show l9E (I N1) ρ m; unfold l9E; rw [e0, e2, e8, e9, e11, e12, e13]; exact h)⟩
    | _ => exact h
  have hh := hs N x0 x2b x2o x8 x9a x9l x9c x11 x12 x13 m h
  generalize (fun x0 x2b x2o x8 x9a x9l x9c x11 x12 x13 m => ∃ N1, N1 < N ∧ I N1 x0 x2b x2o x8 x9a x9l x9c x11 x12 x13 m : ByteArray → Nat → Nat → Bool → Option Addr → Nat → Nat → Int → Int → Int → Mem → Prop) = K9 at hh ⊢
  rw [← upd_self e0, ← upd_self e2, ← upd_self e8, ← upd_self e9, ← upd_self e11, ← upd_self e12, ← upd_self e13]
  rw [← l9_er K5 K9 R]
  refine acpt_sound (P := P) (l9A K5 K9 R) _ _ _ True.intro ?_
  exact Eq.mp (l9_eq K5 K9 R x0 x2b x2o x8 x9a x9l x9c x11 x12 x13 ρ m) hh
theorem k8_eq (K5 : ByteArray → Nat → Nat → Int → Bool → Option Addr → Nat → Nat → Mem → Prop) (R : Ending → Mem → Prop) (x0 : ByteArray) (x2b : Nat) (x2o : Nat) (x8 : Bool) (x9a : Option Addr) (x9l : Nat) (x9c : Nat) (x10 : Int) (x11 : Int) (x12 : Int) (ρ : Env) (m : Mem) : k8 K5 x0 x2b x2o x8 x9a x9l x9c x10 x11 x12 R m = acpt P od (panicR R) (k8A K5 R) (blockQ 1 (thenQ (l5E K5) (blockQ 0 (thenQ (acpt P od (panicR R) (.cut (k10E fun x0 x2b x2o x7 x8 x9a x9l x9c m => k10  x0 x2b x2o x7 x8 x9a x9l x9c R m) (sR (sR (sR (sR (sR (sR (sR (body))))))))) (bodyQ P fn R)) (bodyQ P fn R))))) (upd (upd (upd (upd (upd (upd (upd ρ 12 (.int .u8 x12)) 11 (.int .i64 x11)) 10 (.int .u8 x10)) 9 (.slice x9a x9l x9c)) 8 (.bool x8)) 2 (.pointer (some ⟨x2b, x2o, none⟩))) 0 (.string x0)) m := by kernel_rfl
theorem k8_er (K5 : ByteArray → Nat → Nat → Int → Bool → Option Addr → Nat → Nat → Mem → Prop) (R : Ending → Mem → Prop) : (k8A K5 R).erase = sR (sR (sR (sR (bB (sR (lP (bB (sL (sR (sR (sR (sR (sR (sR (body))))))))))))))) := by kernel_rfl
theorem k8_ok (K5 : ByteArray → Nat → Nat → Int → Bool → Option Addr → Nat → Nat → Mem → Prop) (R : Ending → Mem → Prop) (ρ : Env) (m : Mem) (h : (k8E fun x0 x2b x2o x8 x9a x9l x9c x10 x11 x12 m => k8 K5 x0 x2b x2o x8 x9a x9l x9c x10 x11 x12 R m) ρ m) : cpt P od (panicR R) (sR (sR (sR (sR (bB (sR (lP (bB (sL (sR (sR (sR (sR (sR (sR (body)))))))))))))))) (blockQ 1 (thenQ (l5E K5) (blockQ 0 (thenQ (acpt P od (panicR R) (.cut (k10E fun x0 x2b x2o x7 x8 x9a x9l x9c m => k10  x0 x2b x2o x7 x8 x9a x9l x9c R m) (sR (sR (sR (sR (sR (sR (sR (body))))))))) (bodyQ P fn R)) (bodyQ P fn R))))) ρ m := by
  unfold k8E at h
  obtain ⟨x0, e0, h⟩ := h.ex
  obtain ⟨x2b, x2o, e2, h⟩ := h.ex
  obtain ⟨x8, e8, h⟩ := h.ex
  obtain ⟨x9a, x9l, x9c, e9, h⟩ := h.ex
  obtain ⟨x10, e10, h⟩ := h.ex
  obtain ⟨x11, e11, h⟩ := h.ex
  obtain ⟨x12, e12, h⟩ := h.ex
  rw [← upd_self e0, ← upd_self e2, ← upd_self e8, ← upd_self e9, ← upd_self e10, ← upd_self e11, ← upd_self e12]
  rw [← k8_er K5 R]
  refine acpt_sound (P := P) (k8A K5 R) _ _ _ ⟨True.intro, ⟨(fun ρ m h => l9_ok K5 R ρ m h), True.intro⟩⟩ ?_
  exact Eq.mp (k8_eq K5 R x0 x2b x2o x8 x9a x9l x9c x10 x11 x12 ρ m) h
theorem k7_eq (K5 : ByteArray → Nat → Nat → Int → Bool → Option Addr → Nat → Nat → Mem → Prop) (R : Ending → Mem → Prop) (x0 : ByteArray) (x2b : Nat) (x2o : Nat) (x8 : Bool) (x9a : Option Addr) (x9l : Nat) (x9c : Nat) (x10 : Int) (x11 : Int) (x12 : Int) (x96 : Bool) (ρ : Env) (m : Mem) : k7 K5 x0 x2b x2o x8 x9a x9l x9c x10 x11 x12 x96 R m = acpt P od (panicR R) (k7A K5 R) (thenQ (acpt P od (panicR R) (.cut (k8E fun x0 x2b x2o x8 x9a x9l x9c x10 x11 x12 m => k8 K5 x0 x2b x2o x8 x9a x9l x9c x10 x11 x12 R m) (sR (sR (sR (sR (bB (sR (lP (bB (sL (sR (sR (sR (sR (sR (sR (body))))))))))))))))) (blockQ 1 (thenQ (l5E K5) (blockQ 0 (thenQ (acpt P od (panicR R) (.cut (k10E fun x0 x2b x2o x7 x8 x9a x9l x9c m => k10  x0 x2b x2o x7 x8 x9a x9l x9c R m) (sR (sR (sR (sR (sR (sR (sR (body))))))))) (bodyQ P fn R)) (bodyQ P fn R)))))) (blockQ 1 (thenQ (l5E K5) (blockQ 0 (thenQ (acpt P od (panicR R) (.cut (k10E fun x0 x2b x2o x7 x8 x9a x9l x9c m => k10  x0 x2b x2o x7 x8 x9a x9l x9c R m) (sR (sR (sR (sR (sR (sR (sR (body))))))))) (bodyQ P fn R)) (bodyQ P fn R)))))) (upd (upd (upd (upd (upd (upd (upd (upd ρ 96 (.bool x96)) 12 (.int .u8 x12)) 11 (.int .i64 x11)) 10 (.int .u8 x10)) 9 (.slice x9a x9l x9c)) 8 (.bool x8)) 2 (.pointer (some ⟨x2b, x2o, none⟩))) 0 (.string x0)) m := by kernel_rfl
theorem k7_er (K5 : ByteArray → Nat → Nat → Int → Bool → Option Addr → Nat → Nat → Mem → Prop) (R : Ending → Mem → Prop) : (k7A K5 R).erase = sR (sR (cT (sR (sL (sR (sR (sR (bB (sR (lP (bB (sL (sR (sR (sR (sR (sR (sR (body))))))))))))))))))) := by kernel_rfl
theorem k7_ok (K5 : ByteArray → Nat → Nat → Int → Bool → Option Addr → Nat → Nat → Mem → Prop) (R : Ending → Mem → Prop) (ρ : Env) (m : Mem) (h : (k7E fun x0 x2b x2o x8 x9a x9l x9c x10 x11 x12 x96 m => k7 K5 x0 x2b x2o x8 x9a x9l x9c x10 x11 x12 x96 R m) ρ m) : cpt P od (panicR R) (sR (sR (cT (sR (sL (sR (sR (sR (bB (sR (lP (bB (sL (sR (sR (sR (sR (sR (sR (body)))))))))))))))))))) (thenQ (acpt P od (panicR R) (.cut (k8E fun x0 x2b x2o x8 x9a x9l x9c x10 x11 x12 m => k8 K5 x0 x2b x2o x8 x9a x9l x9c x10 x11 x12 R m) (sR (sR (sR (sR (bB (sR (lP (bB (sL (sR (sR (sR (sR (sR (sR (body))))))))))))))))) (blockQ 1 (thenQ (l5E K5) (blockQ 0 (thenQ (acpt P od (panicR R) (.cut (k10E fun x0 x2b x2o x7 x8 x9a x9l x9c m => k10  x0 x2b x2o x7 x8 x9a x9l x9c R m) (sR (sR (sR (sR (sR (sR (sR (body))))))))) (bodyQ P fn R)) (bodyQ P fn R)))))) (blockQ 1 (thenQ (l5E K5) (blockQ 0 (thenQ (acpt P od (panicR R) (.cut (k10E fun x0 x2b x2o x7 x8 x9a x9l x9c m => k10  x0 x2b x2o x7 x8 x9a x9l x9c R m) (sR (sR (sR (sR (sR (sR (sR (body))))))))) (bodyQ P fn R)) (bodyQ P fn R)))))) ρ m := by
  unfold k7E at h
  obtain ⟨x0, e0, h⟩ := h.ex
  obtain ⟨x2b, x2o, e2, h⟩ := h.ex
  obtain ⟨x8, e8, h⟩ := h.ex
  obtain ⟨x9a, x9l, x9c, e9, h⟩ := h.ex
  obtain ⟨x10, e10, h⟩ := h.ex
  obtain ⟨x11, e11, h⟩ := h.ex
  obtain ⟨x12, e12, h⟩ := h.ex
  obtain ⟨x96, e96, h⟩ := h.ex
  rw [← upd_self e0, ← upd_self e2, ← upd_self e8, ← upd_self e9, ← upd_self e10, ← upd_self e11, ← upd_self e12, ← upd_self e96]
  rw [← k7_er K5 R]
  refine acpt_sound (P := P) (k7A K5 R) _ _ _ True.intro ?_
  exact Eq.mp (k7_eq K5 R x0 x2b x2o x8 x9a x9l x9c x10 x11 x12 x96 ρ m) h
theorem k6_eq (K5 : ByteArray → Nat → Nat → Int → Bool → Option Addr → Nat → Nat → Mem → Prop) (R : Ending → Mem → Prop) (x0 : ByteArray) (x2b : Nat) (x2o : Nat) (x8 : Bool) (x9a : Option Addr) (x9l : Nat) (x9c : Nat) (x10 : Int) (x11 : Int) (x12 : Int) (x82 : Bool) (ρ : Env) (m : Mem) : k6 K5 x0 x2b x2o x8 x9a x9l x9c x10 x11 x12 x82 R m = acpt P od (panicR R) (k6A K5 R) (thenQ (acpt P od (panicR R) (.cut (k8E fun x0 x2b x2o x8 x9a x9l x9c x10 x11 x12 m => k8 K5 x0 x2b x2o x8 x9a x9l x9c x10 x11 x12 R m) (sR (sR (sR (sR (bB (sR (lP (bB (sL (sR (sR (sR (sR (sR (sR (body))))))))))))))))) (blockQ 1 (thenQ (l5E K5) (blockQ 0 (thenQ (acpt P od (panicR R) (.cut (k10E fun x0 x2b x2o x7 x8 x9a x9l x9c m => k10  x0 x2b x2o x7 x8 x9a x9l x9c R m) (sR (sR (sR (sR (sR (sR (sR (body))))))))) (bodyQ P fn R)) (bodyQ P fn R)))))) (blockQ 1 (thenQ (l5E K5) (blockQ 0 (thenQ (acpt P od (panicR R) (.cut (k10E fun x0 x2b x2o x7 x8 x9a x9l x9c m => k10  x0 x2b x2o x7 x8 x9a x9l x9c R m) (sR (sR (sR (sR (sR (sR (sR (body))))))))) (bodyQ P fn R)) (bodyQ P fn R)))))) (upd (upd (upd (upd (upd (upd (upd (upd ρ 82 (.bool x82)) 12 (.int .u8 x12)) 11 (.int .i64 x11)) 10 (.int .u8 x10)) 9 (.slice x9a x9l x9c)) 8 (.bool x8)) 2 (.pointer (some ⟨x2b, x2o, none⟩))) 0 (.string x0)) m := by kernel_rfl
theorem k6_er (K5 : ByteArray → Nat → Nat → Int → Bool → Option Addr → Nat → Nat → Mem → Prop) (R : Ending → Mem → Prop) : (k6A K5 R).erase = sR (sL (sR (sR (sR (bB (sR (lP (bB (sL (sR (sR (sR (sR (sR (sR (body)))))))))))))))) := by kernel_rfl
theorem k6_ok (K5 : ByteArray → Nat → Nat → Int → Bool → Option Addr → Nat → Nat → Mem → Prop) (R : Ending → Mem → Prop) (ρ : Env) (m : Mem) (h : (k6E fun x0 x2b x2o x8 x9a x9l x9c x10 x11 x12 x82 m => k6 K5 x0 x2b x2o x8 x9a x9l x9c x10 x11 x12 x82 R m) ρ m) : cpt P od (panicR R) (sR (sL (sR (sR (sR (bB (sR (lP (bB (sL (sR (sR (sR (sR (sR (sR (body))))))))))))))))) (thenQ (acpt P od (panicR R) (.cut (k8E fun x0 x2b x2o x8 x9a x9l x9c x10 x11 x12 m => k8 K5 x0 x2b x2o x8 x9a x9l x9c x10 x11 x12 R m) (sR (sR (sR (sR (bB (sR (lP (bB (sL (sR (sR (sR (sR (sR (sR (body))))))))))))))))) (blockQ 1 (thenQ (l5E K5) (blockQ 0 (thenQ (acpt P od (panicR R) (.cut (k10E fun x0 x2b x2o x7 x8 x9a x9l x9c m => k10  x0 x2b x2o x7 x8 x9a x9l x9c R m) (sR (sR (sR (sR (sR (sR (sR (body))))))))) (bodyQ P fn R)) (bodyQ P fn R)))))) (blockQ 1 (thenQ (l5E K5) (blockQ 0 (thenQ (acpt P od (panicR R) (.cut (k10E fun x0 x2b x2o x7 x8 x9a x9l x9c m => k10  x0 x2b x2o x7 x8 x9a x9l x9c R m) (sR (sR (sR (sR (sR (sR (sR (body))))))))) (bodyQ P fn R)) (bodyQ P fn R)))))) ρ m := by
  unfold k6E at h
  obtain ⟨x0, e0, h⟩ := h.ex
  obtain ⟨x2b, x2o, e2, h⟩ := h.ex
  obtain ⟨x8, e8, h⟩ := h.ex
  obtain ⟨x9a, x9l, x9c, e9, h⟩ := h.ex
  obtain ⟨x10, e10, h⟩ := h.ex
  obtain ⟨x11, e11, h⟩ := h.ex
  obtain ⟨x12, e12, h⟩ := h.ex
  obtain ⟨x82, e82, h⟩ := h.ex
  rw [← upd_self e0, ← upd_self e2, ← upd_self e8, ← upd_self e9, ← upd_self e10, ← upd_self e11, ← upd_self e12, ← upd_self e82]
  rw [← k6_er K5 R]
  refine acpt_sound (P := P) (k6A K5 R) _ _ _ ⟨⟨⟨(fun ρ m h => k7_ok K5 R ρ m h), True.intro⟩, True.intro⟩, True.intro⟩ ?_
  exact Eq.mp (k6_eq K5 R x0 x2b x2o x8 x9a x9l x9c x10 x11 x12 x82 ρ m) h
theorem k12_eq  (R : Ending → Mem → Prop) (x2b : Nat) (x2o : Nat) (x7 : Int) (x14b : Nat) (x14o : Nat) (ρ : Env) (m : Mem) : k12  x2b x2o x7 x14b x14o R m = acpt P od (panicR R) (k12A  R) (bodyQ P fn R) (upd (upd (upd ρ 14 (.pointer (some ⟨x14b, x14o, none⟩))) 7 (.int .i64 x7)) 2 (.pointer (some ⟨x2b, x2o, none⟩))) m := by kernel_rfl
theorem k12_er  (R : Ending → Mem → Prop) : (k12A  R).erase = sR (sR (sR (sR (sR (sR (sR (sR (sR (sR (body)))))))))) := by kernel_rfl
theorem k12_ok  (R : Ending → Mem → Prop) (ρ : Env) (m : Mem) (h : (k12E fun x2b x2o x7 x14b x14o m => k12  x2b x2o x7 x14b x14o R m) ρ m) : cpt P od (panicR R) (sR (sR (sR (sR (sR (sR (sR (sR (sR (sR (body))))))))))) (bodyQ P fn R) ρ m := by
  unfold k12E at h
  obtain ⟨x2b, x2o, e2, h⟩ := h.ex
  obtain ⟨x7, e7, h⟩ := h.ex
  obtain ⟨x14b, x14o, e14, h⟩ := h.ex
  rw [← upd_self e2, ← upd_self e7, ← upd_self e14]
  rw [← k12_er  R]
  refine acpt_sound (P := P) (k12A  R) _ _ _ True.intro ?_
  exact Eq.mp (k12_eq  R x2b x2o x7 x14b x14o ρ m) h
theorem k11_eq  (R : Ending → Mem → Prop) (x2b : Nat) (x2o : Nat) (x7 : Int) (x8 : Bool) (x9a : Option Addr) (x9l : Nat) (x9c : Nat) (x120 : Bool) (ρ : Env) (m : Mem) : k11  x2b x2o x7 x8 x9a x9l x9c x120 R m = acpt P od (panicR R) (k11A  R) (thenQ (acpt P od (panicR R) (.seq (.code (sL (sR (sR (sR (sR (sR (sR (sR (sR (body))))))))))) (.seq (.code (sL (sR (sR (sR (sR (sR (sR (sR (sR (sR (body)))))))))))) (.cut (k12E fun x2b x2o x7 x14b x14o m => k12  x2b x2o x7 x14b x14o R m) (sR (sR (sR (sR (sR (sR (sR (sR (sR (sR (body)))))))))))))) (bodyQ P fn R)) (bodyQ P fn R)) (upd (upd (upd (upd (upd ρ 120 (.bool x120)) 9 (.slice x9a x9l x9c)) 8 (.bool x8)) 7 (.int .i64 x7)) 2 (.pointer (some ⟨x2b, x2o, none⟩))) m := by kernel_rfl
theorem k11_er  (R : Ending → Mem → Prop) : (k11A  R).erase = sR (sL (sR (sR (sR (sR (sR (sR (sR (body))))))))) := by kernel_rfl
theorem k11_ok  (R : Ending → Mem → Prop) (ρ : Env) (m : Mem) (h : (k11E fun x2b x2o x7 x8 x9a x9l x9c x120 m => k11  x2b x2o x7 x8 x9a x9l x9c x120 R m) ρ m) : cpt P od (panicR R) (sR (sL (sR (sR (sR (sR (sR (sR (sR (body)))))))))) (thenQ (acpt P od (panicR R) (.seq (.code (sL (sR (sR (sR (sR (sR (sR (sR (sR (body))))))))))) (.seq (.code (sL (sR (sR (sR (sR (sR (sR (sR (sR (sR (body)))))))))))) (.cut (k12E fun x2b x2o x7 x14b x14o m => k12  x2b x2o x7 x14b x14o R m) (sR (sR (sR (sR (sR (sR (sR (sR (sR (sR (body)))))))))))))) (bodyQ P fn R)) (bodyQ P fn R)) ρ m := by
  unfold k11E at h
  obtain ⟨x2b, x2o, e2, h⟩ := h.ex
  obtain ⟨x7, e7, h⟩ := h.ex
  obtain ⟨x8, e8, h⟩ := h.ex
  obtain ⟨x9a, x9l, x9c, e9, h⟩ := h.ex
  obtain ⟨x120, e120, h⟩ := h.ex
  rw [← upd_self e2, ← upd_self e7, ← upd_self e8, ← upd_self e9, ← upd_self e120]
  rw [← k11_er  R]
  refine acpt_sound (P := P) (k11A  R) _ _ _ True.intro ?_
  exact Eq.mp (k11_eq  R x2b x2o x7 x8 x9a x9l x9c x120 ρ m) h
theorem k10_eq  (R : Ending → Mem → Prop) (x0 : ByteArray) (x2b : Nat) (x2o : Nat) (x7 : Int) (x8 : Bool) (x9a : Option Addr) (x9l : Nat) (x9c : Nat) (ρ : Env) (m : Mem) : k10  x0 x2b x2o x7 x8 x9a x9l x9c R m = acpt P od (panicR R) (k10A  R) (bodyQ P fn R) (upd (upd (upd (upd (upd ρ 9 (.slice x9a x9l x9c)) 8 (.bool x8)) 7 (.int .i64 x7)) 2 (.pointer (some ⟨x2b, x2o, none⟩))) 0 (.string x0)) m := by kernel_rfl
theorem k10_er  (R : Ending → Mem → Prop) : (k10A  R).erase = sR (sR (sR (sR (sR (sR (sR (body))))))) := by kernel_rfl
theorem k10_ok  (R : Ending → Mem → Prop) (ρ : Env) (m : Mem) (h : (k10E fun x0 x2b x2o x7 x8 x9a x9l x9c m => k10  x0 x2b x2o x7 x8 x9a x9l x9c R m) ρ m) : cpt P od (panicR R) (sR (sR (sR (sR (sR (sR (sR (body)))))))) (bodyQ P fn R) ρ m := by
  unfold k10E at h
  obtain ⟨x0, e0, h⟩ := h.ex
  obtain ⟨x2b, x2o, e2, h⟩ := h.ex
  obtain ⟨x7, e7, h⟩ := h.ex
  obtain ⟨x8, e8, h⟩ := h.ex
  obtain ⟨x9a, x9l, x9c, e9, h⟩ := h.ex
  rw [← upd_self e0, ← upd_self e2, ← upd_self e7, ← upd_self e8, ← upd_self e9]
  rw [← k10_er  R]
  refine acpt_sound (P := P) (k10A  R) _ _ _ ⟨⟨⟨(fun ρ m h => k12_ok  R ρ m h), True.intro⟩, True.intro⟩, ⟨(fun ρ m h => k11_ok  R ρ m h), True.intro⟩⟩ ?_
  exact Eq.mp (k10_eq  R x0 x2b x2o x7 x8 x9a x9l x9c ρ m) h
theorem l5_eq  (K5 : ByteArray → Nat → Nat → Int → Bool → Option Addr → Nat → Nat → Mem → Prop) (R : Ending → Mem → Prop) (x0 : ByteArray) (x2b : Nat) (x2o : Nat) (x7 : Int) (x8 : Bool) (x9a : Option Addr) (x9l : Nat) (x9c : Nat) (ρ : Env) (m : Mem) : l5B  K5 x0 x2b x2o x7 x8 x9a x9l x9c R m = acpt P od (panicR R) (l5A  K5 R) (thenQ (l5E K5) (blockQ 0 (thenQ (acpt P od (panicR R) (.cut (k10E fun x0 x2b x2o x7 x8 x9a x9l x9c m => k10  x0 x2b x2o x7 x8 x9a x9l x9c R m) (sR (sR (sR (sR (sR (sR (sR (body))))))))) (bodyQ P fn R)) (bodyQ P fn R)))) (upd (upd (upd (upd (upd ρ 9 (.slice x9a x9l x9c)) 8 (.bool x8)) 7 (.int .i64 x7)) 2 (.pointer (some ⟨x2b, x2o, none⟩))) 0 (.string x0)) m := by kernel_rfl
theorem l5_er  (K5 : ByteArray → Nat → Nat → Int → Bool → Option Addr → Nat → Nat → Mem → Prop) (R : Ending → Mem → Prop) : (l5A  K5 R).erase = lP (bB (sL (sR (sR (sR (sR (sR (sR (body))))))))) := by kernel_rfl
theorem l5_ok  (R : Ending → Mem → Prop) (ρ : Env) (m : Mem) (h : (l5E fun x0 x2b x2o x7 x8 x9a x9l x9c m => l5  x0 x2b x2o x7 x8 x9a x9l x9c R m) ρ m) : cpt P od (panicR R) (.loop (lP (bB (sL (sR (sR (sR (sR (sR (sR (body))))))))))) (blockQ 0 (thenQ (acpt P od (panicR R) (.cut (k10E fun x0 x2b x2o x7 x8 x9a x9l x9c m => k10  x0 x2b x2o x7 x8 x9a x9l x9c R m) (sR (sR (sR (sR (sR (sR (sR (body))))))))) (bodyQ P fn R)) (bodyQ P fn R))) ρ m := by
  unfold l5E at h
  obtain ⟨x0, e0, h⟩ := h.ex
  obtain ⟨x2b, x2o, e2, h⟩ := h.ex
  obtain ⟨x7, e7, h⟩ := h.ex
  obtain ⟨x8, e8, h⟩ := h.ex
  obtain ⟨x9a, x9l, x9c, e9, h⟩ := h.ex
  obtain ⟨I, N, h0, hs⟩ := h
  refine ⟨fun N => l5E (I N), N, (by show l5E (I N) ρ m; unfold l5E; rw [e0, e2, e7, e8, e9]; exact h0), ?_⟩
  clear h0 e0 e2 e7 e8 e9
  intro N ρ m h
  unfold l5E at h
  obtain ⟨x0, e0, h⟩ := h.ex
  obtain ⟨x2b, x2o, e2, h⟩ := h.ex
  obtain ⟨x7, e7, h⟩ := h.ex
  obtain ⟨x8, e8, h⟩ := h.ex
  obtain ⟨x9a, x9l, x9c, e9, h⟩ := h.ex
  refine cpt_mono (P := P) (lP (bB (sL (sR (sR (sR (sR (sR (sR (body)))))))))) (Q := thenQ (l5E fun x0 x2b x2o x7 x8 x9a x9l x9c m => ∃ N1, N1 < N ∧ I N1 x0 x2b x2o x7 x8 x9a x9l x9c m) (blockQ 0 (thenQ (acpt P od (panicR R) (.cut (k10E fun x0 x2b x2o x7 x8 x9a x9l x9c m => k10  x0 x2b x2o x7 x8 x9a x9l x9c R m) (sR (sR (sR (sR (sR (sR (sR (body))))))))) (bodyQ P fn R)) (bodyQ P fn R)))) (fun e ρ m h => ?_) ρ m ?_
  · cases e with
    | normal =>
      have h : l5E (fun x0 x2b x2o x7 x8 x9a x9l x9c m => ∃ N1, N1 < N ∧ I N1 x0 x2b x2o x7 x8 x9a x9l x9c m) ρ m := h
      unfold l5E at h
      obtain ⟨x0, e0, h⟩ := h.ex
      obtain ⟨x2b, x2o, e2, h⟩ := h.ex
      obtain ⟨x7, e7, h⟩ := h.ex
      obtain ⟨x8, e8, h⟩ := h.ex
      obtain ⟨x9a, x9l, x9c, e9, h⟩ := h.ex
      obtain ⟨N1, hlt, h⟩ := h
      exact ⟨N1, hlt, (by show l5E (I N1) ρ m; unfold l5E; rw [e0, e2, e7, e8, e9]; exact h)⟩
    | _ => exact h
  have hh := hs N x0 x2b x2o x7 x8 x9a x9l x9c m h
  generalize (fun x0 x2b x2o x7 x8 x9a x9l x9c m => ∃ N1, N1 < N ∧ I N1 x0 x2b x2o x7 x8 x9a x9l x9c m : ByteArray → Nat → Nat → Int → Bool → Option Addr → Nat → Nat → Mem → Prop) = K5 at hh ⊢
  rw [← upd_self e0, ← upd_self e2, ← upd_self e7, ← upd_self e8, ← upd_self e9]
  rw [← l5_er  K5 R]
  refine acpt_sound (P := P) (l5A  K5 R) _ _ _ ⟨⟨⟨⟨⟨(fun ρ m h => k8_ok K5 R ρ m h), ⟨(fun ρ m h => k6_ok K5 R ρ m h), True.intro⟩⟩, True.intro⟩, True.intro⟩, True.intro⟩, True.intro⟩ ?_
  exact Eq.mp (l5_eq  K5 R x0 x2b x2o x7 x8 x9a x9l x9c ρ m) hh
theorem k4_eq  (R : Ending → Mem → Prop) (x0 : ByteArray) (x2b : Nat) (x2o : Nat) (x7 : Int) (x8 : Bool) (ρ : Env) (m : Mem) : k4  x0 x2b x2o x7 x8 R m = acpt P od (panicR R) (k4A  R) (bodyQ P fn R) (upd (upd (upd (upd ρ 8 (.bool x8)) 7 (.int .i64 x7)) 2 (.pointer (some ⟨x2b, x2o, none⟩))) 0 (.string x0)) m := by kernel_rfl
theorem k4_er  (R : Ending → Mem → Prop) : (k4A  R).erase = sR (sR (sR (sR (sR (body))))) := by kernel_rfl
theorem k4_ok  (R : Ending → Mem → Prop) (ρ : Env) (m : Mem) (h : (k4E fun x0 x2b x2o x7 x8 m => k4  x0 x2b x2o x7 x8 R m) ρ m) : cpt P od (panicR R) (sR (sR (sR (sR (sR (body)))))) (bodyQ P fn R) ρ m := by
  unfold k4E at h
  obtain ⟨x0, e0, h⟩ := h.ex
  obtain ⟨x2b, x2o, e2, h⟩ := h.ex
  obtain ⟨x7, e7, h⟩ := h.ex
  obtain ⟨x8, e8, h⟩ := h.ex
  rw [← upd_self e0, ← upd_self e2, ← upd_self e7, ← upd_self e8]
  rw [← k4_er  R]
  refine acpt_sound (P := P) (k4A  R) _ _ _ ⟨⟨(fun ρ m h => k10_ok  R ρ m h), (fun ρ m h => l5_ok  R ρ m h)⟩, True.intro⟩ ?_
  exact Eq.mp (k4_eq  R x0 x2b x2o x7 x8 ρ m) h
theorem k3_eq  (R : Ending → Mem → Prop) (x0 : ByteArray) (x2b : Nat) (x2o : Nat) (x32 : Bool) (ρ : Env) (m : Mem) : k3  x0 x2b x2o x32 R m = acpt P od (panicR R) (k3A  R) (thenQ (acpt P od (panicR R) (.seq (.code (sL (sR (sR (sR (body)))))) (.seq (.code (sL (sR (sR (sR (sR (body))))))) (.cut (k4E fun x0 x2b x2o x7 x8 m => k4  x0 x2b x2o x7 x8 R m) (sR (sR (sR (sR (sR (body))))))))) (bodyQ P fn R)) (bodyQ P fn R)) (upd (upd (upd ρ 32 (.bool x32)) 2 (.pointer (some ⟨x2b, x2o, none⟩))) 0 (.string x0)) m := by kernel_rfl
theorem k3_er  (R : Ending → Mem → Prop) : (k3A  R).erase = sR (sL (sR (sR (body)))) := by kernel_rfl
theorem k3_ok  (R : Ending → Mem → Prop) (ρ : Env) (m : Mem) (h : (k3E fun x0 x2b x2o x32 m => k3  x0 x2b x2o x32 R m) ρ m) : cpt P od (panicR R) (sR (sL (sR (sR (body))))) (thenQ (acpt P od (panicR R) (.seq (.code (sL (sR (sR (sR (body)))))) (.seq (.code (sL (sR (sR (sR (sR (body))))))) (.cut (k4E fun x0 x2b x2o x7 x8 m => k4  x0 x2b x2o x7 x8 R m) (sR (sR (sR (sR (sR (body))))))))) (bodyQ P fn R)) (bodyQ P fn R)) ρ m := by
  unfold k3E at h
  obtain ⟨x0, e0, h⟩ := h.ex
  obtain ⟨x2b, x2o, e2, h⟩ := h.ex
  obtain ⟨x32, e32, h⟩ := h.ex
  rw [← upd_self e0, ← upd_self e2, ← upd_self e32]
  rw [← k3_er  R]
  refine acpt_sound (P := P) (k3A  R) _ _ _ True.intro ?_
  exact Eq.mp (k3_eq  R x0 x2b x2o x32 ρ m) h
theorem k2_eq  (R : Ending → Mem → Prop) (x0 : ByteArray) (x2b : Nat) (x2o : Nat) (ρ : Env) (m : Mem) : k2  x0 x2b x2o R m = acpt P od (panicR R) (k2A  R) (bodyQ P fn R) (upd (upd ρ 2 (.pointer (some ⟨x2b, x2o, none⟩))) 0 (.string x0)) m := by kernel_rfl
theorem k2_er  (R : Ending → Mem → Prop) : (k2A  R).erase = sR (sR (body)) := by kernel_rfl
theorem k2_ok  (R : Ending → Mem → Prop) (ρ : Env) (m : Mem) (h : (k2E fun x0 x2b x2o m => k2  x0 x2b x2o R m) ρ m) : cpt P od (panicR R) (sR (sR (body))) (bodyQ P fn R) ρ m := by
  unfold k2E at h
  obtain ⟨x0, e0, h⟩ := h.ex
  obtain ⟨x2b, x2o, e2, h⟩ := h.ex
  rw [← upd_self e0, ← upd_self e2]
  rw [← k2_er  R]
  refine acpt_sound (P := P) (k2A  R) _ _ _ ⟨⟨⟨(fun ρ m h => k4_ok  R ρ m h), True.intro⟩, True.intro⟩, ⟨(fun ρ m h => k3_ok  R ρ m h), True.intro⟩⟩ ?_
  exact Eq.mp (k2_eq  R x0 x2b x2o ρ m) h
theorem k1_eq  (R : Ending → Mem → Prop) (x0 : ByteArray) (x2b : Nat) (x2o : Nat) (x22 : Bool) (ρ : Env) (m : Mem) : k1  x0 x2b x2o x22 R m = acpt P od (panicR R) (k1A  R) (thenQ (acpt P od (panicR R) (.cut (k2E fun x0 x2b x2o m => k2  x0 x2b x2o R m) (sR (sR (body)))) (bodyQ P fn R)) (bodyQ P fn R)) (upd (upd (upd ρ 22 (.bool x22)) 2 (.pointer (some ⟨x2b, x2o, none⟩))) 0 (.string x0)) m := by kernel_rfl
theorem k1_er  (R : Ending → Mem → Prop) : (k1A  R).erase = sR (sL (sR (body))) := by kernel_rfl
theorem k1_ok  (R : Ending → Mem → Prop) (ρ : Env) (m : Mem) (h : (k1E fun x0 x2b x2o x22 m => k1  x0 x2b x2o x22 R m) ρ m) : cpt P od (panicR R) (sR (sL (sR (body)))) (thenQ (acpt P od (panicR R) (.cut (k2E fun x0 x2b x2o m => k2  x0 x2b x2o R m) (sR (sR (body)))) (bodyQ P fn R)) (bodyQ P fn R)) ρ m := by
  unfold k1E at h
  obtain ⟨x0, e0, h⟩ := h.ex
  obtain ⟨x2b, x2o, e2, h⟩ := h.ex
  obtain ⟨x22, e22, h⟩ := h.ex
  rw [← upd_self e0, ← upd_self e2, ← upd_self e22]
  rw [← k1_er  R]
  refine acpt_sound (P := P) (k1A  R) _ _ _ True.intro ?_
  exact Eq.mp (k1_eq  R x0 x2b x2o x22 ρ m) h
theorem e0_eq (a0 : ByteArray) (R : Ending → Mem → Prop) (m : Mem) : e0 a0 R m = acpt P od (panicR R) (e0A R) (bodyQ P fn R) (argE (#[.string a0] : Array Value).toList) m := by kernel_rfl
theorem ok (a0 : ByteArray) (R : Ending → Mem → Prop) (m : Mem) (h : e0 a0 R m) : HC P id #[.string a0] m R := by
  refine HC_of (fn := fn) (c := body) (od := od) (tb := tb) Go.Proofs.Tryd.func12 (by kernel_rfl) (by kernel_rfl) follows (by kernel_rfl) (of_decide_eq_true (by kernel_rfl)) ?_
  have he : (e0A R).erase = body := by kernel_rfl
  rw [← he]
  refine acpt_sound (P := P) (e0A R) _ _ _ ⟨⟨(fun ρ m h => k2_ok  R ρ m h), ⟨(fun ρ m h => k1_ok  R ρ m h), True.intro⟩⟩, True.intro⟩ ?_
  exact Eq.mp (e0_eq a0 R m) h
end eyotref8_Class

/-! ### eyot/eyotref8.Empty -/
namespace eyotref8_Empty
noncomputable def fn : Func := Go.Proofs.Tryd.f13
noncomputable def body : Code := fn.body.getD .skip
def od : Nat → Ord := fun _ => .done
def tb : Nat → Tab := fun _ => (0, [], [])
def e0 (s_0_0 : Int) (s_0_1 : Int) (s_0_2 : Int) (s_0_3 : Int) (R : Ending → Mem → Prop) (m : Mem) : Prop :=
  NewC m #[.int .u64 s_0_0, .int .u64 s_0_1, .int .u64 s_0_2, .int .u64 s_0_3] T_api_Set fun b_s_1 m1 =>
  LdV m1 b_s_1 0 fun v =>
  UnI v .u64 fun x3_0 =>
  LdV m1 b_s_1 1 fun v =>
  UnI v .u64 fun x3_1 =>
  LdV m1 b_s_1 2 fun v =>
  UnI v .u64 fun x3_2 =>
  LdV m1 b_s_1 3 fun v =>
  UnI v .u64 fun x3_3 =>
  R (.returned (.bool (eqL [.int .u64 x3_0, .int .u64 x3_1, .int .u64 x3_2, .int .u64 x3_3] [.int .u64 0, .int .u64 0, .int .u64 0, .int .u64 0]))) m1
noncomputable def e0A (R : Ending → Mem → Prop) : ACode := (.code (body))
theorem e0_eq (s_0_0 : Int) (s_0_1 : Int) (s_0_2 : Int) (s_0_3 : Int) (R : Ending → Mem → Prop) (m : Mem) : e0 s_0_0 s_0_1 s_0_2 s_0_3 R m = acpt P od (panicR R) (e0A R) (bodyQ P fn R) (argE (#[.agg #[.int .u64 s_0_0, .int .u64 s_0_1, .int .u64 s_0_2, .int .u64 s_0_3]] : Array Value).toList) m := by kernel_rfl
theorem ok (s_0_0 : Int) (s_0_1 : Int) (s_0_2 : Int) (s_0_3 : Int) (R : Ending → Mem → Prop) (m : Mem) (h : e0 s_0_0 s_0_1 s_0_2 s_0_3 R m) : HC P id #[.agg #[.int .u64 s_0_0, .int .u64 s_0_1, .int .u64 s_0_2, .int .u64 s_0_3]] m R := by
  refine HC_of (fn := fn) (c := body) (od := od) (tb := tb) Go.Proofs.Tryd.func13 (by kernel_rfl) (by kernel_rfl) follows (by kernel_rfl) (of_decide_eq_true (by kernel_rfl)) ?_
  have he : (e0A R).erase = body := by kernel_rfl
  rw [← he]
  refine acpt_sound (P := P) (e0A R) _ _ _ True.intro ?_
  exact Eq.mp (e0_eq s_0_0 s_0_1 s_0_2 s_0_3 R m) h
end eyotref8_Empty

/-! ### eyot/class.Show -/
namespace class_Show
noncomputable def fn : Func := Go.Proofs.Tryd.f14
noncomputable def body : Code := fn.body.getD .skip
def od : Nat → Ord := fun | 4 => ordL [(0, 1), (1, 3), (2, 0), (3, 3), (4, 3)] .done | 6 => ordL [(0, 3), (1, 3), (2, 3), (3, 3), (4, 3), (5, 3), (6, 3), (7, 1), (8, 3), (9, 3), (10, 3), (11, 0), (12, 3), (13, 3), (14, 3)] .done | _ => .done
def tb : Nat → Tab := fun | 4 => (0, [0, 0, 2, 7, 15], [(0, 2, 15), (0, 0, 16), (2, 32768, 17), (5, 81920, 18), (12, 131072, 14)]) | 6 => (0, [0, 1, 3, 7, 15, 31, 63, 127, 15, 271, 783, 1807, 4095, 8191, 16383], [(0, 8, 20), (1, 524288, 21), (2, 1048576, 22), (4, 2097152, 23), (8, 4194312, 24), (24, 12582912, 25), (40, 20971520, 26), (72, 37748736, 27), (8, 4194312, 28), (264, 138412032, 29), (520, 272629760, 30), (1032, 541065216, 31), (2184, 1145044992, 32), (4104, 2151677952, 33), (8200, 4294967296, 19)]) | _ => (0, [], [])
def l3E (K : ByteArray → Option Addr → Nat → Nat → Int → Int → Mem → Prop) : Env → Mem → Prop := fun ρ m => UnStr (ρ 4) fun out_4 => UnS (ρ 38) fun x38a x38l x38c => UnI (ρ 39) .i64 fun x39 => UnI (ρ 40) .i64 fun x40 => K out_4 x38a x38l x38c x39 x40 m
def l3B  (K3 : ByteArray → Option Addr → Nat → Nat → Int → Int → Mem → Prop) (out_4 : ByteArray) (x38a : Option Addr) (x38l : Nat) (x38c : Nat) (x39 : Int) (x40 : Int) (R : Ending → Mem → Prop) (m : Mem) : Prop :=
  Br (decide (x40 < x39)) (
    IxS x38a x38l x40 2 fun x42b x42o =>
    LdV m x42b x42o fun v =>
    UnI v .u8 fun x43_0 =>
    LdV m x42b (x42o + 1) fun v =>
    UnI v .u8 fun x43_1 =>
    NewC m #[.int .u8 0, .int .u8 0] T_arr2_uint8 fun b_r_6 m1 =>
    St1 m1 b_r_6 0 (.int .u8 x43_0) fun m2 =>
    St1 m2 b_r_6 1 (.int .u8 x43_1) fun m3 =>
    LdV m3 b_r_6 0 fun v =>
    UnI v .u8 fun x45_0 =>
    LdV m3 b_r_6 1 fun v =>
    UnI v .u8 fun x45_1 =>
    HC P class_shown.id #[.agg #[.int .u8 x45_0, .int .u8 x45_1]] m3 (Cont (fun v m4 =>
        UnStr v fun x46 =>
        CatB out_4 x46 (
          K3 (out_4 ++ x46) x38a x38l x38c x39 (IntKind.i64.wrap (x40 + 1)) m4)) (panicR R))) (
    CatB out_4 (ByteArray.mk #[93]) (
      R (.returned (.string (out_4 ++ (ByteArray.mk #[93])))) m))
def l3  (out_4 : ByteArray) (x38a : Option Addr) (x38l : Nat) (x38c : Nat) (x39 : Int) (x40 : Int) (R : Ending → Mem → Prop) (m : Mem) : Prop :=
  ∃ (I : Nat → ByteArray → Option Addr → Nat → Nat → Int → Int → Mem → Prop) (N : Nat), I N out_4 x38a x38l x38c x39 x40 m ∧ ∀ N out_4 x38a x38l x38c x39 x40 m, I N out_4 x38a x38l x38c x39 x40 m → l3B  (fun out_4 x38a x38l x38c x39 x40 m => ∃ N1, N1 < N ∧ I N1 out_4 x38a x38l x38c x39 x40 m) out_4 x38a x38l x38c x39 x40 R m
noncomputable def l3A  (K3 : ByteArray → Option Addr → Nat → Nat → Int → Int → Mem → Prop) (R : Ending → Mem → Prop) : ACode := (.code (lP (bB (sR (sL (sR (sR (sR (sR (body))))))))))
def k2E (K : Option Addr → Nat → Nat → Mem → Prop) : Env → Mem → Prop := fun ρ m => UnS (ρ 3) fun l_3a l_3l l_3c => K l_3a l_3l l_3c m
def k2  (l_3a : Option Addr) (l_3l : Nat) (l_3c : Nat) (R : Ending → Mem → Prop) (m : Mem) : Prop :=
  l3  (ByteArray.mk #[91]) l_3a l_3l l_3c ((l_3l : Nat) : Int) 0 R m
noncomputable def k2A  (R : Ending → Mem → Prop) : ACode := (.seq (.code (sL (sR (sR (sR (body)))))) (.seq (.seq (.code (sL (sL (sR (sR (sR (sR (body)))))))) (.block 1 (.cut (l3E fun out_4 x38a x38l x38c x39 x40 m => l3  out_4 x38a x38l x38c x39 x40 R m) (.loop (lP (bB (sR (sL (sR (sR (sR (sR (body))))))))))))) (.code (sR (sR (sR (sR (sR (body)))))))))
def k1E (K : Option Addr → Nat → Nat → Bool → Mem → Prop) : Env → Mem → Prop := fun ρ m => UnS (ρ 3) fun l_3a l_3l l_3c => UnB (ρ 18) fun x18 => K l_3a l_3l l_3c x18 m
def k1  (l_3a : Option Addr) (l_3l : Nat) (l_3c : Nat) (x18 : Bool) (R : Ending → Mem → Prop) (m : Mem) : Prop :=
  Br x18 (
    IxS l_3a l_3l 0 2 fun x34b x34o =>
    0 ≤ (0 : Int) ∧ (0 : Int) < (2 : Nat) ∧ (
      LdV m x34b (x34o + (0 : Int).toNat * 1) fun v =>
      UnI v .u8 fun x36 =>
      HC P class_sign.id #[.int .u8 x36] m (Cont (fun v m1 =>
          UnStr v fun x37 =>
          R (.returned (.string x37)) m1) (panicR R)))) (
    k2  l_3a l_3l l_3c R m)
noncomputable def k1A  (R : Ending → Mem → Prop) : ACode := (.code (sR (cE (sR (cE (sR (bB (sL (sR (sR (body)))))))))))
def e0 (s_0_0 : Int) (s_0_1 : Int) (s_0_2 : Int) (s_0_3 : Int) (R : Ending → Mem → Prop) (m : Mem) : Prop :=
  NewC m #[.int .u64 s_0_0, .int .u64 s_0_1, .int .u64 s_0_2, .int .u64 s_0_3] T_api_Set fun b_s_1 m1 =>
  LdV m1 b_s_1 0 fun v =>
  UnI v .u64 fun x7_0 =>
  LdV m1 b_s_1 1 fun v =>
  UnI v .u64 fun x7_1 =>
  LdV m1 b_s_1 2 fun v =>
  UnI v .u64 fun x7_2 =>
  LdV m1 b_s_1 3 fun v =>
  UnI v .u64 fun x7_3 =>
  HC P class_runs.id #[.agg #[.int .u64 x7_0, .int .u64 x7_1, .int .u64 x7_2, .int .u64 x7_3]] m1 (Cont (fun v m2 =>
      UnS v fun x8a x8l x8c =>
      Br (((x8l : Nat) : Int) == 0) (
        R (.returned (.string (ByteArray.mk #[]))) m2) (
        Sub m2 fun r3 =>
        LdV r3 b_s_1 0 fun v =>
        UnI v .u64 fun x14_0 =>
        LdV r3 b_s_1 1 fun v =>
        UnI v .u64 fun x14_1 =>
        LdV r3 b_s_1 2 fun v =>
        UnI v .u64 fun x14_2 =>
        LdV r3 b_s_1 3 fun v =>
        UnI v .u64 fun x14_3 =>
        HC P class_Not.id #[.agg #[.int .u64 0, .int .u64 0, .int .u64 0, .int .u64 0]] m2 (Cont (fun v m4 =>
            UnAgg v fun l =>
            UnCons l fun v l =>
            UnI v .u64 fun x16_0 =>
            UnCons l fun v l =>
            UnI v .u64 fun x16_1 =>
            UnCons l fun v l =>
            UnI v .u64 fun x16_2 =>
            UnCons l fun v l =>
            UnI v .u64 fun x16_3 =>
            UnNil l (
              Lk r3 m4 fun r5 =>
              Br (eqL [.int .u64 x14_0, .int .u64 x14_1, .int .u64 x14_2, .int .u64 x14_3] [.int .u64 x16_0, .int .u64 x16_1, .int .u64 x16_2, .int .u64 x16_3]) (
                R (.returned (.string (ByteArray.mk #[46]))) m4) (
                Sub m4 fun r6 =>
                Br (((x8l : Nat) : Int) == 1) (
                  IxS x8a x8l 0 2 fun x24b x24o =>
                  0 ≤ (0 : Int) ∧ (0 : Int) < (2 : Nat) ∧ (
                    LdV r6 x24b (x24o + (0 : Int).toNat * 1) fun v =>
                    UnI v .u8 fun x26 =>
                    IxS x8a x8l 0 2 fun x28b x28o =>
                    0 ≤ (1 : Int) ∧ (1 : Int) < (2 : Nat) ∧ (
                      LdV m4 x28b (x28o + (1 : Int).toNat * 1) fun v =>
                      UnI v .u8 fun x30 =>
                      k1  x8a x8l x8c (x26 == x30) R m4))) (
                  k1  x8a x8l x8c false R m4)))) (panicR R)))) (panicR R))
noncomputable def e0A (R : Ending → Mem → Prop) : ACode := (.seq (.code (sL (body))) (.seq (.code (sL (sR (body)))) (.seq (.block 0 (.seq (.code (sL (bB (sL (sR (sR (body))))))) (.cond (.tmp 9) (.code (cT (sR (bB (sL (sR (sR (body)))))))) (.seq (.code (sL (cE (sR (bB (sL (sR (sR (body))))))))) (.cond (.tmp 13) (.code (cT (sR (cE (sR (bB (sL (sR (sR (body)))))))))) (.seq (.code (sL (cE (sR (cE (sR (bB (sL (sR (sR (body))))))))))) (.cut (k1E fun l_3a l_3l l_3c x18 m => k1  l_3a l_3l l_3c x18 R m) (sR (cE (sR (cE (sR (bB (sL (sR (sR (body))))))))))))))))) (.cut (k2E fun l_3a l_3l l_3c m => k2  l_3a l_3l l_3c R m) (sR (sR (sR (body))))))))
theorem l3_eq  (K3 : ByteArray → Option Addr → Nat → Nat → Int → Int → Mem → Prop) (R : Ending → Mem → Prop) (out_4 : ByteArray) (x38a : Option Addr) (x38l : Nat) (x38c : Nat) (x39 : Int) (x40 : Int) (ρ : Env) (m : Mem) : l3B  K3 out_4 x38a x38l x38c x39 x40 R m = acpt P od (panicR R) (l3A  K3 R) (thenQ (l3E K3) (blockQ 1 (thenQ (acpt P od (panicR R) (.code (sR (sR (sR (sR (sR (body))))))) (bodyQ P fn R)) (bodyQ P fn R)))) (upd (upd (upd (upd ρ 40 (.int .i64 x40)) 39 (.int .i64 x39)) 38 (.slice x38a x38l x38c)) 4 (.string out_4)) m := by kernel_rfl
theorem l3_er  (K3 : ByteArray → Option Addr → Nat → Nat → Int → Int → Mem → Prop) (R : Ending → Mem → Prop) : (l3A  K3 R).erase = lP (bB (sR (sL (sR (sR (sR (sR (body)))))))) := by kernel_rfl
theorem l3_ok  (R : Ending → Mem → Prop) (ρ : Env) (m : Mem) (h : (l3E fun out_4 x38a x38l x38c x39 x40 m => l3  out_4 x38a x38l x38c x39 x40 R m) ρ m) : cpt P od (panicR R) (.loop (lP (bB (sR (sL (sR (sR (sR (sR (body)))))))))) (blockQ 1 (thenQ (acpt P od (panicR R) (.code (sR (sR (sR (sR (sR (body))))))) (bodyQ P fn R)) (bodyQ P fn R))) ρ m := by
  unfold l3E at h
  obtain ⟨out_4, e4, h⟩ := h.ex
  obtain ⟨x38a, x38l, x38c, e38, h⟩ := h.ex
  obtain ⟨x39, e39, h⟩ := h.ex
  obtain ⟨x40, e40, h⟩ := h.ex
  obtain ⟨I, N, h0, hs⟩ := h
  refine ⟨fun N => l3E (I N), N, (by show l3E (I N) ρ m; unfold l3E; rw [e4, e38, e39, e40]; exact h0), ?_⟩
  clear h0 e4 e38 e39 e40
  intro N ρ m h
  unfold l3E at h
  obtain ⟨out_4, e4, h⟩ := h.ex
  obtain ⟨x38a, x38l, x38c, e38, h⟩ := h.ex
  obtain ⟨x39, e39, h⟩ := h.ex
  obtain ⟨x40, e40, h⟩ := h.ex
  refine cpt_mono (P := P) (lP (bB (sR (sL (sR (sR (sR (sR (body))))))))) (Q := thenQ (l3E fun out_4 x38a x38l x38c x39 x40 m => ∃ N1, N1 < N ∧ I N1 out_4 x38a x38l x38c x39 x40 m) (blockQ 1 (thenQ (acpt P od (panicR R) (.code (sR (sR (sR (sR (sR (body))))))) (bodyQ P fn R)) (bodyQ P fn R)))) (fun e ρ m h => ?_) ρ m ?_
  · cases e with
    | normal =>
      have h : l3E (fun out_4 x38a x38l x38c x39 x40 m => ∃ N1, N1 < N ∧ I N1 out_4 x38a x38l x38c x39 x40 m) ρ m := h
      unfold l3E at h
      obtain ⟨out_4, e4, h⟩ := h.ex
      obtain ⟨x38a, x38l, x38c, e38, h⟩ := h.ex
      obtain ⟨x39, e39, h⟩ := h.ex
      obtain ⟨x40, e40, h⟩ := h.ex
      obtain ⟨N1, hlt, h⟩ := h
      exact ⟨N1, hlt, (by show l3E (I N1) ρ m; unfold l3E; rw [e4, e38, e39, e40]; exact h)⟩
    | _ => exact h
  have hh := hs N out_4 x38a x38l x38c x39 x40 m h
  generalize (fun out_4 x38a x38l x38c x39 x40 m => ∃ N1, N1 < N ∧ I N1 out_4 x38a x38l x38c x39 x40 m : ByteArray → Option Addr → Nat → Nat → Int → Int → Mem → Prop) = K3 at hh ⊢
  rw [← upd_self e4, ← upd_self e38, ← upd_self e39, ← upd_self e40]
  rw [← l3_er  K3 R]
  refine acpt_sound (P := P) (l3A  K3 R) _ _ _ True.intro ?_
  exact Eq.mp (l3_eq  K3 R out_4 x38a x38l x38c x39 x40 ρ m) hh
theorem k2_eq  (R : Ending → Mem → Prop) (l_3a : Option Addr) (l_3l : Nat) (l_3c : Nat) (ρ : Env) (m : Mem) : k2  l_3a l_3l l_3c R m = acpt P od (panicR R) (k2A  R) (bodyQ P fn R) (upd ρ 3 (.slice l_3a l_3l l_3c)) m := by kernel_rfl
theorem k2_er  (R : Ending → Mem → Prop) : (k2A  R).erase = sR (sR (sR (body))) := by kernel_rfl
theorem k2_ok  (R : Ending → Mem → Prop) (ρ : Env) (m : Mem) (h : (k2E fun l_3a l_3l l_3c m => k2  l_3a l_3l l_3c R m) ρ m) : cpt P od (panicR R) (sR (sR (sR (body)))) (bodyQ P fn R) ρ m := by
  unfold k2E at h
  obtain ⟨l_3a, l_3l, l_3c, e3, h⟩ := h.ex
  rw [← upd_self e3]
  rw [← k2_er  R]
  refine acpt_sound (P := P) (k2A  R) _ _ _ ⟨⟨True.intro, ⟨(fun ρ m h => l3_ok  R ρ m h), True.intro⟩⟩, True.intro⟩ ?_
  exact Eq.mp (k2_eq  R l_3a l_3l l_3c ρ m) h
theorem k1_eq  (R : Ending → Mem → Prop) (l_3a : Option Addr) (l_3l : Nat) (l_3c : Nat) (x18 : Bool) (ρ : Env) (m : Mem) : k1  l_3a l_3l l_3c x18 R m = acpt P od (panicR R) (k1A  R) (blockQ 0 (thenQ (acpt P od (panicR R) (.cut (k2E fun l_3a l_3l l_3c m => k2  l_3a l_3l l_3c R m) (sR (sR (sR (body))))) (bodyQ P fn R)) (bodyQ P fn R))) (upd (upd ρ 18 (.bool x18)) 3 (.slice l_3a l_3l l_3c)) m := by kernel_rfl
theorem k1_er  (R : Ending → Mem → Prop) : (k1A  R).erase = sR (cE (sR (cE (sR (bB (sL (sR (sR (body))))))))) := by kernel_rfl
theorem k1_ok  (R : Ending → Mem → Prop) (ρ : Env) (m : Mem) (h : (k1E fun l_3a l_3l l_3c x18 m => k1  l_3a l_3l l_3c x18 R m) ρ m) : cpt P od (panicR R) (sR (cE (sR (cE (sR (bB (sL (sR (sR (body)))))))))) (blockQ 0 (thenQ (acpt P od (panicR R) (.cut (k2E fun l_3a l_3l l_3c m => k2  l_3a l_3l l_3c R m) (sR (sR (sR (body))))) (bodyQ P fn R)) (bodyQ P fn R))) ρ m := by
  unfold k1E at h
  obtain ⟨l_3a, l_3l, l_3c, e3, h⟩ := h.ex
  obtain ⟨x18, e18, h⟩ := h.ex
  rw [← upd_self e3, ← upd_self e18]
  rw [← k1_er  R]
  refine acpt_sound (P := P) (k1A  R) _ _ _ True.intro ?_
  exact Eq.mp (k1_eq  R l_3a l_3l l_3c x18 ρ m) h
theorem e0_eq (s_0_0 : Int) (s_0_1 : Int) (s_0_2 : Int) (s_0_3 : Int) (R : Ending → Mem → Prop) (m : Mem) : e0 s_0_0 s_0_1 s_0_2 s_0_3 R m = acpt P od (panicR R) (e0A R) (bodyQ P fn R) (argE (#[.agg #[.int .u64 s_0_0, .int .u64 s_0_1, .int .u64 s_0_2, .int .u64 s_0_3]] : Array Value).toList) m := by kernel_rfl
theorem ok (s_0_0 : Int) (s_0_1 : Int) (s_0_2 : Int) (s_0_3 : Int) (R : Ending → Mem → Prop) (m : Mem) (h : e0 s_0_0 s_0_1 s_0_2 s_0_3 R m) : HC P id #[.agg #[.int .u64 s_0_0, .int .u64 s_0_1, .int .u64 s_0_2, .int .u64 s_0_3]] m R := by
  refine HC_of (fn := fn) (c := body) (od := od) (tb := tb) Go.Proofs.Tryd.func14 (by kernel_rfl) (by kernel_rfl) follows (by kernel_rfl) (of_decide_eq_true (by kernel_rfl)) ?_
  have he : (e0A R).erase = body := by kernel_rfl
  rw [← he]
  refine acpt_sound (P := P) (e0A R) _ _ _ ⟨⟨⟨(fun ρ m h => k2_ok  R ρ m h), ⟨⟨True.intro, ⟨⟨True.intro, ⟨(fun ρ m h => k1_ok  R ρ m h), True.intro⟩⟩, True.intro⟩⟩, True.intro⟩⟩, True.intro⟩, True.intro⟩ ?_
  exact Eq.mp (e0_eq s_0_0 s_0_1 s_0_2 s_0_3 R m) h
end class_Show

/-! ### eyot/eyotlaw8.sign -/
namespace eyotlaw8_sign
noncomputable def fn : Func := Go.Proofs.Tryd.f15
noncomputable def body : Code := fn.body.getD .skip
def od : Nat → Ord := fun | 1 => ordL [(0, 3), (1, 3), (2, 3), (3, 3), (4, 3), (5, 3), (6, 3), (7, 3), (8, 2), (9, 2), (10, 3)] .done | _ => .done
def tb : Nat → Tab := fun | 1 => (768, [0, 0, 2, 7, 0, 0, 32, 112, 255, 511, 1023], [(0, 2, 6), (0, 1, 7), (2, 64, 8), (5, 160, 9), (0, 2, 10), (0, 1, 11), (32, 1024, 12), (80, 2560, 13), (136, 4352, 14), (256, 8192, 15), (1023, 16384, 5)]) | _ => (0, [], [])
def e0 (a_0 : Int) (digits_1 : ByteArray) (R : Ending → Mem → Prop) (m : Mem) : Prop :=
  Sub m fun r1 =>
  IxB digits_1 (IntKind.u8.wrap (Int.tdiv a_0 16)) fun x8 =>
  IxB digits_1 (Int.tmod a_0 16) fun x12 =>
  NewC m #[.int .u8 92, .int .u8 120, .int .u8 x8, .int .u8 x12] T_uint8 fun b13 m2 =>
  B2S m2 (some ⟨b13, 0, none⟩) 4 fun s14 =>
  R (.returned (.string s14)) m2
noncomputable def e0A (R : Ending → Mem → Prop) : ACode := (.code (body))
theorem e0_eq (a_0 : Int) (digits_1 : ByteArray) (R : Ending → Mem → Prop) (m : Mem) : e0 a_0 digits_1 R m = acpt P od (panicR R) (e0A R) (bodyQ P fn R) (argE (#[.int .u8 a_0, .string digits_1] : Array Value).toList) m := by kernel_rfl
theorem ok (a_0 : Int) (digits_1 : ByteArray) (R : Ending → Mem → Prop) (m : Mem) (h : e0 a_0 digits_1 R m) : HC P id #[.int .u8 a_0, .string digits_1] m R := by
  refine HC_of (fn := fn) (c := body) (od := od) (tb := tb) Go.Proofs.Tryd.func15 (by kernel_rfl) (by kernel_rfl) follows (by kernel_rfl) (of_decide_eq_true (by kernel_rfl)) ?_
  have he : (e0A R).erase = body := by kernel_rfl
  rw [← he]
  refine acpt_sound (P := P) (e0A R) _ _ _ True.intro ?_
  exact Eq.mp (e0_eq a_0 digits_1 R m) h
end eyotlaw8_sign

/-! ### eyot/class.Or -/
namespace class_Or
noncomputable def fn : Func := Go.Proofs.Tryd.f16
noncomputable def body : Code := fn.body.getD .skip
def od : Nat → Ord := fun _ => .done
def tb : Nat → Tab := fun _ => (0, [], [])
def e0 (a_0_0 : Int) (a_0_1 : Int) (a_0_2 : Int) (a_0_3 : Int) (b_1_0 : Int) (b_1_1 : Int) (b_1_2 : Int) (b_1_3 : Int) (R : Ending → Mem → Prop) (m : Mem) : Prop :=
  NewC m #[.int .u64 a_0_0, .int .u64 a_0_1, .int .u64 a_0_2, .int .u64 a_0_3] T_api_Set fun b_a_2 m1 =>
  NewC m1 #[.int .u64 b_1_0, .int .u64 b_1_1, .int .u64 b_1_2, .int .u64 b_1_3] T_api_Set fun b_3 m2 =>
  NewC m2 #[.int .u64 0, .int .u64 0, .int .u64 0, .int .u64 0] T_api_Set fun b4 m3 =>
  LdV m3 b_a_2 0 fun v =>
  UnI v .u64 fun x5_0 =>
  LdV m3 b_a_2 1 fun v =>
  UnI v .u64 fun x5_1 =>
  LdV m3 b_a_2 2 fun v =>
  UnI v .u64 fun x5_2 =>
  LdV m3 b_a_2 3 fun v =>
  UnI v .u64 fun x5_3 =>
  LdV m3 b_3 0 fun v =>
  UnI v .u64 fun x6_0 =>
  LdV m3 b_3 1 fun v =>
  UnI v .u64 fun x6_1 =>
  LdV m3 b_3 2 fun v =>
  UnI v .u64 fun x6_2 =>
  LdV m3 b_3 3 fun v =>
  UnI v .u64 fun x6_3 =>
  HC P class_with.id #[.agg #[.int .u64 x5_0, .int .u64 x5_1, .int .u64 x5_2, .int .u64 x5_3], .agg #[.int .u64 x6_0, .int .u64 x6_1, .int .u64 x6_2, .int .u64 x6_3], .func (.func class_Or_1.id) #[] #[]] m3 (Cont (fun v m4 =>
      UnAgg v fun l =>
      UnCons l fun v l =>
      UnI v .u64 fun x7_0 =>
      UnCons l fun v l =>
      UnI v .u64 fun x7_1 =>
      UnCons l fun v l =>
      UnI v .u64 fun x7_2 =>
      UnCons l fun v l =>
      UnI v .u64 fun x7_3 =>
      UnNil l (
        St1 m4 b4 0 (.int .u64 x7_0) fun m5 =>
        St1 m5 b4 1 (.int .u64 x7_1) fun m6 =>
        St1 m6 b4 2 (.int .u64 x7_2) fun m7 =>
        St1 m7 b4 3 (.int .u64 x7_3) fun m8 =>
        LdV m8 b4 0 fun v =>
        UnI v .u64 fun res0_0 =>
        LdV m8 b4 1 fun v =>
        UnI v .u64 fun res0_1 =>
        LdV m8 b4 2 fun v =>
        UnI v .u64 fun res0_2 =>
        LdV m8 b4 3 fun v =>
        UnI v .u64 fun res0_3 =>
        R (.returned (.agg #[.int .u64 res0_0, .int .u64 res0_1, .int .u64 res0_2, .int .u64 res0_3])) m8)) (panicR R))
noncomputable def e0A (R : Ending → Mem → Prop) : ACode := (.code (body))
theorem e0_eq (a_0_0 : Int) (a_0_1 : Int) (a_0_2 : Int) (a_0_3 : Int) (b_1_0 : Int) (b_1_1 : Int) (b_1_2 : Int) (b_1_3 : Int) (R : Ending → Mem → Prop) (m : Mem) : e0 a_0_0 a_0_1 a_0_2 a_0_3 b_1_0 b_1_1 b_1_2 b_1_3 R m = acpt P od (panicR R) (e0A R) (bodyQ P fn R) (argE (#[.agg #[.int .u64 a_0_0, .int .u64 a_0_1, .int .u64 a_0_2, .int .u64 a_0_3], .agg #[.int .u64 b_1_0, .int .u64 b_1_1, .int .u64 b_1_2, .int .u64 b_1_3]] : Array Value).toList) m := by kernel_rfl
theorem ok (a_0_0 : Int) (a_0_1 : Int) (a_0_2 : Int) (a_0_3 : Int) (b_1_0 : Int) (b_1_1 : Int) (b_1_2 : Int) (b_1_3 : Int) (R : Ending → Mem → Prop) (m : Mem) (h : e0 a_0_0 a_0_1 a_0_2 a_0_3 b_1_0 b_1_1 b_1_2 b_1_3 R m) : HC P id #[.agg #[.int .u64 a_0_0, .int .u64 a_0_1, .int .u64 a_0_2, .int .u64 a_0_3], .agg #[.int .u64 b_1_0, .int .u64 b_1_1, .int .u64 b_1_2, .int .u64 b_1_3]] m R := by
  refine HC_of (fn := fn) (c := body) (od := od) (tb := tb) Go.Proofs.Tryd.func16 (by kernel_rfl) (by kernel_rfl) follows (by kernel_rfl) (of_decide_eq_true (by kernel_rfl)) ?_
  have he : (e0A R).erase = body := by kernel_rfl
  rw [← he]
  refine acpt_sound (P := P) (e0A R) _ _ _ True.intro ?_
  exact Eq.mp (e0_eq a_0_0 a_0_1 a_0_2 a_0_3 b_1_0 b_1_1 b_1_2 b_1_3 R m) h
end class_Or

/-! ### eyot/class.Of -/
namespace class_Of
noncomputable def fn : Func := Go.Proofs.Tryd.f17
noncomputable def body : Code := fn.body.getD .skip
def od : Nat → Ord := fun _ => .done
def tb : Nat → Tab := fun _ => (0, [], [])
def l1E (K : Nat → Nat → Nat → Nat → Option Addr → Nat → Nat → Int → Int → Mem → Prop) : Env → Mem → Prop := fun ρ m => UnPA (ρ 2) fun x2b x2o => UnPA (ρ 3) fun s_3b s_3o => UnS (ρ 6) fun x6a x6l x6c => UnI (ρ 7) .i64 fun x7 => UnI (ρ 8) .i64 fun x8 => K x2b x2o s_3b s_3o x6a x6l x6c x7 x8 m
def l1B  (K1 : Nat → Nat → Nat → Nat → Option Addr → Nat → Nat → Int → Int → Mem → Prop) (x2b : Nat) (x2o : Nat) (s_3b : Nat) (s_3o : Nat) (x6a : Option Addr) (x6l : Nat) (x6c : Nat) (x7 : Int) (x8 : Int) (R : Ending → Mem → Prop) (m : Mem) : Prop :=
  Br (decide (x8 < x7)) (
    IxS x6a x6l x8 1 fun x10b x10o =>
    LdV m x10b x10o fun v =>
    UnI v .u8 fun x11 =>
    0 ≤ (IntKind.u8.wrap (Int.tdiv x11 64) : Int) ∧ (IntKind.u8.wrap (Int.tdiv x11 64) : Int) < (4 : Nat) ∧ (
      LdV m s_3b (s_3o + (IntKind.u8.wrap (Int.tdiv x11 64) : Int).toNat * 1) fun v =>
      UnI v .u64 fun x15 =>
      NnI (Int.tmod x11 64) (
        0 ≤ (IntKind.u8.wrap (Int.tdiv x11 64) : Int) ∧ (IntKind.u8.wrap (Int.tdiv x11 64) : Int) < (4 : Nat) ∧ (
          St1 m s_3b (s_3o + (IntKind.u8.wrap (Int.tdiv x11 64) : Int).toNat * 1) (.int .u64 (bitsV .or .u64 x15 (shlV .u64 1 (Int.tmod x11 64)))) fun m1 =>
          K1 x2b x2o s_3b s_3o x6a x6l x6c x7 (IntKind.i64.wrap (x8 + 1)) m1)))) (
    LdV m s_3b s_3o fun v =>
    UnI v .u64 fun x22_0 =>
    LdV m s_3b (s_3o + 1) fun v =>
    UnI v .u64 fun x22_1 =>
    LdV m s_3b (s_3o + 2) fun v =>
    UnI v .u64 fun x22_2 =>
    LdV m s_3b (s_3o + 3) fun v =>
    UnI v .u64 fun x22_3 =>
    St1 m x2b x2o (.int .u64 x22_0) fun m1 =>
    St1 m1 x2b (x2o + 1) (.int .u64 x22_1) fun m2 =>
    St1 m2 x2b (x2o + 2) (.int .u64 x22_2) fun m3 =>
    St1 m3 x2b (x2o + 3) (.int .u64 x22_3) fun m4 =>
    LdV m4 x2b x2o fun v =>
    UnI v .u64 fun res0_0 =>
    LdV m4 x2b (x2o + 1) fun v =>
    UnI v .u64 fun res0_1 =>
    LdV m4 x2b (x2o + 2) fun v =>
    UnI v .u64 fun res0_2 =>
    LdV m4 x2b (x2o + 3) fun v =>
    UnI v .u64 fun res0_3 =>
    R (.returned (.agg #[.int .u64 res0_0, .int .u64 res0_1, .int .u64 res0_2, .int .u64 res0_3])) m4)
def l1  (x2b : Nat) (x2o : Nat) (s_3b : Nat) (s_3o : Nat) (x6a : Option Addr) (x6l : Nat) (x6c : Nat) (x7 : Int) (x8 : Int) (R : Ending → Mem → Prop) (m : Mem) : Prop :=
  ∃ (I : Nat → Nat → Nat → Nat → Nat → Option Addr → Nat → Nat → Int → Int → Mem → Prop) (N : Nat), I N x2b x2o s_3b s_3o x6a x6l x6c x7 x8 m ∧ ∀ N x2b x2o s_3b s_3o x6a x6l x6c x7 x8 m, I N x2b x2o s_3b s_3o x6a x6l x6c x7 x8 m → l1B  (fun x2b x2o s_3b s_3o x6a x6l x6c x7 x8 m => ∃ N1, N1 < N ∧ I N1 x2b x2o s_3b s_3o x6a x6l x6c x7 x8 m) x2b x2o s_3b s_3o x6a x6l x6c x7 x8 R m
noncomputable def l1A  (K1 : Nat → Nat → Nat → Nat → Option Addr → Nat → Nat → Int → Int → Mem → Prop) (R : Ending → Mem → Prop) : ACode := (.code (lP (bB (sR (sL (sR (sR (body))))))))
def e0 (l_0a : Option Addr) (l_0l : Nat) (l_0c : Nat) (R : Ending → Mem → Prop) (m : Mem) : Prop :=
  NewC m #[.int .u64 0, .int .u64 0, .int .u64 0, .int .u64 0] T_api_Set fun b2 m1 =>
  NewC m1 #[.int .u64 0, .int .u64 0, .int .u64 0, .int .u64 0] T_api_Set fun b_s_3 m2 =>
  l1  b2 0 b_s_3 0 l_0a l_0l l_0c ((l_0l : Nat) : Int) 0 R m2
noncomputable def e0A (R : Ending → Mem → Prop) : ACode := (.seq (.code (sL (body))) (.seq (.code (sL (sR (body)))) (.seq (.seq (.code (sL (sL (sR (sR (body)))))) (.block 0 (.cut (l1E fun x2b x2o s_3b s_3o x6a x6l x6c x7 x8 m => l1  x2b x2o s_3b s_3o x6a x6l x6c x7 x8 R m) (.loop (lP (bB (sR (sL (sR (sR (body))))))))))) (.code (sR (sR (sR (body))))))))
theorem l1_eq  (K1 : Nat → Nat → Nat → Nat → Option Addr → Nat → Nat → Int → Int → Mem → Prop) (R : Ending → Mem → Prop) (x2b : Nat) (x2o : Nat) (s_3b : Nat) (s_3o : Nat) (x6a : Option Addr) (x6l : Nat) (x6c : Nat) (x7 : Int) (x8 : Int) (ρ : Env) (m : Mem) : l1B  K1 x2b x2o s_3b s_3o x6a x6l x6c x7 x8 R m = acpt P od (panicR R) (l1A  K1 R) (thenQ (l1E K1) (blockQ 0 (thenQ (acpt P od (panicR R) (.code (sR (sR (sR (body))))) (bodyQ P fn R)) (bodyQ P fn R)))) (upd (upd (upd (upd (upd ρ 8 (.int .i64 x8)) 7 (.int .i64 x7)) 6 (.slice x6a x6l x6c)) 3 (.pointer (some ⟨s_3b, s_3o, none⟩))) 2 (.pointer (some ⟨x2b, x2o, none⟩))) m := by kernel_rfl
theorem l1_er  (K1 : Nat → Nat → Nat → Nat → Option Addr → Nat → Nat → Int → Int → Mem → Prop) (R : Ending → Mem → Prop) : (l1A  K1 R).erase = lP (bB (sR (sL (sR (sR (body)))))) := by kernel_rfl
theorem l1_ok  (R : Ending → Mem → Prop) (ρ : Env) (m : Mem) (h : (l1E fun x2b x2o s_3b s_3o x6a x6l x6c x7 x8 m => l1  x2b x2o s_3b s_3o x6a x6l x6c x7 x8 R m) ρ m) : cpt P od (panicR R) (.loop (lP (bB (sR (sL (sR (sR (body)))))))) (blockQ 0 (thenQ (acpt P od (panicR R) (.code (sR (sR (sR (body))))) (bodyQ P fn R)) (bodyQ P fn R))) ρ m := by
  unfold l1E at h
  obtain ⟨x2b, x2o, e2, h⟩ := h.ex
  obtain ⟨s_3b, s_3o, e3, h⟩ := h.ex
  obtain ⟨x6a, x6l, x6c, e6, h⟩ := h.ex
  obtain ⟨x7, e7, h⟩ := h.ex
  obtain ⟨x8, e8, h⟩ := h.ex
  obtain ⟨I, N, h0, hs⟩ := h
  refine ⟨fun N => l1E (I N), N, (by show l1E (I N) ρ m; unfold l1E; rw [e2, e3, e6, e7, e8]; exact h0), ?_⟩
  clear h0 e2 e3 e6 e7 e8
  intro N ρ m h
  unfold l1E at h
  obtain ⟨x2b, x2o, e2, h⟩ := h.ex
  obtain ⟨s_3b, s_3o, e3, h⟩ := h.ex
  obtain ⟨x6a, x6l, x6c, e6, h⟩ := h.ex
  obtain ⟨x7, e7, h⟩ := h.ex
  obtain ⟨x8, e8, h⟩ := h.ex
  refine cpt_mono (P := P) (lP (bB (sR (sL (sR (sR (body))))))) (Q := thenQ (l1E fun x2b x2o s_3b s_3o x6a x6l x6c x7 x8 m => ∃ N1, N1 < N ∧ I N1 x2b x2o s_3b s_3o x6a x6l x6c x7 x8 m) (blockQ 0 (thenQ (acpt P od (panicR R) (.code (sR (sR (sR (body))))) (bodyQ P fn R)) (bodyQ P fn R)))) (fun e ρ m h => ?_) ρ m ?_
  · cases e with
    | normal =>
      have h : l1E (fun x2b x2o s_3b s_3o x6a x6l x6c x7 x8 m => ∃ N1, N1 < N ∧ I N1 x2b x2o s_3b s_3o x6a x6l x6c x7 x8 m) ρ m := h
      unfold l1E at h
      obtain ⟨x2b, x2o, e2, h⟩ := h.ex
      obtain ⟨s_3b, s_3o, e3, h⟩ := h.ex
      obtain ⟨x6a, x6l, x6c, e6, h⟩ := h.ex
      obtain ⟨x7, e7, h⟩ := h.ex
      obtain ⟨x8, e8, h⟩ := h.ex
      obtain ⟨N1, hlt, h⟩ := h
      exact ⟨N1, hlt, (by show l1E (I N1) ρ m; unfold l1E; rw [e2, e3, e6, e7, e8]; exact h)⟩
    | _ => exact h
  have hh := hs N x2b x2o s_3b s_3o x6a x6l x6c x7 x8 m h
  generalize (fun x2b x2o s_3b s_3o x6a x6l x6c x7 x8 m => ∃ N1, N1 < N ∧ I N1 x2b x2o s_3b s_3o x6a x6l x6c x7 x8 m : Nat → Nat → Nat → Nat → Option Addr → Nat → Nat → Int → Int → Mem → Prop) = K1 at hh ⊢
  rw [← upd_self e2, ← upd_self e3, ← upd_self e6, ← upd_self e7, ← upd_self e8]
  rw [← l1_er  K1 R]
  refine acpt_sound (P := P) (l1A  K1 R) _ _ _ True.intro ?_
  exact Eq.mp (l1_eq  K1 R x2b x2o s_3b s_3o x6a x6l x6c x7 x8 ρ m) hh
theorem e0_eq (l_0a : Option Addr) (l_0l : Nat) (l_0c : Nat) (R : Ending → Mem → Prop) (m : Mem) : e0 l_0a l_0l l_0c R m = acpt P od (panicR R) (e0A R) (bodyQ P fn R) (argE (#[.slice l_0a l_0l l_0c] : Array Value).toList) m := by kernel_rfl
theorem ok (l_0a : Option Addr) (l_0l : Nat) (l_0c : Nat) (R : Ending → Mem → Prop) (m : Mem) (h : e0 l_0a l_0l l_0c R m) : HC P id #[.slice l_0a l_0l l_0c] m R := by
  refine HC_of (fn := fn) (c := body) (od := od) (tb := tb) Go.Proofs.Tryd.func17 (by kernel_rfl) (by kernel_rfl) follows (by kernel_rfl) (of_decide_eq_true (by kernel_rfl)) ?_
  have he : (e0A R).erase = body := by kernel_rfl
  rw [← he]
  refine acpt_sound (P := P) (e0A R) _ _ _ ⟨⟨⟨True.intro, ⟨(fun ρ m h => l1_ok  R ρ m h), True.intro⟩⟩, True.intro⟩, True.intro⟩ ?_
  exact Eq.mp (e0_eq l_0a l_0l l_0c R m) h
end class_Of

/-! ### eyot/class.Not -/
namespace class_Not
noncomputable def fn : Func := Go.Proofs.Tryd.f18
noncomputable def body : Code := fn.body.getD .skip
def od : Nat → Ord := fun _ => .done
def tb : Nat → Tab := fun _ => (0, [], [])
def e0 (a_0_0 : Int) (a_0_1 : Int) (a_0_2 : Int) (a_0_3 : Int) (R : Ending → Mem → Prop) (m : Mem) : Prop :=
  NewC m #[.int .u64 a_0_0, .int .u64 a_0_1, .int .u64 a_0_2, .int .u64 a_0_3] T_api_Set fun b_a_1 m1 =>
  NewC m1 #[.int .u64 0, .int .u64 0, .int .u64 0, .int .u64 0] T_api_Set fun b2 m2 =>
  LdV m2 b_a_1 0 fun v =>
  UnI v .u64 fun x3_0 =>
  LdV m2 b_a_1 1 fun v =>
  UnI v .u64 fun x3_1 =>
  LdV m2 b_a_1 2 fun v =>
  UnI v .u64 fun x3_2 =>
  LdV m2 b_a_1 3 fun v =>
  UnI v .u64 fun x3_3 =>
  LdV m2 b_a_1 0 fun v =>
  UnI v .u64 fun x4_0 =>
  LdV m2 b_a_1 1 fun v =>
  UnI v .u64 fun x4_1 =>
  LdV m2 b_a_1 2 fun v =>
  UnI v .u64 fun x4_2 =>
  LdV m2 b_a_1 3 fun v =>
  UnI v .u64 fun x4_3 =>
  HC P class_with.id #[.agg #[.int .u64 x3_0, .int .u64 x3_1, .int .u64 x3_2, .int .u64 x3_3], .agg #[.int .u64 x4_0, .int .u64 x4_1, .int .u64 x4_2, .int .u64 x4_3], .func (.func class_Not_1.id) #[] #[]] m2 (Cont (fun v m3 =>
      UnAgg v fun l =>
      UnCons l fun v l =>
      UnI v .u64 fun x5_0 =>
      UnCons l fun v l =>
      UnI v .u64 fun x5_1 =>
      UnCons l fun v l =>
      UnI v .u64 fun x5_2 =>
      UnCons l fun v l =>
      UnI v .u64 fun x5_3 =>
      UnNil l (
        St1 m3 b2 0 (.int .u64 x5_0) fun m4 =>
        St1 m4 b2 1 (.int .u64 x5_1) fun m5 =>
        St1 m5 b2 2 (.int .u64 x5_2) fun m6 =>
        St1 m6 b2 3 (.int .u64 x5_3) fun m7 =>
        LdV m7 b2 0 fun v =>
        UnI v .u64 fun res0_0 =>
        LdV m7 b2 1 fun v =>
        UnI v .u64 fun res0_1 =>
        LdV m7 b2 2 fun v =>
        UnI v .u64 fun res0_2 =>
        LdV m7 b2 3 fun v =>
        UnI v .u64 fun res0_3 =>
        R (.returned (.agg #[.int .u64 res0_0, .int .u64 res0_1, .int .u64 res0_2, .int .u64 res0_3])) m7)) (panicR R))
noncomputable def e0A (R : Ending → Mem → Prop) : ACode := (.code (body))
theorem e0_eq (a_0_0 : Int) (a_0_1 : Int) (a_0_2 : Int) (a_0_3 : Int) (R : Ending → Mem → Prop) (m : Mem) : e0 a_0_0 a_0_1 a_0_2 a_0_3 R m = acpt P od (panicR R) (e0A R) (bodyQ P fn R) (argE (#[.agg #[.int .u64 a_0_0, .int .u64 a_0_1, .int .u64 a_0_2, .int .u64 a_0_3]] : Array Value).toList) m := by kernel_rfl
theorem ok (a_0_0 : Int) (a_0_1 : Int) (a_0_2 : Int) (a_0_3 : Int) (R : Ending → Mem → Prop) (m : Mem) (h : e0 a_0_0 a_0_1 a_0_2 a_0_3 R m) : HC P id #[.agg #[.int .u64 a_0_0, .int .u64 a_0_1, .int .u64 a_0_2, .int .u64 a_0_3]] m R := by
  refine HC_of (fn := fn) (c := body) (od := od) (tb := tb) Go.Proofs.Tryd.func18 (by kernel_rfl) (by kernel_rfl) follows (by kernel_rfl) (of_decide_eq_true (by kernel_rfl)) ?_
  have he : (e0A R).erase = body := by kernel_rfl
  rw [← he]
  refine acpt_sound (P := P) (e0A R) _ _ _ True.intro ?_
  exact Eq.mp (e0_eq a_0_0 a_0_1 a_0_2 a_0_3 R m) h
end class_Not

/-! ### eyot/eyotref8.ShowClass -/
namespace eyotref8_ShowClass
noncomputable def fn : Func := Go.Proofs.Tryd.f19
noncomputable def body : Code := fn.body.getD .skip
def od : Nat → Ord := fun | 13 => ordL [(0, 3), (1, 3), (2, 3), (3, 3), (4, 3), (5, 3), (6, 3), (7, 3), (8, 3), (9, 3), (10, 1), (11, 3), (12, 3), (13, 3), (14, 0), (15, 3), (16, 3), (17, 3)] .done | _ => .done
def tb : Nat → Tab := fun | 13 => (0, [0, 1, 0, 4, 15, 31, 63, 63, 191, 511, 1023, 63, 63, 6207, 14399, 30783, 65535, 131071], [(0, 64, 27), (1, 67108864, 28), (0, 8, 29), (4, 268435456, 30), (10, 671088640, 31), (16, 1073741824, 32), (32, 2147483656, 33), (32, 2147483712, 34), (160, 10737418240, 35), (352, 23622320128, 36), (544, 36507222016, 37), (32, 2147483656, 38), (32, 2147483712, 39), (6176, 414464344064, 40), (8224, 551903297536, 41), (16416, 1101659111424, 42), (33824, 2269890215936, 43), (65568, 4400193994752, 44)]) | _ => (0, [], [])
def k4E (K : Option Addr → Nat → Nat → ByteArray → Int → Int → Mem → Prop) : Env → Mem → Prop := fun ρ m => UnS (ρ 3) fun x3a x3l x3c => UnStr (ρ 4) fun x4 => UnI (ρ 5) .i64 fun x5 => UnI (ρ 6) .i64 fun x6 => K x3a x3l x3c x4 x5 x6 m
def k4 (K1 : Option Addr → Nat → Nat → ByteArray → Int → Mem → Prop) (x3a : Option Addr) (x3l : Nat) (x3c : Nat) (x4 : ByteArray) (x5 : Int) (x6 : Int) (R : Ending → Mem → Prop) (m : Mem) : Prop :=
  Br (decide (x6 > x5)) (
    IxS x3a x3l x6 1 fun x65b x65o =>
    LdV m x65b x65o fun v =>
    UnI v .u8 fun x66 =>
    HC P eyotref8_shown.id #[.int .u8 x66] m (Cont (fun v m1 =>
        UnStr v fun x67 =>
        CatB x4 x67 (
          K1 x3a x3l x3c (x4 ++ x67) (IntKind.i64.wrap (x6 + 1)) m1)) (panicR R))) (
    K1 x3a x3l x3c x4 (IntKind.i64.wrap (x6 + 1)) m)
noncomputable def k4A (K1 : Option Addr → Nat → Nat → ByteArray → Int → Mem → Prop) (R : Ending → Mem → Prop) : ACode := (.code (sR (sR (sR (sR (bB (sR (lP (bB (sR (sL (sR (sR (sR (sR (body))))))))))))))))
def k3E (K : Option Addr → Nat → Nat → ByteArray → Int → Int → Mem → Prop) : Env → Mem → Prop := fun ρ m => UnS (ρ 3) fun x3a x3l x3c => UnStr (ρ 4) fun x4 => UnI (ρ 5) .i64 fun x5 => UnI (ρ 6) .i64 fun x6 => K x3a x3l x3c x4 x5 x6 m
def k3 (K1 : Option Addr → Nat → Nat → ByteArray → Int → Mem → Prop) (x3a : Option Addr) (x3l : Nat) (x3c : Nat) (x4 : ByteArray) (x5 : Int) (x6 : Int) (R : Ending → Mem → Prop) (m : Mem) : Prop :=
  IxS x3a x3l x5 1 fun x49b x49o =>
  LdV m x49b x49o fun v =>
  UnI v .u8 fun x50 =>
  HC P eyotref8_shown.id #[.int .u8 x50] m (Cont (fun v m1 =>
      UnStr v fun x51 =>
      CatB x4 x51 (
        Br (decide (x6 > (IntKind.i64.wrap (x5 + 1)))) (
          CatB (x4 ++ x51) (ByteArray.mk #[45]) (
            k4 K1 x3a x3l x3c ((x4 ++ x51) ++ (ByteArray.mk #[45])) x5 x6 R m1)) (
          k4 K1 x3a x3l x3c (x4 ++ x51) x5 x6 R m1))) (panicR R))
noncomputable def k3A (K1 : Option Addr → Nat → Nat → ByteArray → Int → Mem → Prop) (R : Ending → Mem → Prop) : ACode := (.seq (.code (sL (sR (sR (bB (sR (lP (bB (sR (sL (sR (sR (sR (sR (body))))))))))))))) (.seq (.code (sL (sR (sR (sR (bB (sR (lP (bB (sR (sL (sR (sR (sR (sR (body)))))))))))))))) (.cut (k4E fun x3a x3l x3c x4 x5 x6 m => k4 K1 x3a x3l x3c x4 x5 x6 R m) (sR (sR (sR (sR (bB (sR (lP (bB (sR (sL (sR (sR (sR (sR (body))))))))))))))))))
def l2E (K : Option Addr → Nat → Nat → ByteArray → Int → Int → Mem → Prop) : Env → Mem → Prop := fun ρ m => UnS (ρ 3) fun x3a x3l x3c => UnStr (ρ 4) fun x4 => UnI (ρ 5) .i64 fun x5 => UnI (ρ 6) .i64 fun x6 => K x3a x3l x3c x4 x5 x6 m
def l2B (K1 : Option Addr → Nat → Nat → ByteArray → Int → Mem → Prop) (K2 : Option Addr → Nat → Nat → ByteArray → Int → Int → Mem → Prop) (x3a : Option Addr) (x3l : Nat) (x3c : Nat) (x4 : ByteArray) (x5 : Int) (x6 : Int) (R : Ending → Mem → Prop) (m : Mem) : Prop :=
  Sub m fun r1 =>
  Br (decide ((IntKind.i64.wrap (x6 + 1)) < ((x3l : Nat) : Int))) (
    IxS x3a x3l (IntKind.i64.wrap (x6 + 1)) 1 fun x35b x35o =>
    LdV r1 x35b x35o fun v =>
    UnI v .u8 fun x36 =>
    IxS x3a x3l x6 1 fun x39b x39o =>
    LdV m x39b x39o fun v =>
    UnI v .u8 fun x40 =>
    Br (x36 == (IntKind.u8.wrap (x40 + 1))) (
      K2 x3a x3l x3c x4 x5 (IntKind.i64.wrap (x6 + 1)) m) (
      k3 K1 x3a x3l x3c x4 x5 x6 R m)) (
    k3 K1 x3a x3l x3c x4 x5 x6 R m)
def l2 (K1 : Option Addr → Nat → Nat → ByteArray → Int → Mem → Prop) (x3a : Option Addr) (x3l : Nat) (x3c : Nat) (x4 : ByteArray) (x5 : Int) (x6 : Int) (R : Ending → Mem → Prop) (m : Mem) : Prop :=
  ∃ (I : Nat → Option Addr → Nat → Nat → ByteArray → Int → Int → Mem → Prop) (N : Nat), I N x3a x3l x3c x4 x5 x6 m ∧ ∀ N x3a x3l x3c x4 x5 x6 m, I N x3a x3l x3c x4 x5 x6 m → l2B K1 (fun x3a x3l x3c x4 x5 x6 m => ∃ N1, N1 < N ∧ I N1 x3a x3l x3c x4 x5 x6 m) x3a x3l x3c x4 x5 x6 R m
noncomputable def l2A (K1 : Option Addr → Nat → Nat → ByteArray → Int → Mem → Prop) (K2 : Option Addr → Nat → Nat → ByteArray → Int → Int → Mem → Prop) (R : Ending → Mem → Prop) : ACode := (.code (lP (bB (sL (sR (bB (sR (lP (bB (sR (sL (sR (sR (sR (sR (body))))))))))))))))
def l1E (K : Option Addr → Nat → Nat → ByteArray → Int → Mem → Prop) : Env → Mem → Prop := fun ρ m => UnS (ρ 3) fun x3a x3l x3c => UnStr (ρ 4) fun x4 => UnI (ρ 5) .i64 fun x5 => K x3a x3l x3c x4 x5 m
def l1B  (K1 : Option Addr → Nat → Nat → ByteArray → Int → Mem → Prop) (x3a : Option Addr) (x3l : Nat) (x3c : Nat) (x4 : ByteArray) (x5 : Int) (R : Ending → Mem → Prop) (m : Mem) : Prop :=
  Br (decide (x5 < ((x3l : Nat) : Int))) (
    l2 K1 x3a x3l x3c x4 x5 x5 R m) (
    CatB x4 (ByteArray.mk #[93]) (
      R (.returned (.string (x4 ++ (ByteArray.mk #[93])))) m))
def l1  (x3a : Option Addr) (x3l : Nat) (x3c : Nat) (x4 : ByteArray) (x5 : Int) (R : Ending → Mem → Prop) (m : Mem) : Prop :=
  ∃ (I : Nat → Option Addr → Nat → Nat → ByteArray → Int → Mem → Prop) (N : Nat), I N x3a x3l x3c x4 x5 m ∧ ∀ N x3a x3l x3c x4 x5 m, I N x3a x3l x3c x4 x5 m → l1B  (fun x3a x3l x3c x4 x5 m => ∃ N1, N1 < N ∧ I N1 x3a x3l x3c x4 x5 m) x3a x3l x3c x4 x5 R m
noncomputable def l1A  (K1 : Option Addr → Nat → Nat → ByteArray → Int → Mem → Prop) (R : Ending → Mem → Prop) : ACode := (.seq (.code (sL (lP (bB (sR (sL (sR (sR (sR (sR (body))))))))))) (.block 2 (.seq (.code (sL (bB (sR (lP (bB (sR (sL (sR (sR (sR (sR (body))))))))))))) (.seq (.block 3 (.cut (l2E fun x3a x3l x3c x4 x5 x6 m => l2 K1 x3a x3l x3c x4 x5 x6 R m) (.loop (lP (bB (sL (sR (bB (sR (lP (bB (sR (sL (sR (sR (sR (sR (body)))))))))))))))))) (.cut (k3E fun x3a x3l x3c x4 x5 x6 m => k3 K1 x3a x3l x3c x4 x5 x6 R m) (sR (sR (bB (sR (lP (bB (sR (sL (sR (sR (sR (sR (body))))))))))))))))))
def e0 (a0_0 : Int) (a0_1 : Int) (a0_2 : Int) (a0_3 : Int) (R : Ending → Mem → Prop) (m : Mem) : Prop :=
  NewC m #[.int .u64 a0_0, .int .u64 a0_1, .int .u64 a0_2, .int .u64 a0_3] T_api_Set fun b1 m1 =>
  LdV m1 b1 0 fun v =>
  UnI v .u64 fun x7_0 =>
  LdV m1 b1 1 fun v =>
  UnI v .u64 fun x7_1 =>
  LdV m1 b1 2 fun v =>
  UnI v .u64 fun x7_2 =>
  LdV m1 b1 3 fun v =>
  UnI v .u64 fun x7_3 =>
  HC P eyotref8_list.id #[.agg #[.int .u64 x7_0, .int .u64 x7_1, .int .u64 x7_2, .int .u64 x7_3]] m1 (Cont (fun v m2 =>
      UnS v fun x8a x8l x8c =>
      Br (((x8l : Nat) : Int) == 0) (
        R (.returned (.string (ByteArray.mk #[]))) m2) (
        Br (((x8l : Nat) : Int) == 1) (
          IxS x8a x8l 0 1 fun x16b x16o =>
          LdV m2 x16b x16o fun v =>
          UnI v .u8 fun x17 =>
          HC P eyotref8_shown.id #[.int .u8 x17] m2 (Cont (fun v m3 =>
              UnStr v fun x18 =>
              R (.returned (.string x18)) m3) (panicR R))) (
          Br (((x8l : Nat) : Int) == 256) (
            R (.returned (.string (ByteArray.mk #[46]))) m2) (
            l1  x8a x8l x8c (ByteArray.mk #[91]) 0 R m2)))) (panicR R))
noncomputable def e0A (R : Ending → Mem → Prop) : ACode := (.seq (.code (sL (body))) (.seq (.code (sL (sR (body)))) (.seq (.code (sL (sR (sR (body))))) (.seq (.code (sL (sR (sR (sR (body)))))) (.seq (.seq (.code (sL (sL (sR (sR (sR (sR (body)))))))) (.block 1 (.cut (l1E fun x3a x3l x3c x4 x5 m => l1  x3a x3l x3c x4 x5 R m) (.loop (lP (bB (sR (sL (sR (sR (sR (sR (body))))))))))))) (.code (sR (sR (sR (sR (sR (body))))))))))))
theorem k4_eq (K1 : Option Addr → Nat → Nat → ByteArray → Int → Mem → Prop) (R : Ending → Mem → Prop) (x3a : Option Addr) (x3l : Nat) (x3c : Nat) (x4 : ByteArray) (x5 : Int) (x6 : Int) (ρ : Env) (m : Mem) : k4 K1 x3a x3l x3c x4 x5 x6 R m = acpt P od (panicR R) (k4A K1 R) (blockQ 2 (thenQ (l1E K1) (blockQ 1 (thenQ (acpt P od (panicR R) (.code (sR (sR (sR (sR (sR (body))))))) (bodyQ P fn R)) (bodyQ P fn R))))) (upd (upd (upd (upd ρ 6 (.int .i64 x6)) 5 (.int .i64 x5)) 4 (.string x4)) 3 (.slice x3a x3l x3c)) m := by kernel_rfl
theorem k4_er (K1 : Option Addr → Nat → Nat → ByteArray → Int → Mem → Prop) (R : Ending → Mem → Prop) : (k4A K1 R).erase = sR (sR (sR (sR (bB (sR (lP (bB (sR (sL (sR (sR (sR (sR (body)))))))))))))) := by kernel_rfl
theorem k4_ok (K1 : Option Addr → Nat → Nat → ByteArray → Int → Mem → Prop) (R : Ending → Mem → Prop) (ρ : Env) (m : Mem) (h : (k4E fun x3a x3l x3c x4 x5 x6 m => k4 K1 x3a x3l x3c x4 x5 x6 R m) ρ m) : cpt P od (panicR R) (sR (sR (sR (sR (bB (sR (lP (bB (sR (sL (sR (sR (sR (sR (body))))))))))))))) (blockQ 2 (thenQ (l1E K1) (blockQ 1 (thenQ (acpt P od (panicR R) (.code (sR (sR (sR (sR (sR (body))))))) (bodyQ P fn R)) (bodyQ P fn R))))) ρ m := by
  unfold k4E at h
  obtain ⟨x3a, x3l, x3c, e3, h⟩ := h.ex
  obtain ⟨x4, e4, h⟩ := h.ex
  obtain ⟨x5, e5, h⟩ := h.ex
  obtain ⟨x6, e6, h⟩ := h.ex
  rw [← upd_self e3, ← upd_self e4, ← upd_self e5, ← upd_self e6]
  rw [← k4_er K1 R]
  refine acpt_sound (P := P) (k4A K1 R) _ _ _ True.intro ?_
  exact Eq.mp (k4_eq K1 R x3a x3l x3c x4 x5 x6 ρ m) h
theorem k3_eq (K1 : Option Addr → Nat → Nat → ByteArray → Int → Mem → Prop) (R : Ending → Mem → Prop) (x3a : Option Addr) (x3l : Nat) (x3c : Nat) (x4 : ByteArray) (x5 : Int) (x6 : Int) (ρ : Env) (m : Mem) : k3 K1 x3a x3l x3c x4 x5 x6 R m = acpt P od (panicR R) (k3A K1 R) (blockQ 2 (thenQ (l1E K1) (blockQ 1 (thenQ (acpt P od (panicR R) (.code (sR (sR (sR (sR (sR (body))))))) (bodyQ P fn R)) (bodyQ P fn R))))) (upd (upd (upd (upd ρ 6 (.int .i64 x6)) 5 (.int .i64 x5)) 4 (.string x4)) 3 (.slice x3a x3l x3c)) m := by kernel_rfl
theorem k3_er (K1 : Option Addr → Nat → Nat → ByteArray → Int → Mem → Prop) (R : Ending → Mem → Prop) : (k3A K1 R).erase = sR (sR (bB (sR (lP (bB (sR (sL (sR (sR (sR (sR (body)))))))))))) := by kernel_rfl
theorem k3_ok (K1 : Option Addr → Nat → Nat → ByteArray → Int → Mem → Prop) (R : Ending → Mem → Prop) (ρ : Env) (m : Mem) (h : (k3E fun x3a x3l x3c x4 x5 x6 m => k3 K1 x3a x3l x3c x4 x5 x6 R m) ρ m) : cpt P od (panicR R) (sR (sR (bB (sR (lP (bB (sR (sL (sR (sR (sR (sR (body))))))))))))) (blockQ 2 (thenQ (l1E K1) (blockQ 1 (thenQ (acpt P od (panicR R) (.code (sR (sR (sR (sR (sR (body))))))) (bodyQ P fn R)) (bodyQ P fn R))))) ρ m := by
  unfold k3E at h
  obtain ⟨x3a, x3l, x3c, e3, h⟩ := h.ex
  obtain ⟨x4, e4, h⟩ := h.ex
  obtain ⟨x5, e5, h⟩ := h.ex
  obtain ⟨x6, e6, h⟩ := h.ex
  rw [← upd_self e3, ← upd_self e4, ← upd_self e5, ← upd_self e6]
  rw [← k3_er K1 R]
  refine acpt_sound (P := P) (k3A K1 R) _ _ _ ⟨⟨(fun ρ m h => k4_ok K1 R ρ m h), True.intro⟩, True.intro⟩ ?_
  exact Eq.mp (k3_eq K1 R x3a x3l x3c x4 x5 x6 ρ m) h
theorem l2_eq (K1 : Option Addr → Nat → Nat → ByteArray → Int → Mem → Prop) (K2 : Option Addr → Nat → Nat → ByteArray → Int → Int → Mem → Prop) (R : Ending → Mem → Prop) (x3a : Option Addr) (x3l : Nat) (x3c : Nat) (x4 : ByteArray) (x5 : Int) (x6 : Int) (ρ : Env) (m : Mem) : l2B K1 K2 x3a x3l x3c x4 x5 x6 R m = acpt P od (panicR R) (l2A K1 K2 R) (thenQ (l2E K2) (blockQ 3 (thenQ (acpt P od (panicR R) (.cut (k3E fun x3a x3l x3c x4 x5 x6 m => k3 K1 x3a x3l x3c x4 x5 x6 R m) (sR (sR (bB (sR (lP (bB (sR (sL (sR (sR (sR (sR (body)))))))))))))) (blockQ 2 (thenQ (l1E K1) (blockQ 1 (thenQ (acpt P od (panicR R) (.code (sR (sR (sR (sR (sR (body))))))) (bodyQ P fn R)) (bodyQ P fn R)))))) (blockQ 2 (thenQ (l1E K1) (blockQ 1 (thenQ (acpt P od (panicR R) (.code (sR (sR (sR (sR (sR (body))))))) (bodyQ P fn R)) (bodyQ P fn R)))))))) (upd (upd (upd (upd ρ 6 (.int .i64 x6)) 5 (.int .i64 x5)) 4 (.string x4)) 3 (.slice x3a x3l x3c)) m := by kernel_rfl
theorem l2_er (K1 : Option Addr → Nat → Nat → ByteArray → Int → Mem → Prop) (K2 : Option Addr → Nat → Nat → ByteArray → Int → Int → Mem → Prop) (R : Ending → Mem → Prop) : (l2A K1 K2 R).erase = lP (bB (sL (sR (bB (sR (lP (bB (sR (sL (sR (sR (sR (sR (body)))))))))))))) := by kernel_rfl
theorem l2_ok (K1 : Option Addr → Nat → Nat → ByteArray → Int → Mem → Prop) (R : Ending → Mem → Prop) (ρ : Env) (m : Mem) (h : (l2E fun x3a x3l x3c x4 x5 x6 m => l2 K1 x3a x3l x3c x4 x5 x6 R m) ρ m) : cpt P od (panicR R) (.loop (lP (bB (sL (sR (bB (sR (lP (bB (sR (sL (sR (sR (sR (sR (body)))))))))))))))) (blockQ 3 (thenQ (acpt P od (panicR R) (.cut (k3E fun x3a x3l x3c x4 x5 x6 m => k3 K1 x3a x3l x3c x4 x5 x6 R m) (sR (sR (bB (sR (lP (bB (sR (sL (sR (sR (sR (sR (body)))))))))))))) (blockQ 2 (thenQ (l1E K1) (blockQ 1 (thenQ (acpt P od (panicR R) (.code (sR (sR (sR (sR (sR (body))))))) (bodyQ P fn R)) (bodyQ P fn R)))))) (blockQ 2 (thenQ (l1E K1) (blockQ 1 (thenQ (acpt P od (panicR R) (.code (sR (sR (sR (sR (sR (body))))))) (bodyQ P fn R)) (bodyQ P fn R))))))) ρ m := by
  unfold l2E at h
  obtain ⟨x3a, x3l, x3c, e3, h⟩ := h.ex
  obtain ⟨x4, e4, h⟩ := h.ex
  obtain ⟨x5, e5, h⟩ := h.ex
  obtain ⟨x6, e6, h⟩ := h.ex
  obtain ⟨I, N, h0, hs⟩ := h
  refine ⟨fun N => l2E (I N), N, (by show l2E (I N) ρ m; unfold l2E; rw [e3, e4, e5, e6]; exact h0), ?_⟩
  clear h0 e3 e4 e5 e6
  intro N ρ m h
  unfold l2E at h
  obtain ⟨x3a, x3l, x3c, e3, h⟩ := h.ex
  obtain ⟨x4, e4, h⟩ := h.ex
  obtain ⟨x5, e5, h⟩ := h.ex
  obtain ⟨x6, e6, h⟩ := h.ex
  refine cpt_mono (P := P) (lP (bB (sL (sR (bB (sR (lP (bB (sR (sL (sR (sR (sR (sR (body))))))))))))))) (Q := thenQ (l2E fun x3a x3l x3c x4 x5 x6 m => ∃ N1, N1 < N ∧ I N1 x3a x3l x3c x4 x5 x6 m) (blockQ 3 (thenQ (acpt P od (panicR R) (.cut (k3E fun x3a x3l x3c x4 x5 x6 m => k3 K1 x3a x3l x3c x4 x5 x6 R m) (sR (sR (bB (sR (lP (bB (sR (sL (sR (sR (sR (sR (body)))))))))))))) (blockQ 2 (thenQ (l1E K1) (blockQ 1 (thenQ (acpt P od (panicR R) (.code (sR (sR (sR (sR (sR (body))))))) (bodyQ P fn R)) (bodyQ P fn R)))))) (blockQ 2 (thenQ (l1E K1) (blockQ 1 (thenQ (acpt P od (panicR R) (.code (sR (sR (sR (sR (sR (body))))))) (bodyQ P fn R)) (bodyQ P fn R)))))))) (fun e ρ m h => ?_) ρ m ?_
  · cases e with
    | normal =>
      have h : l2E (fun x3a x3l x3c x4 x5 x6 m => ∃ N1, N1 < N ∧ I N1 x3a x3l x3c x4 x5 x6 m) ρ m := h
      unfold l2E at h
      obtain ⟨x3a, x3l, x3c, e3, h⟩ := h.ex
      obtain ⟨x4, e4, h⟩ := h.ex
      obtain ⟨x5, e5, h⟩ := h.ex
      obtain ⟨x6, e6, h⟩ := h.ex
      obtain ⟨N1, hlt, h⟩ := h
      exact ⟨N1, hlt, (by show l2E (I N1) ρ m; unfold l2E; rw [e3, e4, e5, e6]; exact h)⟩
    | _ => exact h
  have hh := hs N x3a x3l x3c x4 x5 x6 m h
  generalize (fun x3a x3l x3c x4 x5 x6 m => ∃ N1, N1 < N ∧ I N1 x3a x3l x3c x4 x5 x6 m : Option Addr → Nat → Nat → ByteArray → Int → Int → Mem → Prop) = K2 at hh ⊢
  rw [← upd_self e3, ← upd_self e4, ← upd_self e5, ← upd_self e6]
  rw [← l2_er K1 K2 R]
  refine acpt_sound (P := P) (l2A K1 K2 R) _ _ _ True.intro ?_
  exact Eq.mp (l2_eq K1 K2 R x3a x3l x3c x4 x5 x6 ρ m) hh
theorem l1_eq  (K1 : Option Addr → Nat → Nat → ByteArray → Int → Mem → Prop) (R : Ending → Mem → Prop) (x3a : Option Addr) (x3l : Nat) (x3c : Nat) (x4 : ByteArray) (x5 : Int) (ρ : Env) (m : Mem) : l1B  K1 x3a x3l x3c x4 x5 R m = acpt P od (panicR R) (l1A  K1 R) (thenQ (l1E K1) (blockQ 1 (thenQ (acpt P od (panicR R) (.code (sR (sR (sR (sR (sR (body))))))) (bodyQ P fn R)) (bodyQ P fn R)))) (upd (upd (upd ρ 5 (.int .i64 x5)) 4 (.string x4)) 3 (.slice x3a x3l x3c)) m := by kernel_rfl
theorem l1_er  (K1 : Option Addr → Nat → Nat → ByteArray → Int → Mem → Prop) (R : Ending → Mem → Prop) : (l1A  K1 R).erase = lP (bB (sR (sL (sR (sR (sR (sR (body)))))))) := by kernel_rfl
theorem l1_ok  (R : Ending → Mem → Prop) (ρ : Env) (m : Mem) (h : (l1E fun x3a x3l x3c x4 x5 m => l1  x3a x3l x3c x4 x5 R m) ρ m) : cpt P od (panicR R) (.loop (lP (bB (sR (sL (sR (sR (sR (sR (body)))))))))) (blockQ 1 (thenQ (acpt P od (panicR R) (.code (sR (sR (sR (sR (sR (body))))))) (bodyQ P fn R)) (bodyQ P fn R))) ρ m := by
  unfold l1E at h
  obtain ⟨x3a, x3l, x3c, e3, h⟩ := h.ex
  obtain ⟨x4, e4, h⟩ := h.ex
  obtain ⟨x5, e5, h⟩ := h.ex
  obtain ⟨I, N, h0, hs⟩ := h
  refine ⟨fun N => l1E (I N), N, (by show l1E (I N) ρ m; unfold l1E; rw [e3, e4, e5]; exact h0), ?_⟩
  clear h0 e3 e4 e5
  intro N ρ m h
  unfold l1E at h
  obtain ⟨x3a, x3l, x3c, e3, h⟩ := h.ex
  obtain ⟨x4, e4, h⟩ := h.ex
  obtain ⟨x5, e5, h⟩ := h.ex
  refine cpt_mono (P := P) (lP (bB (sR (sL (sR (sR (sR (sR (body))))))))) (Q := thenQ (l1E fun x3a x3l x3c x4 x5 m => ∃ N1, N1 < N ∧ I N1 x3a x3l x3c x4 x5 m) (blockQ 1 (thenQ (acpt P od (panicR R) (.code (sR (sR (sR (sR (sR (body))))))) (bodyQ P fn R)) (bodyQ P fn R)))) (fun e ρ m h => ?_) ρ m ?_
  · cases e with
    | normal =>
      have h : l1E (fun x3a x3l x3c x4 x5 m => ∃ N1, N1 < N ∧ I N1 x3a x3l x3c x4 x5 m) ρ m := h
      unfold l1E at h
      obtain ⟨x3a, x3l, x3c, e3, h⟩ := h.ex
      obtain ⟨x4, e4, h⟩ := h.ex
      obtain ⟨x5, e5, h⟩ := h.ex
      obtain ⟨N1, hlt, h⟩ := h
      exact ⟨N1, hlt, (by show l1E (I N1) ρ m; unfold l1E; rw [e3, e4, e5]; exact h)⟩
    | _ => exact h
  have hh := hs N x3a x3l x3c x4 x5 m h
  generalize (fun x3a x3l x3c x4 x5 m => ∃ N1, N1 < N ∧ I N1 x3a x3l x3c x4 x5 m : Option Addr → Nat → Nat → ByteArray → Int → Mem → Prop) = K1 at hh ⊢
  rw [← upd_self e3, ← upd_self e4, ← upd_self e5]
  rw [← l1_er  K1 R]
  refine acpt_sound (P := P) (l1A  K1 R) _ _ _ ⟨⟨⟨(fun ρ m h => k3_ok K1 R ρ m h), (fun ρ m h => l2_ok K1 R ρ m h)⟩, True.intro⟩, True.intro⟩ ?_
  exact Eq.mp (l1_eq  K1 R x3a x3l x3c x4 x5 ρ m) hh
theorem e0_eq (a0_0 : Int) (a0_1 : Int) (a0_2 : Int) (a0_3 : Int) (R : Ending → Mem → Prop) (m : Mem) : e0 a0_0 a0_1 a0_2 a0_3 R m = acpt P od (panicR R) (e0A R) (bodyQ P fn R) (argE (#[.agg #[.int .u64 a0_0, .int .u64 a0_1, .int .u64 a0_2, .int .u64 a0_3]] : Array Value).toList) m := by kernel_rfl
theorem ok (a0_0 : Int) (a0_1 : Int) (a0_2 : Int) (a0_3 : Int) (R : Ending → Mem → Prop) (m : Mem) (h : e0 a0_0 a0_1 a0_2 a0_3 R m) : HC P id #[.agg #[.int .u64 a0_0, .int .u64 a0_1, .int .u64 a0_2, .int .u64 a0_3]] m R := by
  refine HC_of (fn := fn) (c := body) (od := od) (tb := tb) Go.Proofs.Tryd.func19 (by kernel_rfl) (by kernel_rfl) follows (by kernel_rfl) (of_decide_eq_true (by kernel_rfl)) ?_
  have he : (e0A R).erase = body := by kernel_rfl
  rw [← he]
  refine acpt_sound (P := P) (e0A R) _ _ _ ⟨⟨⟨⟨⟨True.intro, ⟨(fun ρ m h => l1_ok  R ρ m h), True.intro⟩⟩, True.intro⟩, True.intro⟩, True.intro⟩, True.intro⟩ ?_
  exact Eq.mp (e0_eq a0_0 a0_1 a0_2 a0_3 R m) h
end eyotref8_ShowClass

/-! ### eyot/class.Has -/
namespace class_Has
noncomputable def fn : Func := Go.Proofs.Tryd.f20
noncomputable def body : Code := fn.body.getD .skip
def od : Nat → Ord := fun _ => .done
def tb : Nat → Tab := fun _ => (0, [], [])
def e0 (s_0_0 : Int) (s_0_1 : Int) (s_0_2 : Int) (s_0_3 : Int) (b_1 : Int) (R : Ending → Mem → Prop) (m : Mem) : Prop :=
  NewC m #[.int .u64 s_0_0, .int .u64 s_0_1, .int .u64 s_0_2, .int .u64 s_0_3] T_api_Set fun b_s_2 m1 =>
  0 ≤ (IntKind.u8.wrap (Int.tdiv b_1 64) : Int) ∧ (IntKind.u8.wrap (Int.tdiv b_1 64) : Int) < (4 : Nat) ∧ (
    LdV m1 b_s_2 (0 + (IntKind.u8.wrap (Int.tdiv b_1 64) : Int).toNat * 1) fun v =>
    UnI v .u64 fun x8 =>
    NnI (Int.tmod b_1 64) (
      R (.returned (.bool ((bitsV .and .u64 (shrV .u64 x8 (Int.tmod b_1 64)) 1) == 1))) m1))
noncomputable def e0A (R : Ending → Mem → Prop) : ACode := (.code (body))
theorem e0_eq (s_0_0 : Int) (s_0_1 : Int) (s_0_2 : Int) (s_0_3 : Int) (b_1 : Int) (R : Ending → Mem → Prop) (m : Mem) : e0 s_0_0 s_0_1 s_0_2 s_0_3 b_1 R m = acpt P od (panicR R) (e0A R) (bodyQ P fn R) (argE (#[.agg #[.int .u64 s_0_0, .int .u64 s_0_1, .int .u64 s_0_2, .int .u64 s_0_3], .int .u8 b_1] : Array Value).toList) m := by kernel_rfl
theorem ok (s_0_0 : Int) (s_0_1 : Int) (s_0_2 : Int) (s_0_3 : Int) (b_1 : Int) (R : Ending → Mem → Prop) (m : Mem) (h : e0 s_0_0 s_0_1 s_0_2 s_0_3 b_1 R m) : HC P id #[.agg #[.int .u64 s_0_0, .int .u64 s_0_1, .int .u64 s_0_2, .int .u64 s_0_3], .int .u8 b_1] m R := by
  refine HC_of (fn := fn) (c := body) (od := od) (tb := tb) Go.Proofs.Tryd.func20 (by kernel_rfl) (by kernel_rfl) follows (by kernel_rfl) (of_decide_eq_true (by kernel_rfl)) ?_
  have he : (e0A R).erase = body := by kernel_rfl
  rw [← he]
  refine acpt_sound (P := P) (e0A R) _ _ _ True.intro ?_
  exact Eq.mp (e0_eq s_0_0 s_0_1 s_0_2 s_0_3 b_1 R m) h
end class_Has

/-! ### eyot/class.Least -/
namespace class_Least
noncomputable def fn : Func := Go.Proofs.Tryd.f21
noncomputable def body : Code := fn.body.getD .skip
def od : Nat → Ord := fun _ => .done
def tb : Nat → Tab := fun _ => (0, [], [])
def l1E (K : Int → Int → Int → Int → Int → Mem → Prop) : Env → Mem → Prop := fun ρ m => UnAgg (ρ 6) fun l => UnCons l fun v l => UnI v .u64 fun x6_0 => UnCons l fun v l => UnI v .u64 fun x6_1 => UnCons l fun v l => UnI v .u64 fun x6_2 => UnCons l fun v l => UnI v .u64 fun x6_3 => UnNil l (UnI (ρ 7) .i64 fun x7 => K x6_0 x6_1 x6_2 x6_3 x7 m)
def l1B  (K1 : Int → Int → Int → Int → Int → Mem → Prop) (x6_0 : Int) (x6_1 : Int) (x6_2 : Int) (x6_3 : Int) (x7 : Int) (R : Ending → Mem → Prop) (m : Mem) : Prop :=
  Br (decide (x7 < 4)) (
    IxI [x6_0, x6_1, x6_2, x6_3] x7 fun x10 =>
    Br (x10 != 0) (
      HC P math_bits_TrailingZeros64.id #[.int .u64 x10] m (Cont (fun v m1 =>
          UnI v .i64 fun x16 =>
          R (.returned (.tuple #[.int .u8 (IntKind.u8.wrap (IntKind.i64.wrap ((IntKind.i64.wrap (64 * x7)) + x16))), .bool true])) m1) (panicR R))) (
      K1 x6_0 x6_1 x6_2 x6_3 (IntKind.i64.wrap (x7 + 1)) m)) (
    R (.returned (.tuple #[.int .u8 0, .bool false])) m)
def l1  (x6_0 : Int) (x6_1 : Int) (x6_2 : Int) (x6_3 : Int) (x7 : Int) (R : Ending → Mem → Prop) (m : Mem) : Prop :=
  ∃ (I : Nat → Int → Int → Int → Int → Int → Mem → Prop) (N : Nat), I N x6_0 x6_1 x6_2 x6_3 x7 m ∧ ∀ N x6_0 x6_1 x6_2 x6_3 x7 m, I N x6_0 x6_1 x6_2 x6_3 x7 m → l1B  (fun x6_0 x6_1 x6_2 x6_3 x7 m => ∃ N1, N1 < N ∧ I N1 x6_0 x6_1 x6_2 x6_3 x7 m) x6_0 x6_1 x6_2 x6_3 x7 R m
noncomputable def l1A  (K1 : Int → Int → Int → Int → Int → Mem → Prop) (R : Ending → Mem → Prop) : ACode := (.code (lP (bB (sR (sL (sR (body)))))))
def e0 (s_0_0 : Int) (s_0_1 : Int) (s_0_2 : Int) (s_0_3 : Int) (R : Ending → Mem → Prop) (m : Mem) : Prop :=
  NewC m #[.int .u64 s_0_0, .int .u64 s_0_1, .int .u64 s_0_2, .int .u64 s_0_3] T_api_Set fun b_s_1 m1 =>
  LdV m1 b_s_1 0 fun v =>
  UnI v .u64 fun x6_0 =>
  LdV m1 b_s_1 1 fun v =>
  UnI v .u64 fun x6_1 =>
  LdV m1 b_s_1 2 fun v =>
  UnI v .u64 fun x6_2 =>
  LdV m1 b_s_1 3 fun v =>
  UnI v .u64 fun x6_3 =>
  l1  x6_0 x6_1 x6_2 x6_3 0 R m1
noncomputable def e0A (R : Ending → Mem → Prop) : ACode := (.seq (.code (sL (body))) (.seq (.seq (.code (sL (sL (sR (body))))) (.block 0 (.cut (l1E fun x6_0 x6_1 x6_2 x6_3 x7 m => l1  x6_0 x6_1 x6_2 x6_3 x7 R m) (.loop (lP (bB (sR (sL (sR (body)))))))))) (.code (sR (sR (body))))))
theorem l1_eq  (K1 : Int → Int → Int → Int → Int → Mem → Prop) (R : Ending → Mem → Prop) (x6_0 : Int) (x6_1 : Int) (x6_2 : Int) (x6_3 : Int) (x7 : Int) (ρ : Env) (m : Mem) : l1B  K1 x6_0 x6_1 x6_2 x6_3 x7 R m = acpt P od (panicR R) (l1A  K1 R) (thenQ (l1E K1) (blockQ 0 (thenQ (acpt P od (panicR R) (.code (sR (sR (body)))) (bodyQ P fn R)) (bodyQ P fn R)))) (upd (upd ρ 7 (.int .i64 x7)) 6 (.agg [.int .u64 x6_0, .int .u64 x6_1, .int .u64 x6_2, .int .u64 x6_3].toArray)) m := by kernel_rfl
theorem l1_er  (K1 : Int → Int → Int → Int → Int → Mem → Prop) (R : Ending → Mem → Prop) : (l1A  K1 R).erase = lP (bB (sR (sL (sR (body))))) := by kernel_rfl
theorem l1_ok  (R : Ending → Mem → Prop) (ρ : Env) (m : Mem) (h : (l1E fun x6_0 x6_1 x6_2 x6_3 x7 m => l1  x6_0 x6_1 x6_2 x6_3 x7 R m) ρ m) : cpt P od (panicR R) (.loop (lP (bB (sR (sL (sR (body))))))) (blockQ 0 (thenQ (acpt P od (panicR R) (.code (sR (sR (body)))) (bodyQ P fn R)) (bodyQ P fn R))) ρ m := by
  unfold l1E at h
  obtain ⟨lst6, e6, hq6_1⟩ := UnAgg.ex h; clear h
  obtain ⟨w6_0, t6_0, q6, hq6_2⟩ := UnCons.ex hq6_1; clear hq6_1; subst q6
  obtain ⟨x6_0, q6, hq6_3⟩ := UnI.ex hq6_2; clear hq6_2; subst q6
  obtain ⟨w6_1, t6_1, q6, hq6_4⟩ := UnCons.ex hq6_3; clear hq6_3; subst q6
  obtain ⟨x6_1, q6, hq6_5⟩ := UnI.ex hq6_4; clear hq6_4; subst q6
  obtain ⟨w6_2, t6_2, q6, hq6_6⟩ := UnCons.ex hq6_5; clear hq6_5; subst q6
  obtain ⟨x6_2, q6, hq6_7⟩ := UnI.ex hq6_6; clear hq6_6; subst q6
  obtain ⟨w6_3, t6_3, q6, hq6_8⟩ := UnCons.ex hq6_7; clear hq6_7; subst q6
  obtain ⟨x6_3, q6, hq6_9⟩ := UnI.ex hq6_8; clear hq6_8; subst q6
  obtain ⟨q6, hq6_10⟩ := UnNil.ex hq6_9; clear hq6_9; subst q6
  have h := hq6_10; clear hq6_10
  obtain ⟨x7, e7, h⟩ := h.ex
  obtain ⟨I, N, h0, hs⟩ := h
  refine ⟨fun N => l1E (I N), N, (by show l1E (I N) ρ m; unfold l1E; rw [e6, e7]; exact h0), ?_⟩
  clear h0 e6 e7
  intro N ρ m h
  unfold l1E at h
  obtain ⟨lst6, e6, hq6_1⟩ := UnAgg.ex h; clear h
  obtain ⟨w6_0, t6_0, q6, hq6_2⟩ := UnCons.ex hq6_1; clear hq6_1; subst q6
  obtain ⟨x6_0, q6, hq6_3⟩ := UnI.ex hq6_2; clear hq6_2; subst q6
  obtain ⟨w6_1, t6_1, q6, hq6_4⟩ := UnCons.ex hq6_3; clear hq6_3; subst q6
  obtain ⟨x6_1, q6, hq6_5⟩ := UnI.ex hq6_4; clear hq6_4; subst q6
  obtain ⟨w6_2, t6_2, q6, hq6_6⟩ := UnCons.ex hq6_5; clear hq6_5; subst q6
  obtain ⟨x6_2, q6, hq6_7⟩ := UnI.ex hq6_6; clear hq6_6; subst q6
  obtain ⟨w6_3, t6_3, q6, hq6_8⟩ := UnCons.ex hq6_7; clear hq6_7; subst q6
  obtain ⟨x6_3, q6, hq6_9⟩ := UnI.ex hq6_8; clear hq6_8; subst q6
  obtain ⟨q6, hq6_10⟩ := UnNil.ex hq6_9; clear hq6_9; subst q6
  have h := hq6_10; clear hq6_10
  obtain ⟨x7, e7, h⟩ := h.ex
  refine cpt_mono (P := P) (lP (bB (sR (sL (sR (body)))))) (Q := thenQ (l1E fun x6_0 x6_1 x6_2 x6_3 x7 m => ∃ N1, N1 < N ∧ I N1 x6_0 x6_1 x6_2 x6_3 x7 m) (blockQ 0 (thenQ (acpt P od (panicR R) (.code (sR (sR (body)))) (bodyQ P fn R)) (bodyQ P fn R)))) (fun e ρ m h => ?_) ρ m ?_
  · cases e with
    | normal =>
      have h : l1E (fun x6_0 x6_1 x6_2 x6_3 x7 m => ∃ N1, N1 < N ∧ I N1 x6_0 x6_1 x6_2 x6_3 x7 m) ρ m := h
      unfold l1E at h
      obtain ⟨lst6, e6, hq6_1⟩ := UnAgg.ex h; clear h
      obtain ⟨w6_0, t6_0, q6, hq6_2⟩ := UnCons.ex hq6_1; clear hq6_1; subst q6
      obtain ⟨x6_0, q6, hq6_3⟩ := UnI.ex hq6_2; clear hq6_2; subst q6
      obtain ⟨w6_1, t6_1, q6, hq6_4⟩ := UnCons.ex hq6_3; clear hq6_3; subst q6
      obtain ⟨x6_1, q6, hq6_5⟩ := UnI.ex hq6_4; clear hq6_4; subst q6
      obtain ⟨w6_2, t6_2, q6, hq6_6⟩ := UnCons.ex hq6_5; clear hq6_5; subst q6
      obtain ⟨x6_2, q6, hq6_7⟩ := UnI.ex hq6_6; clear hq6_6; subst q6
      obtain ⟨w6_3, t6_3, q6, hq6_8⟩ := UnCons.ex hq6_7; clear hq6_7; subst q6
      obtain ⟨x6_3, q6, hq6_9⟩ := UnI.ex hq6_8; clear hq6_8; subst q6
      obtain ⟨q6, hq6_10⟩ := UnNil.ex hq6_9; clear hq6_9; subst q6
      have h := hq6_10; clear hq6_10
      obtain ⟨x7, e7, h⟩ := h.ex
      obtain ⟨N1, hlt, h⟩ := h
      exact ⟨N1, hlt, (by show l1E (I N1) ρ m; unfold l1E; rw [e6, e7]; exact h)⟩
    | _ => exact h
  have hh := hs N x6_0 x6_1 x6_2 x6_3 x7 m h
  generalize (fun x6_0 x6_1 x6_2 x6_3 x7 m => ∃ N1, N1 < N ∧ I N1 x6_0 x6_1 x6_2 x6_3 x7 m : Int → Int → Int → Int → Int → Mem → Prop) = K1 at hh ⊢
  rw [← upd_self e6, ← upd_self e7]
  rw [← l1_er  K1 R]
  refine acpt_sound (P := P) (l1A  K1 R) _ _ _ True.intro ?_
  exact Eq.mp (l1_eq  K1 R x6_0 x6_1 x6_2 x6_3 x7 ρ m) hh
theorem e0_eq (s_0_0 : Int) (s_0_1 : Int) (s_0_2 : Int) (s_0_3 : Int) (R : Ending → Mem → Prop) (m : Mem) : e0 s_0_0 s_0_1 s_0_2 s_0_3 R m = acpt P od (panicR R) (e0A R) (bodyQ P fn R) (argE (#[.agg #[.int .u64 s_0_0, .int .u64 s_0_1, .int .u64 s_0_2, .int .u64 s_0_3]] : Array Value).toList) m := by kernel_rfl
theorem ok (s_0_0 : Int) (s_0_1 : Int) (s_0_2 : Int) (s_0_3 : Int) (R : Ending → Mem → Prop) (m : Mem) (h : e0 s_0_0 s_0_1 s_0_2 s_0_3 R m) : HC P id #[.agg #[.int .u64 s_0_0, .int .u64 s_0_1, .int .u64 s_0_2, .int .u64 s_0_3]] m R := by
  refine HC_of (fn := fn) (c := body) (od := od) (tb := tb) Go.Proofs.Tryd.func21 (by kernel_rfl) (by kernel_rfl) follows (by kernel_rfl) (of_decide_eq_true (by kernel_rfl)) ?_
  have he : (e0A R).erase = body := by kernel_rfl
  rw [← he]
  refine acpt_sound (P := P) (e0A R) _ _ _ ⟨⟨True.intro, ⟨(fun ρ m h => l1_ok  R ρ m h), True.intro⟩⟩, True.intro⟩ ?_
  exact Eq.mp (e0_eq s_0_0 s_0_1 s_0_2 s_0_3 R m) h
end class_Least

/-! ### eyot/eyotref8.Has -/
namespace eyotref8_Has
noncomputable def fn : Func := Go.Proofs.Tryd.f22
noncomputable def body : Code := fn.body.getD .skip
def od : Nat → Ord := fun _ => .done
def tb : Nat → Tab := fun _ => (0, [], [])
def e0 (s_0_0 : Int) (s_0_1 : Int) (s_0_2 : Int) (s_0_3 : Int) (b_1 : Int) (R : Ending → Mem → Prop) (m : Mem) : Prop :=
  NewC m #[.int .u64 s_0_0, .int .u64 s_0_1, .int .u64 s_0_2, .int .u64 s_0_3] T_api_Set fun b_s_2 m1 =>
  0 ≤ (IntKind.u8.wrap (Int.tdiv b_1 64) : Int) ∧ (IntKind.u8.wrap (Int.tdiv b_1 64) : Int) < (4 : Nat) ∧ (
    LdV m1 b_s_2 (0 + (IntKind.u8.wrap (Int.tdiv b_1 64) : Int).toNat * 1) fun v =>
    UnI v .u64 fun x8 =>
    NnI (Int.tmod b_1 64) (
      R (.returned (.bool ((bitsV .and .u64 (shrV .u64 x8 (Int.tmod b_1 64)) 1) == 1))) m1))
noncomputable def e0A (R : Ending → Mem → Prop) : ACode := (.code (body))
theorem e0_eq (s_0_0 : Int) (s_0_1 : Int) (s_0_2 : Int) (s_0_3 : Int) (b_1 : Int) (R : Ending → Mem → Prop) (m : Mem) : e0 s_0_0 s_0_1 s_0_2 s_0_3 b_1 R m = acpt P od (panicR R) (e0A R) (bodyQ P fn R) (argE (#[.agg #[.int .u64 s_0_0, .int .u64 s_0_1, .int .u64 s_0_2, .int .u64 s_0_3], .int .u8 b_1] : Array Value).toList) m := by kernel_rfl
theorem ok (s_0_0 : Int) (s_0_1 : Int) (s_0_2 : Int) (s_0_3 : Int) (b_1 : Int) (R : Ending → Mem → Prop) (m : Mem) (h : e0 s_0_0 s_0_1 s_0_2 s_0_3 b_1 R m) : HC P id #[.agg #[.int .u64 s_0_0, .int .u64 s_0_1, .int .u64 s_0_2, .int .u64 s_0_3], .int .u8 b_1] m R := by
  refine HC_of (fn := fn) (c := body) (od := od) (tb := tb) Go.Proofs.Tryd.func22 (by kernel_rfl) (by kernel_rfl) follows (by kernel_rfl) (of_decide_eq_true (by kernel_rfl)) ?_
  have he : (e0A R).erase = body := by kernel_rfl
  rw [← he]
  refine acpt_sound (P := P) (e0A R) _ _ _ True.intro ?_
  exact Eq.mp (e0_eq s_0_0 s_0_1 s_0_2 s_0_3 b_1 R m) h
end eyotref8_Has

/-! ### eyot/eyotref8.Or -/
namespace eyotref8_Or
noncomputable def fn : Func := Go.Proofs.Tryd.f23
noncomputable def body : Code := fn.body.getD .skip
def od : Nat → Ord := fun | 1 => ordL [(0, 1), (2, 1), (1, 0), (3, 2), (4, 2), (5, 2), (6, 2)] .done | _ => .done
def tb : Nat → Tab := fun | 1 => (120, [0, 1, 0, 7, 15, 31, 63], [(0, 4, 6), (1, 32, 7), (0, 8, 8), (6, 128, 9), (10, 320, 10), (16, 512, 11), (63, 1040, 0)]) | _ => (0, [], [])
def e0 (a_0_0 : Int) (a_0_1 : Int) (a_0_2 : Int) (a_0_3 : Int) (b_1_0 : Int) (b_1_1 : Int) (b_1_2 : Int) (b_1_3 : Int) (R : Ending → Mem → Prop) (m : Mem) : Prop :=
  NewC m #[.int .u64 a_0_0, .int .u64 a_0_1, .int .u64 a_0_2, .int .u64 a_0_3] T_api_Set fun b_a_2 m1 =>
  NewC m1 #[.int .u64 b_1_0, .int .u64 b_1_1, .int .u64 b_1_2, .int .u64 b_1_3] T_api_Set fun b_3 m2 =>
  NewC m2 #[.int .u64 0, .int .u64 0, .int .u64 0, .int .u64 0] T_api_Set fun b4 m3 =>
  Sub m3 fun r4 =>
  LdV r4 b_a_2 0 fun v =>
  UnI v .u64 fun x5_0 =>
  LdV r4 b_a_2 1 fun v =>
  UnI v .u64 fun x5_1 =>
  LdV r4 b_a_2 2 fun v =>
  UnI v .u64 fun x5_2 =>
  LdV r4 b_a_2 3 fun v =>
  UnI v .u64 fun x5_3 =>
  LdV r4 b_3 0 fun v =>
  UnI v .u64 fun x7_0 =>
  LdV r4 b_3 1 fun v =>
  UnI v .u64 fun x7_1 =>
  LdV r4 b_3 2 fun v =>
  UnI v .u64 fun x7_2 =>
  LdV r4 b_3 3 fun v =>
  UnI v .u64 fun x7_3 =>
  HC P eyotref8_list.id #[.agg #[.int .u64 x5_0, .int .u64 x5_1, .int .u64 x5_2, .int .u64 x5_3]] m3 (Cont (fun v m5 =>
      UnS v fun x6a x6l x6c =>
      Lk r4 m5 fun r6 =>
      HC P eyotref8_list.id #[.agg #[.int .u64 x7_0, .int .u64 x7_1, .int .u64 x7_2, .int .u64 x7_3]] m5 (Cont (fun v m7 =>
          UnS v fun x8a x8l x8c =>
          BiN P .append #[T_sl_uint8, T_sl_uint8] T_sl_uint8 #[false, false] #[.slice x6a x6l x6c, .slice x8a x8l x8c] m7 (fun w m8 =>
            UnS w fun x9a x9l x9c =>
            HC P eyotref8_Of.id #[.slice x9a x9l x9c] m8 (Cont (fun v m9 =>
                UnAgg v fun l =>
                UnCons l fun v l =>
                UnI v .u64 fun x10_0 =>
                UnCons l fun v l =>
                UnI v .u64 fun x10_1 =>
                UnCons l fun v l =>
                UnI v .u64 fun x10_2 =>
                UnCons l fun v l =>
                UnI v .u64 fun x10_3 =>
                UnNil l (
                  St1 m9 b4 0 (.int .u64 x10_0) fun m10 =>
                  St1 m10 b4 1 (.int .u64 x10_1) fun m11 =>
                  St1 m11 b4 2 (.int .u64 x10_2) fun m12 =>
                  St1 m12 b4 3 (.int .u64 x10_3) fun m13 =>
                  LdV m13 b4 0 fun v =>
                  UnI v .u64 fun res0_0 =>
                  LdV m13 b4 1 fun v =>
                  UnI v .u64 fun res0_1 =>
                  LdV m13 b4 2 fun v =>
                  UnI v .u64 fun res0_2 =>
                  LdV m13 b4 3 fun v =>
                  UnI v .u64 fun res0_3 =>
                  R (.returned (.agg #[.int .u64 res0_0, .int .u64 res0_1, .int .u64 res0_2, .int .u64 res0_3])) m13)) (panicR R))) (panicR R)) (panicR R))) (panicR R))
noncomputable def e0A (R : Ending → Mem → Prop) : ACode := (.code (body))
theorem e0_eq (a_0_0 : Int) (a_0_1 : Int) (a_0_2 : Int) (a_0_3 : Int) (b_1_0 : Int) (b_1_1 : Int) (b_1_2 : Int) (b_1_3 : Int) (R : Ending → Mem → Prop) (m : Mem) : e0 a_0_0 a_0_1 a_0_2 a_0_3 b_1_0 b_1_1 b_1_2 b_1_3 R m = acpt P od (panicR R) (e0A R) (bodyQ P fn R) (argE (#[.agg #[.int .u64 a_0_0, .int .u64 a_0_1, .int .u64 a_0_2, .int .u64 a_0_3], .agg #[.int .u64 b_1_0, .int .u64 b_1_1, .int .u64 b_1_2, .int .u64 b_1_3]] : Array Value).toList) m := by kernel_rfl
theorem ok (a_0_0 : Int) (a_0_1 : Int) (a_0_2 : Int) (a_0_3 : Int) (b_1_0 : Int) (b_1_1 : Int) (b_1_2 : Int) (b_1_3 : Int) (R : Ending → Mem → Prop) (m : Mem) (h : e0 a_0_0 a_0_1 a_0_2 a_0_3 b_1_0 b_1_1 b_1_2 b_1_3 R m) : HC P id #[.agg #[.int .u64 a_0_0, .int .u64 a_0_1, .int .u64 a_0_2, .int .u64 a_0_3], .agg #[.int .u64 b_1_0, .int .u64 b_1_1, .int .u64 b_1_2, .int .u64 b_1_3]] m R := by
  refine HC_of (fn := fn) (c := body) (od := od) (tb := tb) Go.Proofs.Tryd.func23 (by kernel_rfl) (by kernel_rfl) follows (by kernel_rfl) (of_decide_eq_true (by kernel_rfl)) ?_
  have he : (e0A R).erase = body := by kernel_rfl
  rw [← he]
  refine acpt_sound (P := P) (e0A R) _ _ _ True.intro ?_
  exact Eq.mp (e0_eq a_0_0 a_0_1 a_0_2 a_0_3 b_1_0 b_1_1 b_1_2 b_1_3 R m) h
end eyotref8_Or

/-! ### eyot/class.And -/
namespace class_And
noncomputable def fn : Func := Go.Proofs.Tryd.f24
noncomputable def body : Code := fn.body.getD .skip
def od : Nat → Ord := fun _ => .done
def tb : Nat → Tab := fun _ => (0, [], [])
def e0 (a_0_0 : Int) (a_0_1 : Int) (a_0_2 : Int) (a_0_3 : Int) (b_1_0 : Int) (b_1_1 : Int) (b_1_2 : Int) (b_1_3 : Int) (R : Ending → Mem → Prop) (m : Mem) : Prop :=
  NewC m #[.int .u64 a_0_0, .int .u64 a_0_1, .int .u64 a_0_2, .int .u64 a_0_3] T_api_Set fun b_a_2 m1 =>
  NewC m1 #[.int .u64 b_1_0, .int .u64 b_1_1, .int .u64 b_1_2, .int .u64 b_1_3] T_api_Set fun b_3 m2 =>
  NewC m2 #[.int .u64 0, .int .u64 0, .int .u64 0, .int .u64 0] T_api_Set fun b4 m3 =>
  LdV m3 b_a_2 0 fun v =>
  UnI v .u64 fun x5_0 =>
  LdV m3 b_a_2 1 fun v =>
  UnI v .u64 fun x5_1 =>
  LdV m3 b_a_2 2 fun v =>
  UnI v .u64 fun x5_2 =>
  LdV m3 b_a_2 3 fun v =>
  UnI v .u64 fun x5_3 =>
  LdV m3 b_3 0 fun v =>
  UnI v .u64 fun x6_0 =>
  LdV m3 b_3 1 fun v =>
  UnI v .u64 fun x6_1 =>
  LdV m3 b_3 2 fun v =>
  UnI v .u64 fun x6_2 =>
  LdV m3 b_3 3 fun v =>
  UnI v .u64 fun x6_3 =>
  HC P class_with.id #[.agg #[.int .u64 x5_0, .int .u64 x5_1, .int .u64 x5_2, .int .u64 x5_3], .agg #[.int .u64 x6_0, .int .u64 x6_1, .int .u64 x6_2, .int .u64 x6_3], .func (.func class_And_1.id) #[] #[]] m3 (Cont (fun v m4 =>
      UnAgg v fun l =>
      UnCons l fun v l =>
      UnI v .u64 fun x7_0 =>
      UnCons l fun v l =>
      UnI v .u64 fun x7_1 =>
      UnCons l fun v l =>
      UnI v .u64 fun x7_2 =>
      UnCons l fun v l =>
      UnI v .u64 fun x7_3 =>
      UnNil l (
        St1 m4 b4 0 (.int .u64 x7_0) fun m5 =>
        St1 m5 b4 1 (.int .u64 x7_1) fun m6 =>
        St1 m6 b4 2 (.int .u64 x7_2) fun m7 =>
        St1 m7 b4 3 (.int .u64 x7_3) fun m8 =>
        LdV m8 b4 0 fun v =>
        UnI v .u64 fun res0_0 =>
        LdV m8 b4 1 fun v =>
        UnI v .u64 fun res0_1 =>
        LdV m8 b4 2 fun v =>
        UnI v .u64 fun res0_2 =>
        LdV m8 b4 3 fun v =>
        UnI v .u64 fun res0_3 =>
        R (.returned (.agg #[.int .u64 res0_0, .int .u64 res0_1, .int .u64 res0_2, .int .u64 res0_3])) m8)) (panicR R))
noncomputable def e0A (R : Ending → Mem → Prop) : ACode := (.code (body))
theorem e0_eq (a_0_0 : Int) (a_0_1 : Int) (a_0_2 : Int) (a_0_3 : Int) (b_1_0 : Int) (b_1_1 : Int) (b_1_2 : Int) (b_1_3 : Int) (R : Ending → Mem → Prop) (m : Mem) : e0 a_0_0 a_0_1 a_0_2 a_0_3 b_1_0 b_1_1 b_1_2 b_1_3 R m = acpt P od (panicR R) (e0A R) (bodyQ P fn R) (argE (#[.agg #[.int .u64 a_0_0, .int .u64 a_0_1, .int .u64 a_0_2, .int .u64 a_0_3], .agg #[.int .u64 b_1_0, .int .u64 b_1_1, .int .u64 b_1_2, .int .u64 b_1_3]] : Array Value).toList) m := by kernel_rfl
theorem ok (a_0_0 : Int) (a_0_1 : Int) (a_0_2 : Int) (a_0_3 : Int) (b_1_0 : Int) (b_1_1 : Int) (b_1_2 : Int) (b_1_3 : Int) (R : Ending → Mem → Prop) (m : Mem) (h : e0 a_0_0 a_0_1 a_0_2 a_0_3 b_1_0 b_1_1 b_1_2 b_1_3 R m) : HC P id #[.agg #[.int .u64 a_0_0, .int .u64 a_0_1, .int .u64 a_0_2, .int .u64 a_0_3], .agg #[.int .u64 b_1_0, .int .u64 b_1_1, .int .u64 b_1_2, .int .u64 b_1_3]] m R := by
  refine HC_of (fn := fn) (c := body) (od := od) (tb := tb) Go.Proofs.Tryd.func24 (by kernel_rfl) (by kernel_rfl) follows (by kernel_rfl) (of_decide_eq_true (by kernel_rfl)) ?_
  have he : (e0A R).erase = body := by kernel_rfl
  rw [← he]
  refine acpt_sound (P := P) (e0A R) _ _ _ True.intro ?_
  exact Eq.mp (e0_eq a_0_0 a_0_1 a_0_2 a_0_3 b_1_0 b_1_1 b_1_2 b_1_3 R m) h
end class_And

/-! ### eyot/eyotref8.And -/
namespace eyotref8_And
noncomputable def fn : Func := Go.Proofs.Tryd.f25
noncomputable def body : Code := fn.body.getD .skip
def od : Nat → Ord := fun _ => .done
def tb : Nat → Tab := fun _ => (0, [], [])
def k2E (K : Nat → Nat → Nat → Nat → Nat → Nat → Option Addr → Nat → Nat → Int → Bool → Mem → Prop) : Env → Mem → Prop := fun ρ m => UnPA (ρ 2) fun a_2b a_2o => UnPA (ρ 3) fun b_3b b_3o => UnPA (ρ 4) fun x4b x4o => UnS (ρ 5) fun l_5a l_5l l_5c => UnI (ρ 6) .i64 fun i_6 => UnB (ρ 20) fun x20 => K a_2b a_2o b_3b b_3o x4b x4o l_5a l_5l l_5c i_6 x20 m
def k2 (K1 : Nat → Nat → Nat → Nat → Nat → Nat → Option Addr → Nat → Nat → Int → Mem → Prop) (a_2b : Nat) (a_2o : Nat) (b_3b : Nat) (b_3o : Nat) (x4b : Nat) (x4o : Nat) (l_5a : Option Addr) (l_5l : Nat) (l_5c : Nat) (i_6 : Int) (x20 : Bool) (R : Ending → Mem → Prop) (m : Mem) : Prop :=
  Br x20 (
    NewC m #[.int .u8 (IntKind.u8.wrap i_6)] T_uint8 fun b24 m1 =>
    BiN P .append #[T_sl_uint8, T_sl_uint8] T_sl_uint8 #[false, false] #[.slice l_5a l_5l l_5c, .slice (some ⟨b24, 0, none⟩) 1 1] m1 (fun w m2 =>
      UnS w fun x25a x25l x25c =>
      K1 a_2b a_2o b_3b b_3o x4b x4o x25a x25l x25c (IntKind.i64.wrap (i_6 + 1)) m2) (panicR R)) (
    K1 a_2b a_2o b_3b b_3o x4b x4o l_5a l_5l l_5c (IntKind.i64.wrap (i_6 + 1)) m)
noncomputable def k2A (K1 : Nat → Nat → Nat → Nat → Nat → Nat → Option Addr → Nat → Nat → Int → Mem → Prop) (R : Ending → Mem → Prop) : ACode := (.code (sR (bB (sL (sR (lP (bB (sR (sL (sR (sR (body))))))))))))
def l1E (K : Nat → Nat → Nat → Nat → Nat → Nat → Option Addr → Nat → Nat → Int → Mem → Prop) : Env → Mem → Prop := fun ρ m => UnPA (ρ 2) fun a_2b a_2o => UnPA (ρ 3) fun b_3b b_3o => UnPA (ρ 4) fun x4b x4o => UnS (ρ 5) fun l_5a l_5l l_5c => UnI (ρ 6) .i64 fun i_6 => K a_2b a_2o b_3b b_3o x4b x4o l_5a l_5l l_5c i_6 m
def l1B  (K1 : Nat → Nat → Nat → Nat → Nat → Nat → Option Addr → Nat → Nat → Int → Mem → Prop) (a_2b : Nat) (a_2o : Nat) (b_3b : Nat) (b_3o : Nat) (x4b : Nat) (x4o : Nat) (l_5a : Option Addr) (l_5l : Nat) (l_5c : Nat) (i_6 : Int) (R : Ending → Mem → Prop) (m : Mem) : Prop :=
  Br (decide (i_6 < 256)) (
    LdV m a_2b a_2o fun v =>
    UnI v .u64 fun x11_0 =>
    LdV m a_2b (a_2o + 1) fun v =>
    UnI v .u64 fun x11_1 =>
    LdV m a_2b (a_2o + 2) fun v =>
    UnI v .u64 fun x11_2 =>
    LdV m a_2b (a_2o + 3) fun v =>
    UnI v .u64 fun x11_3 =>
    HC P eyotref8_Has.id #[.agg #[.int .u64 x11_0, .int .u64 x11_1, .int .u64 x11_2, .int .u64 x11_3], .int .u8 (IntKind.u8.wrap i_6)] m (Cont (fun v m1 =>
        UnB v fun x14 =>
        Br x14 (
          LdV m1 b_3b b_3o fun v =>
          UnI v .u64 fun x16_0 =>
          LdV m1 b_3b (b_3o + 1) fun v =>
          UnI v .u64 fun x16_1 =>
          LdV m1 b_3b (b_3o + 2) fun v =>
          UnI v .u64 fun x16_2 =>
          LdV m1 b_3b (b_3o + 3) fun v =>
          UnI v .u64 fun x16_3 =>
          HC P eyotref8_Has.id #[.agg #[.int .u64 x16_0, .int .u64 x16_1, .int .u64 x16_2, .int .u64 x16_3], .int .u8 (IntKind.u8.wrap i_6)] m1 (Cont (fun v m2 =>
              UnB v fun x19 =>
              k2 K1 a_2b a_2o b_3b b_3o x4b x4o l_5a l_5l l_5c i_6 x19 R m2) (panicR R))) (
          k2 K1 a_2b a_2o b_3b b_3o x4b x4o l_5a l_5l l_5c i_6 false R m1)) (panicR R))) (
    HC P eyotref8_Of.id #[.slice l_5a l_5l l_5c] m (Cont (fun v m1 =>
        UnAgg v fun l =>
        UnCons l fun v l =>
        UnI v .u64 fun x27_0 =>
        UnCons l fun v l =>
        UnI v .u64 fun x27_1 =>
        UnCons l fun v l =>
        UnI v .u64 fun x27_2 =>
        UnCons l fun v l =>
        UnI v .u64 fun x27_3 =>
        UnNil l (
          St1 m1 x4b x4o (.int .u64 x27_0) fun m2 =>
          St1 m2 x4b (x4o + 1) (.int .u64 x27_1) fun m3 =>
          St1 m3 x4b (x4o + 2) (.int .u64 x27_2) fun m4 =>
          St1 m4 x4b (x4o + 3) (.int .u64 x27_3) fun m5 =>
          LdV m5 x4b x4o fun v =>
          UnI v .u64 fun res0_0 =>
          LdV m5 x4b (x4o + 1) fun v =>
          UnI v .u64 fun res0_1 =>
          LdV m5 x4b (x4o + 2) fun v =>
          UnI v .u64 fun res0_2 =>
          LdV m5 x4b (x4o + 3) fun v =>
          UnI v .u64 fun res0_3 =>
          R (.returned (.agg #[.int .u64 res0_0, .int .u64 res0_1, .int .u64 res0_2, .int .u64 res0_3])) m5)) (panicR R)))
def l1  (a_2b : Nat) (a_2o : Nat) (b_3b : Nat) (b_3o : Nat) (x4b : Nat) (x4o : Nat) (l_5a : Option Addr) (l_5l : Nat) (l_5c : Nat) (i_6 : Int) (R : Ending → Mem → Prop) (m : Mem) : Prop :=
  ∃ (I : Nat → Nat → Nat → Nat → Nat → Nat → Nat → Option Addr → Nat → Nat → Int → Mem → Prop) (N : Nat), I N a_2b a_2o b_3b b_3o x4b x4o l_5a l_5l l_5c i_6 m ∧ ∀ N a_2b a_2o b_3b b_3o x4b x4o l_5a l_5l l_5c i_6 m, I N a_2b a_2o b_3b b_3o x4b x4o l_5a l_5l l_5c i_6 m → l1B  (fun a_2b a_2o b_3b b_3o x4b x4o l_5a l_5l l_5c i_6 m => ∃ N1, N1 < N ∧ I N1 a_2b a_2o b_3b b_3o x4b x4o l_5a l_5l l_5c i_6 m) a_2b a_2o b_3b b_3o x4b x4o l_5a l_5l l_5c i_6 R m
noncomputable def l1A  (K1 : Nat → Nat → Nat → Nat → Nat → Nat → Option Addr → Nat → Nat → Int → Mem → Prop) (R : Ending → Mem → Prop) : ACode := (.seq (.code (sL (lP (bB (sR (sL (sR (sR (body))))))))) (.seq (.block 1 (.seq (.code (sL (bB (sL (sR (lP (bB (sR (sL (sR (sR (body)))))))))))) (.cut (k2E fun a_2b a_2o b_3b b_3o x4b x4o l_5a l_5l l_5c i_6 x20 m => k2 K1 a_2b a_2o b_3b b_3o x4b x4o l_5a l_5l l_5c i_6 x20 R m) (sR (bB (sL (sR (lP (bB (sR (sL (sR (sR (body)))))))))))))) (.code (sR (sR (lP (bB (sR (sL (sR (sR (body))))))))))))
def e0 (a_0_0 : Int) (a_0_1 : Int) (a_0_2 : Int) (a_0_3 : Int) (b_1_0 : Int) (b_1_1 : Int) (b_1_2 : Int) (b_1_3 : Int) (R : Ending → Mem → Prop) (m : Mem) : Prop :=
  NewC m #[.int .u64 a_0_0, .int .u64 a_0_1, .int .u64 a_0_2, .int .u64 a_0_3] T_api_Set fun b_a_2 m1 =>
  NewC m1 #[.int .u64 b_1_0, .int .u64 b_1_1, .int .u64 b_1_2, .int .u64 b_1_3] T_api_Set fun b_3 m2 =>
  NewC m2 #[.int .u64 0, .int .u64 0, .int .u64 0, .int .u64 0] T_api_Set fun b4 m3 =>
  l1  b_a_2 0 b_3 0 b4 0 none 0 0 0 R m3
noncomputable def e0A (R : Ending → Mem → Prop) : ACode := (.seq (.code (sL (body))) (.seq (.code (sL (sR (body)))) (.seq (.seq (.code (sL (sL (sR (sR (body)))))) (.block 0 (.cut (l1E fun a_2b a_2o b_3b b_3o x4b x4o l_5a l_5l l_5c i_6 m => l1  a_2b a_2o b_3b b_3o x4b x4o l_5a l_5l l_5c i_6 R m) (.loop (lP (bB (sR (sL (sR (sR (body))))))))))) (.code (sR (sR (sR (body))))))))
theorem k2_eq (K1 : Nat → Nat → Nat → Nat → Nat → Nat → Option Addr → Nat → Nat → Int → Mem → Prop) (R : Ending → Mem → Prop) (a_2b : Nat) (a_2o : Nat) (b_3b : Nat) (b_3o : Nat) (x4b : Nat) (x4o : Nat) (l_5a : Option Addr) (l_5l : Nat) (l_5c : Nat) (i_6 : Int) (x20 : Bool) (ρ : Env) (m : Mem) : k2 K1 a_2b a_2o b_3b b_3o x4b x4o l_5a l_5l l_5c i_6 x20 R m = acpt P od (panicR R) (k2A K1 R) (blockQ 1 (thenQ (acpt P od (panicR R) (.code (sR (sR (lP (bB (sR (sL (sR (sR (body)))))))))) (thenQ (l1E K1) (blockQ 0 (thenQ (acpt P od (panicR R) (.code (sR (sR (sR (body))))) (bodyQ P fn R)) (bodyQ P fn R))))) (thenQ (l1E K1) (blockQ 0 (thenQ (acpt P od (panicR R) (.code (sR (sR (sR (body))))) (bodyQ P fn R)) (bodyQ P fn R)))))) (upd (upd (upd (upd (upd (upd ρ 20 (.bool x20)) 6 (.int .i64 i_6)) 5 (.slice l_5a l_5l l_5c)) 4 (.pointer (some ⟨x4b, x4o, none⟩))) 3 (.pointer (some ⟨b_3b, b_3o, none⟩))) 2 (.pointer (some ⟨a_2b, a_2o, none⟩))) m := by kernel_rfl
theorem k2_er (K1 : Nat → Nat → Nat → Nat → Nat → Nat → Option Addr → Nat → Nat → Int → Mem → Prop) (R : Ending → Mem → Prop) : (k2A K1 R).erase = sR (bB (sL (sR (lP (bB (sR (sL (sR (sR (body)))))))))) := by kernel_rfl
theorem k2_ok (K1 : Nat → Nat → Nat → Nat → Nat → Nat → Option Addr → Nat → Nat → Int → Mem → Prop) (R : Ending → Mem → Prop) (ρ : Env) (m : Mem) (h : (k2E fun a_2b a_2o b_3b b_3o x4b x4o l_5a l_5l l_5c i_6 x20 m => k2 K1 a_2b a_2o b_3b b_3o x4b x4o l_5a l_5l l_5c i_6 x20 R m) ρ m) : cpt P od (panicR R) (sR (bB (sL (sR (lP (bB (sR (sL (sR (sR (body))))))))))) (blockQ 1 (thenQ (acpt P od (panicR R) (.code (sR (sR (lP (bB (sR (sL (sR (sR (body)))))))))) (thenQ (l1E K1) (blockQ 0 (thenQ (acpt P od (panicR R) (.code (sR (sR (sR (body))))) (bodyQ P fn R)) (bodyQ P fn R))))) (thenQ (l1E K1) (blockQ 0 (thenQ (acpt P od (panicR R) (.code (sR (sR (sR (body))))) (bodyQ P fn R)) (bodyQ P fn R)))))) ρ m := by
  unfold k2E at h
  obtain ⟨a_2b, a_2o, e2, h⟩ := h.ex
  obtain ⟨b_3b, b_3o, e3, h⟩ := h.ex
  obtain ⟨x4b, x4o, e4, h⟩ := h.ex
  obtain ⟨l_5a, l_5l, l_5c, e5, h⟩ := h.ex
  obtain ⟨i_6, e6, h⟩ := h.ex
  obtain ⟨x20, e20, h⟩ := h.ex
  rw [← upd_self e2, ← upd_self e3, ← upd_self e4, ← upd_self e5, ← upd_self e6, ← upd_self e20]
  rw [← k2_er K1 R]
  refine acpt_sound (P := P) (k2A K1 R) _ _ _ True.intro ?_
  exact Eq.mp (k2_eq K1 R a_2b a_2o b_3b b_3o x4b x4o l_5a l_5l l_5c i_6 x20 ρ m) h
theorem l1_eq  (K1 : Nat → Nat → Nat → Nat → Nat → Nat → Option Addr → Nat → Nat → Int → Mem → Prop) (R : Ending → Mem → Prop) (a_2b : Nat) (a_2o : Nat) (b_3b : Nat) (b_3o : Nat) (x4b : Nat) (x4o : Nat) (l_5a : Option Addr) (l_5l : Nat) (l_5c : Nat) (i_6 : Int) (ρ : Env) (m : Mem) : l1B  K1 a_2b a_2o b_3b b_3o x4b x4o l_5a l_5l l_5c i_6 R m = acpt P od (panicR R) (l1A  K1 R) (thenQ (l1E K1) (blockQ 0 (thenQ (acpt P od (panicR R) (.code (sR (sR (sR (body))))) (bodyQ P fn R)) (bodyQ P fn R)))) (upd (upd (upd (upd (upd ρ 6 (.int .i64 i_6)) 5 (.slice l_5a l_5l l_5c)) 4 (.pointer (some ⟨x4b, x4o, none⟩))) 3 (.pointer (some ⟨b_3b, b_3o, none⟩))) 2 (.pointer (some ⟨a_2b, a_2o, none⟩))) m := by kernel_rfl
theorem l1_er  (K1 : Nat → Nat → Nat → Nat → Nat → Nat → Option Addr → Nat → Nat → Int → Mem → Prop) (R : Ending → Mem → Prop) : (l1A  K1 R).erase = lP (bB (sR (sL (sR (sR (body)))))) := by kernel_rfl
theorem l1_ok  (R : Ending → Mem → Prop) (ρ : Env) (m : Mem) (h : (l1E fun a_2b a_2o b_3b b_3o x4b x4o l_5a l_5l l_5c i_6 m => l1  a_2b a_2o b_3b b_3o x4b x4o l_5a l_5l l_5c i_6 R m) ρ m) : cpt P od (panicR R) (.loop (lP (bB (sR (sL (sR (sR (body)))))))) (blockQ 0 (thenQ (acpt P od (panicR R) (.code (sR (sR (sR (body))))) (bodyQ P fn R)) (bodyQ P fn R))) ρ m := by
  unfold l1E at h
  obtain ⟨a_2b, a_2o, e2, h⟩ := h.ex
  obtain ⟨b_3b, b_3o, e3, h⟩ := h.ex
  obtain ⟨x4b, x4o, e4, h⟩ := h.ex
  obtain ⟨l_5a, l_5l, l_5c, e5, h⟩ := h.ex
  obtain ⟨i_6, e6, h⟩ := h.ex
  obtain ⟨I, N, h0, hs⟩ := h
  refine ⟨fun N => l1E (I N), N, (by show l1E (I N) ρ m; unfold l1E; rw [e2, e3, e4, e5, e6]; exact h0), ?_⟩
  clear h0 e2 e3 e4 e5 e6
  intro N ρ m h
  unfold l1E at h
  obtain ⟨a_2b, a_2o, e2, h⟩ := h.ex
  obtain ⟨b_3b, b_3o, e3, h⟩ := h.ex
  obtain ⟨x4b, x4o, e4, h⟩ := h.ex
  obtain ⟨l_5a, l_5l, l_5c, e5, h⟩ := h.ex
  obtain ⟨i_6, e6, h⟩ := h.ex
  refine cpt_mono (P := P) (lP (bB (sR (sL (sR (sR (body))))))) (Q := thenQ (l1E fun a_2b a_2o b_3b b_3o x4b x4o l_5a l_5l l_5c i_6 m => ∃ N1, N1 < N ∧ I N1 a_2b a_2o b_3b b_3o x4b x4o l_5a l_5l l_5c i_6 m) (blockQ 0 (thenQ (acpt P od (panicR R) (.code (sR (sR (sR (body))))) (bodyQ P fn R)) (bodyQ P fn R)))) (fun e ρ m h => ?_) ρ m ?_
  · cases e with
    | normal =>
      have h : l1E (fun a_2b a_2o b_3b b_3o x4b x4o l_5a l_5l l_5c i_6 m => ∃ N1, N1 < N ∧ I N1 a_2b a_2o b_3b b_3o x4b x4o l_5a l_5l l_5c i_6 m) ρ m := h
      unfold l1E at h
      obtain ⟨a_2b, a_2o, e2, h⟩ := h.ex
      obtain ⟨b_3b, b_3o, e3, h⟩ := h.ex
      obtain ⟨x4b, x4o, e4, h⟩ := h.ex
      obtain ⟨l_5a, l_5l, l_5c, e5, h⟩ := h.ex
      obtain ⟨i_6, e6, h⟩ := h.ex
      obtain ⟨N1, hlt, h⟩ := h
      exact ⟨N1, hlt, (by show l1E (I N1) ρ m; unfold l1E; rw [e2, e3, e4, e5, e6]; exact h)⟩
    | _ => exact h
  have hh := hs N a_2b a_2o b_3b b_3o x4b x4o l_5a l_5l l_5c i_6 m h
  generalize (fun a_2b a_2o b_3b b_3o x4b x4o l_5a l_5l l_5c i_6 m => ∃ N1, N1 < N ∧ I N1 a_2b a_2o b_3b b_3o x4b x4o l_5a l_5l l_5c i_6 m : Nat → Nat → Nat → Nat → Nat → Nat → Option Addr → Nat → Nat → Int → Mem → Prop) = K1 at hh ⊢
  rw [← upd_self e2, ← upd_self e3, ← upd_self e4, ← upd_self e5, ← upd_self e6]
  rw [← l1_er  K1 R]
  refine acpt_sound (P := P) (l1A  K1 R) _ _ _ ⟨⟨True.intro, ⟨(fun ρ m h => k2_ok K1 R ρ m h), True.intro⟩⟩, True.intro⟩ ?_
  exact Eq.mp (l1_eq  K1 R a_2b a_2o b_3b b_3o x4b x4o l_5a l_5l l_5c i_6 ρ m) hh
theorem e0_eq (a_0_0 : Int) (a_0_1 : Int) (a_0_2 : Int) (a_0_3 : Int) (b_1_0 : Int) (b_1_1 : Int) (b_1_2 : Int) (b_1_3 : Int) (R : Ending → Mem → Prop) (m : Mem) : e0 a_0_0 a_0_1 a_0_2 a_0_3 b_1_0 b_1_1 b_1_2 b_1_3 R m = acpt P od (panicR R) (e0A R) (bodyQ P fn R) (argE (#[.agg #[.int .u64 a_0_0, .int .u64 a_0_1, .int .u64 a_0_2, .int .u64 a_0_3], .agg #[.int .u64 b_1_0, .int .u64 b_1_1, .int .u64 b_1_2, .int .u64 b_1_3]] : Array Value).toList) m := by kernel_rfl
theorem ok (a_0_0 : Int) (a_0_1 : Int) (a_0_2 : Int) (a_0_3 : Int) (b_1_0 : Int) (b_1_1 : Int) (b_1_2 : Int) (b_1_3 : Int) (R : Ending → Mem → Prop) (m : Mem) (h : e0 a_0_0 a_0_1 a_0_2 a_0_3 b_1_0 b_1_1 b_1_2 b_1_3 R m) : HC P id #[.agg #[.int .u64 a_0_0, .int .u64 a_0_1, .int .u64 a_0_2, .int .u64 a_0_3], .agg #[.int .u64 b_1_0, .int .u64 b_1_1, .int .u64 b_1_2, .int .u64 b_1_3]] m R := by
  refine HC_of (fn := fn) (c := body) (od := od) (tb := tb) Go.Proofs.Tryd.func25 (by kernel_rfl) (by kernel_rfl) follows (by kernel_rfl) (of_decide_eq_true (by kernel_rfl)) ?_
  have he : (e0A R).erase = body := by kernel_rfl
  rw [← he]
  refine acpt_sound (P := P) (e0A R) _ _ _ ⟨⟨⟨True.intro, ⟨(fun ρ m h => l1_ok  R ρ m h), True.intro⟩⟩, True.intro⟩, True.intro⟩ ?_
  exact Eq.mp (e0_eq a_0_0 a_0_1 a_0_2 a_0_3 b_1_0 b_1_1 b_1_2 b_1_3 R m) h
end eyotref8_And

/-! ### eyot/eyotref8.Not -/
namespace eyotref8_Not
noncomputable def fn : Func := Go.Proofs.Tryd.f26
noncomputable def body : Code := fn.body.getD .skip
def od : Nat → Ord := fun _ => .done
def tb : Nat → Tab := fun _ => (0, [], [])
def l1E (K : Nat → Nat → Nat → Nat → Option Addr → Nat → Nat → Int → Mem → Prop) : Env → Mem → Prop := fun ρ m => UnPA (ρ 1) fun a_1b a_1o => UnPA (ρ 2) fun x2b x2o => UnS (ρ 3) fun l_3a l_3l l_3c => UnI (ρ 4) .i64 fun i_4 => K a_1b a_1o x2b x2o l_3a l_3l l_3c i_4 m
def l1B  (K1 : Nat → Nat → Nat → Nat → Option Addr → Nat → Nat → Int → Mem → Prop) (a_1b : Nat) (a_1o : Nat) (x2b : Nat) (x2o : Nat) (l_3a : Option Addr) (l_3l : Nat) (l_3c : Nat) (i_4 : Int) (R : Ending → Mem → Prop) (m : Mem) : Prop :=
  Br (decide (i_4 < 256)) (
    LdV m a_1b a_1o fun v =>
    UnI v .u64 fun x9_0 =>
    LdV m a_1b (a_1o + 1) fun v =>
    UnI v .u64 fun x9_1 =>
    LdV m a_1b (a_1o + 2) fun v =>
    UnI v .u64 fun x9_2 =>
    LdV m a_1b (a_1o + 3) fun v =>
    UnI v .u64 fun x9_3 =>
    HC P eyotref8_Has.id #[.agg #[.int .u64 x9_0, .int .u64 x9_1, .int .u64 x9_2, .int .u64 x9_3], .int .u8 (IntKind.u8.wrap i_4)] m (Cont (fun v m1 =>
        UnB v fun x12 =>
        Br (!x12) (
          NewC m1 #[.int .u8 (IntKind.u8.wrap i_4)] T_uint8 fun b17 m2 =>
          BiN P .append #[T_sl_uint8, T_sl_uint8] T_sl_uint8 #[false, false] #[.slice l_3a l_3l l_3c, .slice (some ⟨b17, 0, none⟩) 1 1] m2 (fun w m3 =>
            UnS w fun x18a x18l x18c =>
            K1 a_1b a_1o x2b x2o x18a x18l x18c (IntKind.i64.wrap (i_4 + 1)) m3) (panicR R)) (
          K1 a_1b a_1o x2b x2o l_3a l_3l l_3c (IntKind.i64.wrap (i_4 + 1)) m1)) (panicR R))) (
    HC P eyotref8_Of.id #[.slice l_3a l_3l l_3c] m (Cont (fun v m1 =>
        UnAgg v fun l =>
        UnCons l fun v l =>
        UnI v .u64 fun x20_0 =>
        UnCons l fun v l =>
        UnI v .u64 fun x20_1 =>
        UnCons l fun v l =>
        UnI v .u64 fun x20_2 =>
        UnCons l fun v l =>
        UnI v .u64 fun x20_3 =>
        UnNil l (
          St1 m1 x2b x2o (.int .u64 x20_0) fun m2 =>
          St1 m2 x2b (x2o + 1) (.int .u64 x20_1) fun m3 =>
          St1 m3 x2b (x2o + 2) (.int .u64 x20_2) fun m4 =>
          St1 m4 x2b (x2o + 3) (.int .u64 x20_3) fun m5 =>
          LdV m5 x2b x2o fun v =>
          UnI v .u64 fun res0_0 =>
          LdV m5 x2b (x2o + 1) fun v =>
          UnI v .u64 fun res0_1 =>
          LdV m5 x2b (x2o + 2) fun v =>
          UnI v .u64 fun res0_2 =>
          LdV m5 x2b (x2o + 3) fun v =>
          UnI v .u64 fun res0_3 =>
          R (.returned (.agg #[.int .u64 res0_0, .int .u64 res0_1, .int .u64 res0_2, .int .u64 res0_3])) m5)) (panicR R)))
def l1  (a_1b : Nat) (a_1o : Nat) (x2b : Nat) (x2o : Nat) (l_3a : Option Addr) (l_3l : Nat) (l_3c : Nat) (i_4 : Int) (R : Ending → Mem → Prop) (m : Mem) : Prop :=
  ∃ (I : Nat → Nat → Nat → Nat → Nat → Option Addr → Nat → Nat → Int → Mem → Prop) (N : Nat), I N a_1b a_1o x2b x2o l_3a l_3l l_3c i_4 m ∧ ∀ N a_1b a_1o x2b x2o l_3a l_3l l_3c i_4 m, I N a_1b a_1o x2b x2o l_3a l_3l l_3c i_4 m → l1B  (fun a_1b a_1o x2b x2o l_3a l_3l l_3c i_4 m => ∃ N1, N1 < N ∧ I N1 a_1b a_1o x2b x2o l_3a l_3l l_3c i_4 m) a_1b a_1o x2b x2o l_3a l_3l l_3c i_4 R m
noncomputable def l1A  (K1 : Nat → Nat → Nat → Nat → Option Addr → Nat → Nat → Int → Mem → Prop) (R : Ending → Mem → Prop) : ACode := (.code (lP (bB (sR (sL (sR (sR (body))))))))
def e0 (a_0_0 : Int) (a_0_1 : Int) (a_0_2 : Int) (a_0_3 : Int) (R : Ending → Mem → Prop) (m : Mem) : Prop :=
  NewC m #[.int .u64 a_0_0, .int .u64 a_0_1, .int .u64 a_0_2, .int .u64 a_0_3] T_api_Set fun b_a_1 m1 =>
  NewC m1 #[.int .u64 0, .int .u64 0, .int .u64 0, .int .u64 0] T_api_Set fun b2 m2 =>
  l1  b_a_1 0 b2 0 none 0 0 0 R m2
noncomputable def e0A (R : Ending → Mem → Prop) : ACode := (.seq (.code (sL (body))) (.seq (.code (sL (sR (body)))) (.seq (.seq (.code (sL (sL (sR (sR (body)))))) (.block 0 (.cut (l1E fun a_1b a_1o x2b x2o l_3a l_3l l_3c i_4 m => l1  a_1b a_1o x2b x2o l_3a l_3l l_3c i_4 R m) (.loop (lP (bB (sR (sL (sR (sR (body))))))))))) (.code (sR (sR (sR (body))))))))
theorem l1_eq  (K1 : Nat → Nat → Nat → Nat → Option Addr → Nat → Nat → Int → Mem → Prop) (R : Ending → Mem → Prop) (a_1b : Nat) (a_1o : Nat) (x2b : Nat) (x2o : Nat) (l_3a : Option Addr) (l_3l : Nat) (l_3c : Nat) (i_4 : Int) (ρ : Env) (m : Mem) : l1B  K1 a_1b a_1o x2b x2o l_3a l_3l l_3c i_4 R m = acpt P od (panicR R) (l1A  K1 R) (thenQ (l1E K1) (blockQ 0 (thenQ (acpt P od (panicR R) (.code (sR (sR (sR (body))))) (bodyQ P fn R)) (bodyQ P fn R)))) (upd (upd (upd (upd ρ 4 (.int .i64 i_4)) 3 (.slice l_3a l_3l l_3c)) 2 (.pointer (some ⟨x2b, x2o, none⟩))) 1 (.pointer (some ⟨a_1b, a_1o, none⟩))) m := by kernel_rfl
theorem l1_er  (K1 : Nat → Nat → Nat → Nat → Option Addr → Nat → Nat → Int → Mem → Prop) (R : Ending → Mem → Prop) : (l1A  K1 R).erase = lP (bB (sR (sL (sR (sR (body)))))) := by kernel_rfl
theorem l1_ok  (R : Ending → Mem → Prop) (ρ : Env) (m : Mem) (h : (l1E fun a_1b a_1o x2b x2o l_3a l_3l l_3c i_4 m => l1  a_1b a_1o x2b x2o l_3a l_3l l_3c i_4 R m) ρ m) : cpt P od (panicR R) (.loop (lP (bB (sR (sL (sR (sR (body)))))))) (blockQ 0 (thenQ (acpt P od (panicR R) (.code (sR (sR (sR (body))))) (bodyQ P fn R)) (bodyQ P fn R))) ρ m := by
  unfold l1E at h
  obtain ⟨a_1b, a_1o, e1, h⟩ := h.ex
  obtain ⟨x2b, x2o, e2, h⟩ := h.ex
  obtain ⟨l_3a, l_3l, l_3c, e3, h⟩ := h.ex
  obtain ⟨i_4, e4, h⟩ := h.ex
  obtain ⟨I, N, h0, hs⟩ := h
  refine ⟨fun N => l1E (I N), N, (by show l1E (I N) ρ m; unfold l1E; rw [e1, e2, e3, e4]; exact h0), ?_⟩
  clear h0 e1 e2 e3 e4
  intro N ρ m h
  unfold l1E at h
  obtain ⟨a_1b, a_1o, e1, h⟩ := h.ex
  obtain ⟨x2b, x2o, e2, h⟩ := h.ex
  obtain ⟨l_3a, l_3l, l_3c, e3, h⟩ := h.ex
  obtain ⟨i_4, e4, h⟩ := h.ex
  refine cpt_mono (P := P) (lP (bB (sR (sL (sR (sR (body))))))) (Q := thenQ (l1E fun a_1b a_1o x2b x2o l_3a l_3l l_3c i_4 m => ∃ N1, N1 < N ∧ I N1 a_1b a_1o x2b x2o l_3a l_3l l_3c i_4 m) (blockQ 0 (thenQ (acpt P od (panicR R) (.code (sR (sR (sR (body))))) (bodyQ P fn R)) (bodyQ P fn R)))) (fun e ρ m h => ?_) ρ m ?_
  · cases e with
    | normal =>
      have h : l1E (fun a_1b a_1o x2b x2o l_3a l_3l l_3c i_4 m => ∃ N1, N1 < N ∧ I N1 a_1b a_1o x2b x2o l_3a l_3l l_3c i_4 m) ρ m := h
      unfold l1E at h
      obtain ⟨a_1b, a_1o, e1, h⟩ := h.ex
      obtain ⟨x2b, x2o, e2, h⟩ := h.ex
      obtain ⟨l_3a, l_3l, l_3c, e3, h⟩ := h.ex
      obtain ⟨i_4, e4, h⟩ := h.ex
      obtain ⟨N1, hlt, h⟩ := h
      exact ⟨N1, hlt, (by show l1E (I N1) ρ m; unfold l1E; rw [e1, e2, e3, e4]; exact h)⟩
    | _ => exact h
  have hh := hs N a_1b a_1o x2b x2o l_3a l_3l l_3c i_4 m h
  generalize (fun a_1b a_1o x2b x2o l_3a l_3l l_3c i_4 m => ∃ N1, N1 < N ∧ I N1 a_1b a_1o x2b x2o l_3a l_3l l_3c i_4 m : Nat → Nat → Nat → Nat → Option Addr → Nat → Nat → Int → Mem → Prop) = K1 at hh ⊢
  rw [← upd_self e1, ← upd_self e2, ← upd_self e3, ← upd_self e4]
  rw [← l1_er  K1 R]
  refine acpt_sound (P := P) (l1A  K1 R) _ _ _ True.intro ?_
  exact Eq.mp (l1_eq  K1 R a_1b a_1o x2b x2o l_3a l_3l l_3c i_4 ρ m) hh
theorem e0_eq (a_0_0 : Int) (a_0_1 : Int) (a_0_2 : Int) (a_0_3 : Int) (R : Ending → Mem → Prop) (m : Mem) : e0 a_0_0 a_0_1 a_0_2 a_0_3 R m = acpt P od (panicR R) (e0A R) (bodyQ P fn R) (argE (#[.agg #[.int .u64 a_0_0, .int .u64 a_0_1, .int .u64 a_0_2, .int .u64 a_0_3]] : Array Value).toList) m := by kernel_rfl
theorem ok (a_0_0 : Int) (a_0_1 : Int) (a_0_2 : Int) (a_0_3 : Int) (R : Ending → Mem → Prop) (m : Mem) (h : e0 a_0_0 a_0_1 a_0_2 a_0_3 R m) : HC P id #[.agg #[.int .u64 a_0_0, .int .u64 a_0_1, .int .u64 a_0_2, .int .u64 a_0_3]] m R := by
  refine HC_of (fn := fn) (c := body) (od := od) (tb := tb) Go.Proofs.Tryd.func26 (by kernel_rfl) (by kernel_rfl) follows (by kernel_rfl) (of_decide_eq_true (by kernel_rfl)) ?_
  have he : (e0A R).erase = body := by kernel_rfl
  rw [← he]
  refine acpt_sound (P := P) (e0A R) _ _ _ ⟨⟨⟨True.intro, ⟨(fun ρ m h => l1_ok  R ρ m h), True.intro⟩⟩, True.intro⟩, True.intro⟩ ?_
  exact Eq.mp (e0_eq a_0_0 a_0_1 a_0_2 a_0_3 R m) h
end eyotref8_Not

/-! ### eyot/eyotref8.Of -/
namespace eyotref8_Of
noncomputable def fn : Func := Go.Proofs.Tryd.f27
noncomputable def body : Code := fn.body.getD .skip
def od : Nat → Ord := fun | 5 => ordL [(0, 3), (1, 3), (2, 3), (3, 1), (4, 3), (5, 3), (6, 1), (7, 3), (8, 3), (9, 3), (10, 0), (11, 3), (12, 3), (13, 3), (14, 3), (15, 2)] .done | _ => .done
def tb : Nat → Tab := fun | 5 => (32768, [0, 0, 3, 7, 15, 31, 63, 0, 0, 384, 896, 1920, 3968, 8191, 16383, 32767], [(0, 1, 12), (0, 16, 13), (3, 6144, 14), (4, 8192, 15), (8, 16384, 16), (16, 32776, 17), (32, 65536, 18), (0, 1, 19), (0, 16, 20), (384, 786432, 21), (512, 1048576, 22), (1024, 2097152, 23), (2048, 4194304, 24), (4160, 8519680, 25), (16383, 32776, 26), (32767, 50331648, 0)]) | _ => (0, [], [])
def l1E (K : Option Addr → Nat → Nat → Nat → Nat → Nat → Nat → Int → Mem → Prop) : Env → Mem → Prop := fun ρ m => UnS (ρ 0) fun l_0a l_0l l_0c => UnPA (ρ 2) fun x2b x2o => UnPA (ρ 3) fun s_3b s_3o => UnI (ρ 4) .i64 fun i_4 => K l_0a l_0l l_0c x2b x2o s_3b s_3o i_4 m
def l1B  (K1 : Option Addr → Nat → Nat → Nat → Nat → Nat → Nat → Int → Mem → Prop) (l_0a : Option Addr) (l_0l : Nat) (l_0c : Nat) (x2b : Nat) (x2o : Nat) (s_3b : Nat) (s_3o : Nat) (i_4 : Int) (R : Ending → Mem → Prop) (m : Mem) : Prop :=
  Br (decide (i_4 < ((l_0l : Nat) : Int))) (
    Sub m fun r1 =>
    IxS l_0a l_0l i_4 1 fun x13b x13o =>
    LdV r1 x13b x13o fun v =>
    UnI v .u8 fun x14 =>
    0 ≤ (IntKind.u8.wrap (Int.tdiv x14 64) : Int) ∧ (IntKind.u8.wrap (Int.tdiv x14 64) : Int) < (4 : Nat) ∧ (
      LdV r1 s_3b (s_3o + (IntKind.u8.wrap (Int.tdiv x14 64) : Int).toNat * 1) fun v =>
      UnI v .u64 fun x17 =>
      IxS l_0a l_0l i_4 1 fun x20b x20o =>
      LdV m x20b x20o fun v =>
      UnI v .u8 fun x21 =>
      NnI (Int.tmod x21 64) (
        0 ≤ (IntKind.u8.wrap (Int.tdiv x14 64) : Int) ∧ (IntKind.u8.wrap (Int.tdiv x14 64) : Int) < (4 : Nat) ∧ (
          St1 m s_3b (s_3o + (IntKind.u8.wrap (Int.tdiv x14 64) : Int).toNat * 1) (.int .u64 (bitsV .or .u64 x17 (shlV .u64 1 (Int.tmod x21 64)))) fun m2 =>
          K1 l_0a l_0l l_0c x2b x2o s_3b s_3o (IntKind.i64.wrap (i_4 + 1)) m2)))) (
    LdV m s_3b s_3o fun v =>
    UnI v .u64 fun x26_0 =>
    LdV m s_3b (s_3o + 1) fun v =>
    UnI v .u64 fun x26_1 =>
    LdV m s_3b (s_3o + 2) fun v =>
    UnI v .u64 fun x26_2 =>
    LdV m s_3b (s_3o + 3) fun v =>
    UnI v .u64 fun x26_3 =>
    St1 m x2b x2o (.int .u64 x26_0) fun m1 =>
    St1 m1 x2b (x2o + 1) (.int .u64 x26_1) fun m2 =>
    St1 m2 x2b (x2o + 2) (.int .u64 x26_2) fun m3 =>
    St1 m3 x2b (x2o + 3) (.int .u64 x26_3) fun m4 =>
    LdV m4 x2b x2o fun v =>
    UnI v .u64 fun res0_0 =>
    LdV m4 x2b (x2o + 1) fun v =>
    UnI v .u64 fun res0_1 =>
    LdV m4 x2b (x2o + 2) fun v =>
    UnI v .u64 fun res0_2 =>
    LdV m4 x2b (x2o + 3) fun v =>
    UnI v .u64 fun res0_3 =>
    R (.returned (.agg #[.int .u64 res0_0, .int .u64 res0_1, .int .u64 res0_2, .int .u64 res0_3])) m4)
def l1  (l_0a : Option Addr) (l_0l : Nat) (l_0c : Nat) (x2b : Nat) (x2o : Nat) (s_3b : Nat) (s_3o : Nat) (i_4 : Int) (R : Ending → Mem → Prop) (m : Mem) : Prop :=
  ∃ (I : Nat → Option Addr → Nat → Nat → Nat → Nat → Nat → Nat → Int → Mem → Prop) (N : Nat), I N l_0a l_0l l_0c x2b x2o s_3b s_3o i_4 m ∧ ∀ N l_0a l_0l l_0c x2b x2o s_3b s_3o i_4 m, I N l_0a l_0l l_0c x2b x2o s_3b s_3o i_4 m → l1B  (fun l_0a l_0l l_0c x2b x2o s_3b s_3o i_4 m => ∃ N1, N1 < N ∧ I N1 l_0a l_0l l_0c x2b x2o s_3b s_3o i_4 m) l_0a l_0l l_0c x2b x2o s_3b s_3o i_4 R m
noncomputable def l1A  (K1 : Option Addr → Nat → Nat → Nat → Nat → Nat → Nat → Int → Mem → Prop) (R : Ending → Mem → Prop) : ACode := (.code (lP (bB (sR (sL (sR (sR (body))))))))
def e0 (l_0a : Option Addr) (l_0l : Nat) (l_0c : Nat) (R : Ending → Mem → Prop) (m : Mem) : Prop :=
  NewC m #[.int .u64 0, .int .u64 0, .int .u64 0, .int .u64 0] T_api_Set fun b2 m1 =>
  NewC m1 #[.int .u64 0, .int .u64 0, .int .u64 0, .int .u64 0] T_api_Set fun b_s_3 m2 =>
  l1  l_0a l_0l l_0c b2 0 b_s_3 0 0 R m2
noncomputable def e0A (R : Ending → Mem → Prop) : ACode := (.seq (.code (sL (body))) (.seq (.code (sL (sR (body)))) (.seq (.seq (.code (sL (sL (sR (sR (body)))))) (.block 0 (.cut (l1E fun l_0a l_0l l_0c x2b x2o s_3b s_3o i_4 m => l1  l_0a l_0l l_0c x2b x2o s_3b s_3o i_4 R m) (.loop (lP (bB (sR (sL (sR (sR (body))))))))))) (.code (sR (sR (sR (body))))))))
theorem l1_eq  (K1 : Option Addr → Nat → Nat → Nat → Nat → Nat → Nat → Int → Mem → Prop) (R : Ending → Mem → Prop) (l_0a : Option Addr) (l_0l : Nat) (l_0c : Nat) (x2b : Nat) (x2o : Nat) (s_3b : Nat) (s_3o : Nat) (i_4 : Int) (ρ : Env) (m : Mem) : l1B  K1 l_0a l_0l l_0c x2b x2o s_3b s_3o i_4 R m = acpt P od (panicR R) (l1A  K1 R) (thenQ (l1E K1) (blockQ 0 (thenQ (acpt P od (panicR R) (.code (sR (sR (sR (body))))) (bodyQ P fn R)) (bodyQ P fn R)))) (upd (upd (upd (upd ρ 4 (.int .i64 i_4)) 3 (.pointer (some ⟨s_3b, s_3o, none⟩))) 2 (.pointer (some ⟨x2b, x2o, none⟩))) 0 (.slice l_0a l_0l l_0c)) m := by kernel_rfl
theorem l1_er  (K1 : Option Addr → Nat → Nat → Nat → Nat → Nat → Nat → Int → Mem → Prop) (R : Ending → Mem → Prop) : (l1A  K1 R).erase = lP (bB (sR (sL (sR (sR (body)))))) := by kernel_rfl
theorem l1_ok  (R : Ending → Mem → Prop) (ρ : Env) (m : Mem) (h : (l1E fun l_0a l_0l l_0c x2b x2o s_3b s_3o i_4 m => l1  l_0a l_0l l_0c x2b x2o s_3b s_3o i_4 R m) ρ m) : cpt P od (panicR R) (.loop (lP (bB (sR (sL (sR (sR (body)))))))) (blockQ 0 (thenQ (acpt P od (panicR R) (.code (sR (sR (sR (body))))) (bodyQ P fn R)) (bodyQ P fn R))) ρ m := by
  unfold l1E at h
  obtain ⟨l_0a, l_0l, l_0c, e0, h⟩ := h.ex
  obtain ⟨x2b, x2o, e2, h⟩ := h.ex
  obtain ⟨s_3b, s_3o, e3, h⟩ := h.ex
  obtain ⟨i_4, e4, h⟩ := h.ex
  obtain ⟨I, N, h0, hs⟩ := h
  refine ⟨fun N => l1E (I N), N, (by show l1E (I N) ρ m; unfold l1E; rw [e0, e2, e3, e4]; exact h0), ?_⟩
  clear h0 e0 e2 e3 e4
  intro N ρ m h
  unfold l1E at h
  obtain ⟨l_0a, l_0l, l_0c, e0, h⟩ := h.ex
  obtain ⟨x2b, x2o, e2, h⟩ := h.ex
  obtain ⟨s_3b, s_3o, e3, h⟩ := h.ex
  obtain ⟨i_4, e4, h⟩ := h.ex
  refine cpt_mono (P := P) (lP (bB (sR (sL (sR (sR (body))))))) (Q := thenQ (l1E fun l_0a l_0l l_0c x2b x2o s_3b s_3o i_4 m => ∃ N1, N1 < N ∧ I N1 l_0a l_0l l_0c x2b x2o s_3b s_3o i_4 m) (blockQ 0 (thenQ (acpt P od (panicR R) (.code (sR (sR (sR (body))))) (bodyQ P fn R)) (bodyQ P fn R)))) (fun e ρ m h => ?_) ρ m ?_
  · cases e with
    | normal =>
      have h : l1E (fun l_0a l_0l l_0c x2b x2o s_3b s_3o i_4 m => ∃ N1, N1 < N ∧ I N1 l_0a l_0l l_0c x2b x2o s_3b s_3o i_4 m) ρ m := h
      unfold l1E at h
      obtain ⟨l_0a, l_0l, l_0c, e0, h⟩ := h.ex
      obtain ⟨x2b, x2o, e2, h⟩ := h.ex
      obtain ⟨s_3b, s_3o, e3, h⟩ := h.ex
      obtain ⟨i_4, e4, h⟩ := h.ex
      obtain ⟨N1, hlt, h⟩ := h
      exact ⟨N1, hlt, (by show l1E (I N1) ρ m; unfold l1E; rw [e0, e2, e3, e4]; exact h)⟩
    | _ => exact h
  have hh := hs N l_0a l_0l l_0c x2b x2o s_3b s_3o i_4 m h
  generalize (fun l_0a l_0l l_0c x2b x2o s_3b s_3o i_4 m => ∃ N1, N1 < N ∧ I N1 l_0a l_0l l_0c x2b x2o s_3b s_3o i_4 m : Option Addr → Nat → Nat → Nat → Nat → Nat → Nat → Int → Mem → Prop) = K1 at hh ⊢
  rw [← upd_self e0, ← upd_self e2, ← upd_self e3, ← upd_self e4]
  rw [← l1_er  K1 R]
  refine acpt_sound (P := P) (l1A  K1 R) _ _ _ True.intro ?_
  exact Eq.mp (l1_eq  K1 R l_0a l_0l l_0c x2b x2o s_3b s_3o i_4 ρ m) hh
theorem e0_eq (l_0a : Option Addr) (l_0l : Nat) (l_0c : Nat) (R : Ending → Mem → Prop) (m : Mem) : e0 l_0a l_0l l_0c R m = acpt P od (panicR R) (e0A R) (bodyQ P fn R) (argE (#[.slice l_0a l_0l l_0c] : Array Value).toList) m := by kernel_rfl
theorem ok (l_0a : Option Addr) (l_0l : Nat) (l_0c : Nat) (R : Ending → Mem → Prop) (m : Mem) (h : e0 l_0a l_0l l_0c R m) : HC P id #[.slice l_0a l_0l l_0c] m R := by
  refine HC_of (fn := fn) (c := body) (od := od) (tb := tb) Go.Proofs.Tryd.func27 (by kernel_rfl) (by kernel_rfl) follows (by kernel_rfl) (of_decide_eq_true (by kernel_rfl)) ?_
  have he : (e0A R).erase = body := by kernel_rfl
  rw [← he]
  refine acpt_sound (P := P) (e0A R) _ _ _ ⟨⟨⟨True.intro, ⟨(fun ρ m h => l1_ok  R ρ m h), True.intro⟩⟩, True.intro⟩, True.intro⟩ ?_
  exact Eq.mp (e0_eq l_0a l_0l l_0c R m) h
end eyotref8_Of

/-! ### (*eyot/class.reader).class -/
namespace class_reader_class
noncomputable def fn : Func := Go.Proofs.Tryd.f29
noncomputable def body : Code := fn.body.getD .skip
def od : Nat → Ord := fun | 14 => ordL [(0, 1), (1, 3), (2, 0), (3, 2), (4, 2)] .done | _ => .done
def tb : Nat → Tab := fun | 14 => (24, [0, 0, 2, 7, 15], [(0, 32, 35), (0, 1, 36), (2, 34359738368, 37), (5, 85899345920, 38), (15, 137438953504, 0)]) | _ => (0, [], [])
def k3E (K : Option Addr → Nat → Nat → Bool → Nat → Nat → Mem → Prop) : Env → Mem → Prop := fun ρ m => UnP (ρ 0) fun r_0 => UnPA (ρ 2) fun x2b x2o => UnB (ρ 4) fun other_4 => UnPA (ρ 5) fun s_5b s_5o => K r_0 x2b x2o other_4 s_5b s_5o m
def k3  (r_0 : Option Addr) (x2b : Nat) (x2o : Nat) (other_4 : Bool) (s_5b : Nat) (s_5o : Nat) (R : Ending → Mem → Prop) (m : Mem) : Prop :=
  HC P class_reader_take.id #[.pointer r_0] m (Cont (fun v m1 =>
      UnI v .u8 fun x39 =>
      Br other_4 (
        LdV m1 s_5b s_5o fun v =>
        UnI v .u64 fun x41_0 =>
        LdV m1 s_5b (s_5o + 1) fun v =>
        UnI v .u64 fun x41_1 =>
        LdV m1 s_5b (s_5o + 2) fun v =>
        UnI v .u64 fun x41_2 =>
        LdV m1 s_5b (s_5o + 3) fun v =>
        UnI v .u64 fun x41_3 =>
        HC P class_Not.id #[.agg #[.int .u64 x41_0, .int .u64 x41_1, .int .u64 x41_2, .int .u64 x41_3]] m1 (Cont (fun v m2 =>
            UnAgg v fun l =>
            UnCons l fun v l =>
            UnI v .u64 fun x42_0 =>
            UnCons l fun v l =>
            UnI v .u64 fun x42_1 =>
            UnCons l fun v l =>
            UnI v .u64 fun x42_2 =>
            UnCons l fun v l =>
            UnI v .u64 fun x42_3 =>
            UnNil l (
              St1 m2 s_5b s_5o (.int .u64 x42_0) fun m3 =>
              St1 m3 s_5b (s_5o + 1) (.int .u64 x42_1) fun m4 =>
              St1 m4 s_5b (s_5o + 2) (.int .u64 x42_2) fun m5 =>
              St1 m5 s_5b (s_5o + 3) (.int .u64 x42_3) fun m6 =>
              LdV m6 s_5b s_5o fun v =>
              UnI v .u64 fun x43_0 =>
              LdV m6 s_5b (s_5o + 1) fun v =>
              UnI v .u64 fun x43_1 =>
              LdV m6 s_5b (s_5o + 2) fun v =>
              UnI v .u64 fun x43_2 =>
              LdV m6 s_5b (s_5o + 3) fun v =>
              UnI v .u64 fun x43_3 =>
              St1 m6 x2b x2o (.int .u64 x43_0) fun m7 =>
              St1 m7 x2b (x2o + 1) (.int .u64 x43_1) fun m8 =>
              St1 m8 x2b (x2o + 2) (.int .u64 x43_2) fun m9 =>
              St1 m9 x2b (x2o + 3) (.int .u64 x43_3) fun m10 =>
              LdV m10 x2b x2o fun v =>
              UnI v .u64 fun res0_0 =>
              LdV m10 x2b (x2o + 1) fun v =>
              UnI v .u64 fun res0_1 =>
              LdV m10 x2b (x2o + 2) fun v =>
              UnI v .u64 fun res0_2 =>
              LdV m10 x2b (x2o + 3) fun v =>
              UnI v .u64 fun res0_3 =>
              R (.returned (.agg #[.int .u64 res0_0, .int .u64 res0_1, .int .u64 res0_2, .int .u64 res0_3])) m10)) (panicR R))) (
        LdV m1 s_5b s_5o fun v =>
        UnI v .u64 fun x43_0 =>
        LdV m1 s_5b (s_5o + 1) fun v =>
        UnI v .u64 fun x43_1 =>
        LdV m1 s_5b (s_5o + 2) fun v =>
        UnI v .u64 fun x43_2 =>
        LdV m1 s_5b (s_5o + 3) fun v =>
        UnI v .u64 fun x43_3 =>
        St1 m1 x2b x2o (.int .u64 x43_0) fun m2 =>
        St1 m2 x2b (x2o + 1) (.int .u64 x43_1) fun m3 =>
        St1 m3 x2b (x2o + 2) (.int .u64 x43_2) fun m4 =>
        St1 m4 x2b (x2o + 3) (.int .u64 x43_3) fun m5 =>
        LdV m5 x2b x2o fun v =>
        UnI v .u64 fun res0_0 =>
        LdV m5 x2b (x2o + 1) fun v =>
        UnI v .u64 fun res0_1 =>
        LdV m5 x2b (x2o + 2) fun v =>
        UnI v .u64 fun res0_2 =>
        LdV m5 x2b (x2o + 3) fun v =>
        UnI v .u64 fun res0_3 =>
        R (.returned (.agg #[.int .u64 res0_0, .int .u64 res0_1, .int .u64 res0_2, .int .u64 res0_3])) m5)) (panicR R))
noncomputable def k3A  (R : Ending → Mem → Prop) : ACode := (.code (sR (sR (sR (sR (sR (sR (sR (body)))))))))
def l2E (K : Option Addr → Nat → Nat → Bool → Nat → Nat → Mem → Prop) : Env → Mem → Prop := fun ρ m => UnP (ρ 0) fun r_0 => UnPA (ρ 2) fun x2b x2o => UnB (ρ 4) fun other_4 => UnPA (ρ 5) fun s_5b s_5o => K r_0 x2b x2o other_4 s_5b s_5o m
def l2B  (K2 : Option Addr → Nat → Nat → Bool → Nat → Nat → Mem → Prop) (r_0 : Option Addr) (x2b : Nat) (x2o : Nat) (other_4 : Bool) (s_5b : Nat) (s_5o : Nat) (R : Ending → Mem → Prop) (m : Mem) : Prop :=
  HC P class_reader_next.id #[.pointer r_0] m (Cont (fun v m1 =>
      UnI v .u8 fun x32 =>
      Br (x32 != 93) (
        Sub m1 fun r2 =>
        LdV r2 s_5b s_5o fun v =>
        UnI v .u64 fun x34_0 =>
        LdV r2 s_5b (s_5o + 1) fun v =>
        UnI v .u64 fun x34_1 =>
        LdV r2 s_5b (s_5o + 2) fun v =>
        UnI v .u64 fun x34_2 =>
        LdV r2 s_5b (s_5o + 3) fun v =>
        UnI v .u64 fun x34_3 =>
        HC P class_reader_part.id #[.pointer r_0] m1 (Cont (fun v m3 =>
            UnAgg v fun l =>
            UnCons l fun v l =>
            UnI v .u64 fun x36_0 =>
            UnCons l fun v l =>
            UnI v .u64 fun x36_1 =>
            UnCons l fun v l =>
            UnI v .u64 fun x36_2 =>
            UnCons l fun v l =>
            UnI v .u64 fun x36_3 =>
            UnNil l (
              Lk r2 m3 fun r4 =>
              HC P class_Or.id #[.agg #[.int .u64 x34_0, .int .u64 x34_1, .int .u64 x34_2, .int .u64 x34_3], .agg #[.int .u64 x36_0, .int .u64 x36_1, .int .u64 x36_2, .int .u64 x36_3]] m3 (Cont (fun v m5 =>
                  UnAgg v fun l =>
                  UnCons l fun v l =>
                  UnI v .u64 fun x37_0 =>
                  UnCons l fun v l =>
                  UnI v .u64 fun x37_1 =>
                  UnCons l fun v l =>
                  UnI v .u64 fun x37_2 =>
                  UnCons l fun v l =>
                  UnI v .u64 fun x37_3 =>
                  UnNil l (
                    St1 m5 s_5b s_5o (.int .u64 x37_0) fun m6 =>
                    St1 m6 s_5b (s_5o + 1) (.int .u64 x37_1) fun m7 =>
                    St1 m7 s_5b (s_5o + 2) (.int .u64 x37_2) fun m8 =>
                    St1 m8 s_5b (s_5o + 3) (.int .u64 x37_3) fun m9 =>
                    K2 r_0 x2b x2o other_4 s_5b s_5o m9)) (panicR R)))) (panicR R))) (
        k3  r_0 x2b x2o other_4 s_5b s_5o R m1)) (panicR R))
def l2  (r_0 : Option Addr) (x2b : Nat) (x2o : Nat) (other_4 : Bool) (s_5b : Nat) (s_5o : Nat) (R : Ending → Mem → Prop) (m : Mem) : Prop :=
  ∃ (I : Nat → Option Addr → Nat → Nat → Bool → Nat → Nat → Mem → Prop) (N : Nat), I N r_0 x2b x2o other_4 s_5b s_5o m ∧ ∀ N r_0 x2b x2o other_4 s_5b s_5o m, I N r_0 x2b x2o other_4 s_5b s_5o m → l2B  (fun r_0 x2b x2o other_4 s_5b s_5o m => ∃ N1, N1 < N ∧ I N1 r_0 x2b x2o other_4 s_5b s_5o m) r_0 x2b x2o other_4 s_5b s_5o R m
noncomputable def l2A  (K2 : Option Addr → Nat → Nat → Bool → Nat → Nat → Mem → Prop) (R : Ending → Mem → Prop) : ACode := (.code (lP (bB (sL (sR (sR (sR (sR (sR (sR (body)))))))))))
def k1E (K : Option Addr → Nat → Nat → Bool → Mem → Prop) : Env → Mem → Prop := fun ρ m => UnP (ρ 0) fun r_0 => UnPA (ρ 2) fun x2b x2o => UnB (ρ 4) fun other_4 => K r_0 x2b x2o other_4 m
def k1  (r_0 : Option Addr) (x2b : Nat) (x2o : Nat) (other_4 : Bool) (R : Ending → Mem → Prop) (m : Mem) : Prop :=
  HC P class_reader_part.id #[.pointer r_0] m (Cont (fun v m1 =>
      UnAgg v fun l =>
      UnCons l fun v l =>
      UnI v .u64 fun x30_0 =>
      UnCons l fun v l =>
      UnI v .u64 fun x30_1 =>
      UnCons l fun v l =>
      UnI v .u64 fun x30_2 =>
      UnCons l fun v l =>
      UnI v .u64 fun x30_3 =>
      UnNil l (
        NewC m1 #[.int .u64 0, .int .u64 0, .int .u64 0, .int .u64 0] T_api_Set fun b_s_5 m2 =>
        St1 m2 b_s_5 0 (.int .u64 x30_0) fun m3 =>
        St1 m3 b_s_5 1 (.int .u64 x30_1) fun m4 =>
        St1 m4 b_s_5 2 (.int .u64 x30_2) fun m5 =>
        St1 m5 b_s_5 3 (.int .u64 x30_3) fun m6 =>
        l2  r_0 x2b x2o other_4 b_s_5 0 R m6)) (panicR R))
noncomputable def k1A  (R : Ending → Mem → Prop) : ACode := (.seq (.code (sL (sR (sR (sR (sR (sR (body)))))))) (.seq (.block 1 (.cut (l2E fun r_0 x2b x2o other_4 s_5b s_5o m => l2  r_0 x2b x2o other_4 s_5b s_5o R m) (.loop (lP (bB (sL (sR (sR (sR (sR (sR (sR (body))))))))))))) (.cut (k3E fun r_0 x2b x2o other_4 s_5b s_5o m => k3  r_0 x2b x2o other_4 s_5b s_5o R m) (sR (sR (sR (sR (sR (sR (sR (body)))))))))))
def e0 (r_0 : Option Addr) (R : Ending → Mem → Prop) (m : Mem) : Prop :=
  NewC m #[.int .u64 0, .int .u64 0, .int .u64 0, .int .u64 0] T_api_Set fun b2 m1 =>
  HC P class_reader_next.id #[.pointer r_0] m1 (Cont (fun v m2 =>
      UnI v .u8 fun x7 =>
      Br (x7 == 46) (
        HC P class_reader_take.id #[.pointer r_0] m2 (Cont (fun v m3 =>
            UnI v .u8 fun x16 =>
            HC P class_Not.id #[.agg #[.int .u64 0, .int .u64 0, .int .u64 0, .int .u64 0]] m3 (Cont (fun v m4 =>
                UnAgg v fun l =>
                UnCons l fun v l =>
                UnI v .u64 fun x18_0 =>
                UnCons l fun v l =>
                UnI v .u64 fun x18_1 =>
                UnCons l fun v l =>
                UnI v .u64 fun x18_2 =>
                UnCons l fun v l =>
                UnI v .u64 fun x18_3 =>
                UnNil l (
                  St1 m4 b2 0 (.int .u64 x18_0) fun m5 =>
                  St1 m5 b2 1 (.int .u64 x18_1) fun m6 =>
                  St1 m6 b2 2 (.int .u64 x18_2) fun m7 =>
                  St1 m7 b2 3 (.int .u64 x18_3) fun m8 =>
                  LdV m8 b2 0 fun v =>
                  UnI v .u64 fun res0_0 =>
                  LdV m8 b2 1 fun v =>
                  UnI v .u64 fun res0_1 =>
                  LdV m8 b2 2 fun v =>
                  UnI v .u64 fun res0_2 =>
                  LdV m8 b2 3 fun v =>
                  UnI v .u64 fun res0_3 =>
                  R (.returned (.agg #[.int .u64 res0_0, .int .u64 res0_1, .int .u64 res0_2, .int .u64 res0_3])) m8)) (panicR R))) (panicR R))) (
        Br (x7 == 91) (
          HC P class_reader_take.id #[.pointer r_0] m2 (Cont (fun v m3 =>
              UnI v .u8 fun x22 =>
              HC P class_reader_next.id #[.pointer r_0] m3 (Cont (fun v m4 =>
                  UnI v .u8 fun x24 =>
                  Br (x24 == 94) (
                    HC P class_reader_take.id #[.pointer r_0] m4 (Cont (fun v m5 =>
                        UnI v .u8 fun x28 =>
                        k1  r_0 b2 0 (x24 == 94) R m5) (panicR R))) (
                    k1  r_0 b2 0 (x24 == 94) R m4)) (panicR R))) (panicR R))) (
          HC P class_reader_sign.id #[.pointer r_0] m2 (Cont (fun v m3 =>
              UnI v .u8 fun x9 =>
              HC P class_run.id #[.int .u8 x9, .int .u8 x9] m3 (Cont (fun v m4 =>
                  UnAgg v fun l =>
                  UnCons l fun v l =>
                  UnI v .u64 fun x12_0 =>
                  UnCons l fun v l =>
                  UnI v .u64 fun x12_1 =>
                  UnCons l fun v l =>
                  UnI v .u64 fun x12_2 =>
                  UnCons l fun v l =>
                  UnI v .u64 fun x12_3 =>
                  UnNil l (
                    St1 m4 b2 0 (.int .u64 x12_0) fun m5 =>
                    St1 m5 b2 1 (.int .u64 x12_1) fun m6 =>
                    St1 m6 b2 2 (.int .u64 x12_2) fun m7 =>
                    St1 m7 b2 3 (.int .u64 x12_3) fun m8 =>
                    LdV m8 b2 0 fun v =>
                    UnI v .u64 fun res0_0 =>
                    LdV m8 b2 1 fun v =>
                    UnI v .u64 fun res0_1 =>
                    LdV m8 b2 2 fun v =>
                    UnI v .u64 fun res0_2 =>
                    LdV m8 b2 3 fun v =>
                    UnI v .u64 fun res0_3 =>
                    R (.returned (.agg #[.int .u64 res0_0, .int .u64 res0_1, .int .u64 res0_2, .int .u64 res0_3])) m8)) (panicR R))) (panicR R))))) (panicR R))
noncomputable def e0A (R : Ending → Mem → Prop) : ACode := (.seq (.code (sL (body))) (.seq (.code (sL (sR (body)))) (.seq (.code (sL (sR (sR (body))))) (.seq (.code (sL (sR (sR (sR (body)))))) (.seq (.code (sL (sR (sR (sR (sR (body))))))) (.cut (k1E fun r_0 x2b x2o other_4 m => k1  r_0 x2b x2o other_4 R m) (sR (sR (sR (sR (sR (body))))))))))))
theorem k3_eq  (R : Ending → Mem → Prop) (r_0 : Option Addr) (x2b : Nat) (x2o : Nat) (other_4 : Bool) (s_5b : Nat) (s_5o : Nat) (ρ : Env) (m : Mem) : k3  r_0 x2b x2o other_4 s_5b s_5o R m = acpt P od (panicR R) (k3A  R) (bodyQ P fn R) (upd (upd (upd (upd ρ 5 (.pointer (some ⟨s_5b, s_5o, none⟩))) 4 (.bool other_4)) 2 (.pointer (some ⟨x2b, x2o, none⟩))) 0 (.pointer r_0)) m := by kernel_rfl
theorem k3_er  (R : Ending → Mem → Prop) : (k3A  R).erase = sR (sR (sR (sR (sR (sR (sR (body))))))) := by kernel_rfl
theorem k3_ok  (R : Ending → Mem → Prop) (ρ : Env) (m : Mem) (h : (k3E fun r_0 x2b x2o other_4 s_5b s_5o m => k3  r_0 x2b x2o other_4 s_5b s_5o R m) ρ m) : cpt P od (panicR R) (sR (sR (sR (sR (sR (sR (sR (body)))))))) (bodyQ P fn R) ρ m := by
  unfold k3E at h
  obtain ⟨r_0, e0, h⟩ := h.ex
  obtain ⟨x2b, x2o, e2, h⟩ := h.ex
  obtain ⟨other_4, e4, h⟩ := h.ex
  obtain ⟨s_5b, s_5o, e5, h⟩ := h.ex
  rw [← upd_self e0, ← upd_self e2, ← upd_self e4, ← upd_self e5]
  rw [← k3_er  R]
  refine acpt_sound (P := P) (k3A  R) _ _ _ True.intro ?_
  exact Eq.mp (k3_eq  R r_0 x2b x2o other_4 s_5b s_5o ρ m) h
theorem l2_eq  (K2 : Option Addr → Nat → Nat → Bool → Nat → Nat → Mem → Prop) (R : Ending → Mem → Prop) (r_0 : Option Addr) (x2b : Nat) (x2o : Nat) (other_4 : Bool) (s_5b : Nat) (s_5o : Nat) (ρ : Env) (m : Mem) : l2B  K2 r_0 x2b x2o other_4 s_5b s_5o R m = acpt P od (panicR R) (l2A  K2 R) (thenQ (l2E K2) (blockQ 1 (thenQ (acpt P od (panicR R) (.cut (k3E fun r_0 x2b x2o other_4 s_5b s_5o m => k3  r_0 x2b x2o other_4 s_5b s_5o R m) (sR (sR (sR (sR (sR (sR (sR (body))))))))) (bodyQ P fn R)) (bodyQ P fn R)))) (upd (upd (upd (upd ρ 5 (.pointer (some ⟨s_5b, s_5o, none⟩))) 4 (.bool other_4)) 2 (.pointer (some ⟨x2b, x2o, none⟩))) 0 (.pointer r_0)) m := by kernel_rfl
theorem l2_er  (K2 : Option Addr → Nat → Nat → Bool → Nat → Nat → Mem → Prop) (R : Ending → Mem → Prop) : (l2A  K2 R).erase = lP (bB (sL (sR (sR (sR (sR (sR (sR (body))))))))) := by kernel_rfl
theorem l2_ok  (R : Ending → Mem → Prop) (ρ : Env) (m : Mem) (h : (l2E fun r_0 x2b x2o other_4 s_5b s_5o m => l2  r_0 x2b x2o other_4 s_5b s_5o R m) ρ m) : cpt P od (panicR R) (.loop (lP (bB (sL (sR (sR (sR (sR (sR (sR (body))))))))))) (blockQ 1 (thenQ (acpt P od (panicR R) (.cut (k3E fun r_0 x2b x2o other_4 s_5b s_5o m => k3  r_0 x2b x2o other_4 s_5b s_5o R m) (sR (sR (sR (sR (sR (sR (sR (body))))))))) (bodyQ P fn R)) (bodyQ P fn R))) ρ m := by
  unfold l2E at h
  obtain ⟨r_0, e0, h⟩ := h.ex
  obtain ⟨x2b, x2o, e2, h⟩ := h.ex
  obtain ⟨other_4, e4, h⟩ := h.ex
  obtain ⟨s_5b, s_5o, e5, h⟩ := h.ex
  obtain ⟨I, N, h0, hs⟩ := h
  refine ⟨fun N => l2E (I N), N, (by show l2E (I N) ρ m; unfold l2E; rw [e0, e2, e4, e5]; exact h0), ?_⟩
  clear h0 e0 e2 e4 e5
  intro N ρ m h
  unfold l2E at h
  obtain ⟨r_0, e0, h⟩ := h.ex
  obtain ⟨x2b, x2o, e2, h⟩ := h.ex
  obtain ⟨other_4, e4, h⟩ := h.ex
  obtain ⟨s_5b, s_5o, e5, h⟩ := h.ex
  refine cpt_mono (P := P) (lP (bB (sL (sR (sR (sR (sR (sR (sR (body)))))))))) (Q := thenQ (l2E fun r_0 x2b x2o other_4 s_5b s_5o m => ∃ N1, N1 < N ∧ I N1 r_0 x2b x2o other_4 s_5b s_5o m) (blockQ 1 (thenQ (acpt P od (panicR R) (.cut (k3E fun r_0 x2b x2o other_4 s_5b s_5o m => k3  r_0 x2b x2o other_4 s_5b s_5o R m) (sR (sR (sR (sR (sR (sR (sR (body))))))))) (bodyQ P fn R)) (bodyQ P fn R)))) (fun e ρ m h => ?_) ρ m ?_
  · cases e with
    | normal =>
      have h : l2E (fun r_0 x2b x2o other_4 s_5b s_5o m => ∃ N1, N1 < N ∧ I N1 r_0 x2b x2o other_4 s_5b s_5o m) ρ m := h
      unfold l2E at h
      obtain ⟨r_0, e0, h⟩ := h.ex
      obtain ⟨x2b, x2o, e2, h⟩ := h.ex
      obtain ⟨other_4, e4, h⟩ := h.ex
      obtain ⟨s_5b, s_5o, e5, h⟩ := h.ex
      obtain ⟨N1, hlt, h⟩ := h
      exact ⟨N1, hlt, (by show l2E (I N1) ρ m; unfold l2E; rw [e0, e2, e4, e5]; exact h)⟩
    | _ => exact h
  have hh := hs N r_0 x2b x2o other_4 s_5b s_5o m h
  generalize (fun r_0 x2b x2o other_4 s_5b s_5o m => ∃ N1, N1 < N ∧ I N1 r_0 x2b x2o other_4 s_5b s_5o m : Option Addr → Nat → Nat → Bool → Nat → Nat → Mem → Prop) = K2 at hh ⊢
  rw [← upd_self e0, ← upd_self e2, ← upd_self e4, ← upd_self e5]
  rw [← l2_er  K2 R]
  refine acpt_sound (P := P) (l2A  K2 R) _ _ _ True.intro ?_
  exact Eq.mp (l2_eq  K2 R r_0 x2b x2o other_4 s_5b s_5o ρ m) hh
theorem k1_eq  (R : Ending → Mem → Prop) (r_0 : Option Addr) (x2b : Nat) (x2o : Nat) (other_4 : Bool) (ρ : Env) (m : Mem) : k1  r_0 x2b x2o other_4 R m = acpt P od (panicR R) (k1A  R) (bodyQ P fn R) (upd (upd (upd ρ 4 (.bool other_4)) 2 (.pointer (some ⟨x2b, x2o, none⟩))) 0 (.pointer r_0)) m := by kernel_rfl
theorem k1_er  (R : Ending → Mem → Prop) : (k1A  R).erase = sR (sR (sR (sR (sR (body))))) := by kernel_rfl
theorem k1_ok  (R : Ending → Mem → Prop) (ρ : Env) (m : Mem) (h : (k1E fun r_0 x2b x2o other_4 m => k1  r_0 x2b x2o other_4 R m) ρ m) : cpt P od (panicR R) (sR (sR (sR (sR (sR (body)))))) (bodyQ P fn R) ρ m := by
  unfold k1E at h
  obtain ⟨r_0, e0, h⟩ := h.ex
  obtain ⟨x2b, x2o, e2, h⟩ := h.ex
  obtain ⟨other_4, e4, h⟩ := h.ex
  rw [← upd_self e0, ← upd_self e2, ← upd_self e4]
  rw [← k1_er  R]
  refine acpt_sound (P := P) (k1A  R) _ _ _ ⟨⟨(fun ρ m h => k3_ok  R ρ m h), (fun ρ m h => l2_ok  R ρ m h)⟩, True.intro⟩ ?_
  exact Eq.mp (k1_eq  R r_0 x2b x2o other_4 ρ m) h
theorem e0_eq (r_0 : Option Addr) (R : Ending → Mem → Prop) (m : Mem) : e0 r_0 R m = acpt P od (panicR R) (e0A R) (bodyQ P fn R) (argE (#[.pointer r_0] : Array Value).toList) m := by kernel_rfl
theorem ok (r_0 : Option Addr) (R : Ending → Mem → Prop) (m : Mem) (h : e0 r_0 R m) : HC P id #[.pointer r_0] m R := by
  refine HC_of (fn := fn) (c := body) (od := od) (tb := tb) Go.Proofs.Tryd.func29 (by kernel_rfl) (by kernel_rfl) follows (by kernel_rfl) (of_decide_eq_true (by kernel_rfl)) ?_
  have he : (e0A R).erase = body := by kernel_rfl
  rw [← he]
  refine acpt_sound (P := P) (e0A R) _ _ _ ⟨⟨⟨⟨⟨(fun ρ m h => k1_ok  R ρ m h), True.intro⟩, True.intro⟩, True.intro⟩, True.intro⟩, True.intro⟩ ?_
  exact Eq.mp (e0_eq r_0 R m) h
end class_reader_class

/-! ### eyot/eyotref8.sign -/
namespace eyotref8_sign
noncomputable def fn : Func := Go.Proofs.Tryd.f30
noncomputable def body : Code := fn.body.getD .skip
def od : Nat → Ord := fun | 11 => ordL [(0, 3), (1, 3), (2, 3), (3, 3), (6, 3), (7, 3), (8, 3), (9, 3), (13, 3), (14, 3), (4, 2), (5, 3), (10, 2), (11, 3), (12, 3), (15, 3), (16, 3)] .done | _ => .done
def tb : Nat → Tab := fun | 11 => (1040, [0, 0, 2, 7, 15, 31, 0, 0, 128, 448, 991, 2047, 4095, 0, 8192, 8191, 65535], [(0, 1, 76), (0, 2, 77), (2, 75557863725914323419136, 78), (5, 188894659314785808547840, 79), (8, 302231454903657293676544, 80), (16, 604462909807314587353088, 81), (0, 1, 82), (0, 2, 83), (128, 4835703278458516698824704, 84), (320, 12089258196146291747061760, 85), (528, 19342813113834066795298816, 86), (1056, 39894552047282762765303808, 87), (2048, 77371252455336267181195264, 88), (0, 2, 89), (8192, 309485009821345068724781056, 90), (8191, 154742504910672534362390528, 5), (65535, 618970019642690137449562112, 6)]) | _ => (0, [], [])
def k3E (K : ByteArray → Int → Bool → Mem → Prop) : Env → Mem → Prop := fun ρ m => UnStr (ρ 0) fun x0 => UnI (ρ 1) .i64 fun x1 => UnB (ρ 74) fun x74 => K x0 x1 x74 m
def k3  (x0 : ByteArray) (x1 : Int) (x74 : Bool) (R : Ending → Mem → Prop) (m : Mem) : Prop :=
  Br x74 (
    Sub m fun r1 =>
    IxB x0 (IntKind.i64.wrap (x1 + 2)) fun x78 =>
    IxB x0 (IntKind.i64.wrap (x1 + 3)) fun x84 =>
    HC P eyotref8_digit.id #[.int .u8 x78] m (Cont (fun v m2 =>
        UnI v .i64 fun x79 =>
        HC P eyotref8_digit.id #[.int .u8 x84] m2 (Cont (fun v m3 =>
            UnI v .i64 fun x85 =>
            R (.returned (.tuple #[.int .u8 (IntKind.u8.wrap (IntKind.i64.wrap ((IntKind.i64.wrap (x79 * 16)) + x85))), .int .i64 (IntKind.i64.wrap (x1 + 4))])) m3) (panicR R))) (panicR R))) (
    R (.returned (.tuple #[.int .u8 0, .int .i64 (-1)])) m)
noncomputable def k3A  (R : Ending → Mem → Prop) : ACode := (.code (sR (sL (sR (sR (sR (sR (sR (body)))))))))
def k2E (K : ByteArray → Int → Mem → Prop) : Env → Mem → Prop := fun ρ m => UnStr (ρ 0) fun x0 => UnI (ρ 1) .i64 fun x1 => K x0 x1 m
def k2  (x0 : ByteArray) (x1 : Int) (R : Ending → Mem → Prop) (m : Mem) : Prop :=
  Br (decide ((IntKind.i64.wrap (x1 + 3)) < (x0.size : Int))) (
    IxB x0 (IntKind.i64.wrap (x1 + 1)) fun x56 =>
    Br (x56 == 120) (
      IxB x0 (IntKind.i64.wrap (x1 + 2)) fun x63 =>
      HC P eyotref8_digit.id #[.int .u8 x63] m (Cont (fun v m1 =>
          UnI v .i64 fun x64 =>
          Br (decide (x64 ≥ 0)) (
            IxB x0 (IntKind.i64.wrap (x1 + 3)) fun x71 =>
            HC P eyotref8_digit.id #[.int .u8 x71] m1 (Cont (fun v m2 =>
                UnI v .i64 fun x72 =>
                k3  x0 x1 (decide (x72 ≥ 0)) R m2) (panicR R))) (
            k3  x0 x1 false R m1)) (panicR R))) (
      k3  x0 x1 false R m)) (
    k3  x0 x1 false R m)
noncomputable def k2A  (R : Ending → Mem → Prop) : ACode := (.seq (.seq (.code (sL (sL (sR (sR (sR (sR (sR (body))))))))) (.cut (k3E fun x0 x1 x74 m => k3  x0 x1 x74 R m) (sR (sL (sR (sR (sR (sR (sR (body)))))))))) (.code (sR (sR (sR (sR (sR (sR (body)))))))))
def k1E (K : ByteArray → Int → Bool → Mem → Prop) : Env → Mem → Prop := fun ρ m => UnStr (ρ 0) fun x0 => UnI (ρ 1) .i64 fun x1 => UnB (ρ 40) fun x40 => K x0 x1 x40 m
def k1  (x0 : ByteArray) (x1 : Int) (x40 : Bool) (R : Ending → Mem → Prop) (m : Mem) : Prop :=
  Br x40 (
    IxB x0 (IntKind.i64.wrap (x1 + 1)) fun x44 =>
    R (.returned (.tuple #[.int .u8 x44, .int .i64 (IntKind.i64.wrap (x1 + 2))])) m) (
    k2  x0 x1 R m)
noncomputable def k1A  (R : Ending → Mem → Prop) : ACode := (.code (sR (sL (sR (sR (sR (sR (body))))))))
def e0 (a0 : ByteArray) (a1 : Int) (R : Ending → Mem → Prop) (m : Mem) : Prop :=
  Br (decide (a1 ≥ (a0.size : Int))) (
    R (.returned (.tuple #[.int .u8 0, .int .i64 (-1)])) m) (
    IxB a0 a1 fun x13 =>
    Br (x13 != 92) (
      Br (decide (x13 < 33)) (
        R (.returned (.tuple #[.int .u8 0, .int .i64 (-1)])) m) (
        Br (decide (x13 > 126)) (
          R (.returned (.tuple #[.int .u8 0, .int .i64 (-1)])) m) (
          HC P eyotref8_in.id #[.string (ByteArray.mk #[92, 124, 42, 43, 63, 40, 41, 91, 93, 46, 94, 45]), .int .u8 x13] m (Cont (fun v m1 =>
              UnB v fun x24 =>
              Br x24 (
                R (.returned (.tuple #[.int .u8 0, .int .i64 (-1)])) m1) (
                R (.returned (.tuple #[.int .u8 x13, .int .i64 (IntKind.i64.wrap (a1 + 1))])) m1)) (panicR R))))) (
      Br (decide ((IntKind.i64.wrap (a1 + 1)) < (a0.size : Int))) (
        IxB a0 (IntKind.i64.wrap (a1 + 1)) fun x38 =>
        HC P eyotref8_in.id #[.string (ByteArray.mk #[92, 124, 42, 43, 63, 40, 41, 91, 93, 46, 94, 45]), .int .u8 x38] m (Cont (fun v m1 =>
            UnB v fun x39 =>
            k1  a0 a1 x39 R m1) (panicR R))) (
        k1  a0 a1 false R m)))
noncomputable def e0A (R : Ending → Mem → Prop) : ACode := (.seq (.code (sL (body))) (.seq (.code (sL (sR (body)))) (.seq (.code (sL (sR (sR (body))))) (.seq (.code (sL (sR (sR (sR (body)))))) (.seq (.seq (.code (sL (sL (sR (sR (sR (sR (body)))))))) (.cut (k1E fun x0 x1 x40 m => k1  x0 x1 x40 R m) (sR (sL (sR (sR (sR (sR (body))))))))) (.cut (k2E fun x0 x1 m => k2  x0 x1 R m) (sR (sR (sR (sR (sR (body))))))))))))
theorem k3_eq  (R : Ending → Mem → Prop) (x0 : ByteArray) (x1 : Int) (x74 : Bool) (ρ : Env) (m : Mem) : k3  x0 x1 x74 R m = acpt P od (panicR R) (k3A  R) (thenQ (acpt P od (panicR R) (.code (sR (sR (sR (sR (sR (sR (body)))))))) (bodyQ P fn R)) (bodyQ P fn R)) (upd (upd (upd ρ 74 (.bool x74)) 1 (.int .i64 x1)) 0 (.string x0)) m := by kernel_rfl
theorem k3_er  (R : Ending → Mem → Prop) : (k3A  R).erase = sR (sL (sR (sR (sR (sR (sR (body))))))) := by kernel_rfl
theorem k3_ok  (R : Ending → Mem → Prop) (ρ : Env) (m : Mem) (h : (k3E fun x0 x1 x74 m => k3  x0 x1 x74 R m) ρ m) : cpt P od (panicR R) (sR (sL (sR (sR (sR (sR (sR (body)))))))) (thenQ (acpt P od (panicR R) (.code (sR (sR (sR (sR (sR (sR (body)))))))) (bodyQ P fn R)) (bodyQ P fn R)) ρ m := by
  unfold k3E at h
  obtain ⟨x0, e0, h⟩ := h.ex
  obtain ⟨x1, e1, h⟩ := h.ex
  obtain ⟨x74, e74, h⟩ := h.ex
  rw [← upd_self e0, ← upd_self e1, ← upd_self e74]
  rw [← k3_er  R]
  refine acpt_sound (P := P) (k3A  R) _ _ _ True.intro ?_
  exact Eq.mp (k3_eq  R x0 x1 x74 ρ m) h
theorem k2_eq  (R : Ending → Mem → Prop) (x0 : ByteArray) (x1 : Int) (ρ : Env) (m : Mem) : k2  x0 x1 R m = acpt P od (panicR R) (k2A  R) (bodyQ P fn R) (upd (upd ρ 1 (.int .i64 x1)) 0 (.string x0)) m := by kernel_rfl
theorem k2_er  (R : Ending → Mem → Prop) : (k2A  R).erase = sR (sR (sR (sR (sR (body))))) := by kernel_rfl
theorem k2_ok  (R : Ending → Mem → Prop) (ρ : Env) (m : Mem) (h : (k2E fun x0 x1 m => k2  x0 x1 R m) ρ m) : cpt P od (panicR R) (sR (sR (sR (sR (sR (body)))))) (bodyQ P fn R) ρ m := by
  unfold k2E at h
  obtain ⟨x0, e0, h⟩ := h.ex
  obtain ⟨x1, e1, h⟩ := h.ex
  rw [← upd_self e0, ← upd_self e1]
  rw [← k2_er  R]
  refine acpt_sound (P := P) (k2A  R) _ _ _ ⟨True.intro, ⟨(fun ρ m h => k3_ok  R ρ m h), True.intro⟩⟩ ?_
  exact Eq.mp (k2_eq  R x0 x1 ρ m) h
theorem k1_eq  (R : Ending → Mem → Prop) (x0 : ByteArray) (x1 : Int) (x40 : Bool) (ρ : Env) (m : Mem) : k1  x0 x1 x40 R m = acpt P od (panicR R) (k1A  R) (thenQ (acpt P od (panicR R) (.cut (k2E fun x0 x1 m => k2  x0 x1 R m) (sR (sR (sR (sR (sR (body))))))) (bodyQ P fn R)) (bodyQ P fn R)) (upd (upd (upd ρ 40 (.bool x40)) 1 (.int .i64 x1)) 0 (.string x0)) m := by kernel_rfl
theorem k1_er  (R : Ending → Mem → Prop) : (k1A  R).erase = sR (sL (sR (sR (sR (sR (body)))))) := by kernel_rfl
theorem k1_ok  (R : Ending → Mem → Prop) (ρ : Env) (m : Mem) (h : (k1E fun x0 x1 x40 m => k1  x0 x1 x40 R m) ρ m) : cpt P od (panicR R) (sR (sL (sR (sR (sR (sR (body))))))) (thenQ (acpt P od (panicR R) (.cut (k2E fun x0 x1 m => k2  x0 x1 R m) (sR (sR (sR (sR (sR (body))))))) (bodyQ P fn R)) (bodyQ P fn R)) ρ m := by
  unfold k1E at h
  obtain ⟨x0, e0, h⟩ := h.ex
  obtain ⟨x1, e1, h⟩ := h.ex
  obtain ⟨x40, e40, h⟩ := h.ex
  rw [← upd_self e0, ← upd_self e1, ← upd_self e40]
  rw [← k1_er  R]
  refine acpt_sound (P := P) (k1A  R) _ _ _ True.intro ?_
  exact Eq.mp (k1_eq  R x0 x1 x40 ρ m) h
theorem e0_eq (a0 : ByteArray) (a1 : Int) (R : Ending → Mem → Prop) (m : Mem) : e0 a0 a1 R m = acpt P od (panicR R) (e0A R) (bodyQ P fn R) (argE (#[.string a0, .int .i64 a1] : Array Value).toList) m := by kernel_rfl
theorem ok (a0 : ByteArray) (a1 : Int) (R : Ending → Mem → Prop) (m : Mem) (h : e0 a0 a1 R m) : HC P id #[.string a0, .int .i64 a1] m R := by
  refine HC_of (fn := fn) (c := body) (od := od) (tb := tb) Go.Proofs.Tryd.func30 (by kernel_rfl) (by kernel_rfl) follows (by kernel_rfl) (of_decide_eq_true (by kernel_rfl)) ?_
  have he : (e0A R).erase = body := by kernel_rfl
  rw [← he]
  refine acpt_sound (P := P) (e0A R) _ _ _ ⟨⟨⟨⟨⟨(fun ρ m h => k2_ok  R ρ m h), ⟨(fun ρ m h => k1_ok  R ρ m h), True.intro⟩⟩, True.intro⟩, True.intro⟩, True.intro⟩, True.intro⟩ ?_
  exact Eq.mp (e0_eq a0 a1 R m) h
end eyotref8_sign

/-! ### eyot/class.runs -/
namespace class_runs
noncomputable def fn : Func := Go.Proofs.Tryd.f31
noncomputable def body : Code := fn.body.getD .skip
def od : Nat → Ord := fun _ => .done
def tb : Nat → Tab := fun _ => (0, [], [])
def k2E (K : Nat → Nat → Option Addr → Nat → Nat → Int → Int → Int → Bool → Mem → Prop) : Env → Mem → Prop := fun ρ m => UnPA (ρ 1) fun s_1b s_1o => UnS (ρ 3) fun out_3a out_3l out_3c => UnI (ρ 4) .i64 fun c_4 => UnI (ρ 5) .i64 fun k_5 => UnI (ρ 6) .i64 fun x6 => UnB (ρ 26) fun x26 => K s_1b s_1o out_3a out_3l out_3c c_4 k_5 x6 x26 m
def k2 (K1 : Nat → Nat → Option Addr → Nat → Nat → Int → Mem → Prop) (s_1b : Nat) (s_1o : Nat) (out_3a : Option Addr) (out_3l : Nat) (out_3c : Nat) (c_4 : Int) (k_5 : Int) (x6 : Int) (x26 : Bool) (R : Ending → Mem → Prop) (m : Mem) : Prop :=
  Br x26 (
    IxS out_3a out_3l k_5 2 fun x44b x44o =>
    0 ≤ (1 : Int) ∧ (1 : Int) < (2 : Nat) ∧ (
      St1 m x44b (x44o + (1 : Int).toNat * 1) (.int .u8 (IntKind.u8.wrap c_4)) fun m1 =>
      K1 s_1b s_1o out_3a out_3l out_3c (IntKind.i64.wrap (x6 + 1)) m1)) (
    NewC m #[.int .u8 (IntKind.u8.wrap c_4), .int .u8 (IntKind.u8.wrap c_4)] T_arr2_uint8 fun b18 m1 =>
    BiN P .append #[T_sl_arr2_uint8, T_sl_arr2_uint8] T_sl_arr2_uint8 #[false, false] #[.slice out_3a out_3l out_3c, .slice (some ⟨b18, 0, none⟩) 1 1] m1 (fun w m2 =>
      UnS w fun x19a x19l x19c =>
      K1 s_1b s_1o x19a x19l x19c (IntKind.i64.wrap (x6 + 1)) m2) (panicR R))
noncomputable def k2A (K1 : Nat → Nat → Option Addr → Nat → Nat → Int → Mem → Prop) (R : Ending → Mem → Prop) : ACode := (.code (sR (cE (sR (bB (sR (sR (bB (sL (sR (sR (lP (bB (sR (sL (sR (sR (body))))))))))))))))))
def l1E (K : Nat → Nat → Option Addr → Nat → Nat → Int → Mem → Prop) : Env → Mem → Prop := fun ρ m => UnPA (ρ 1) fun s_1b s_1o => UnS (ρ 3) fun out_3a out_3l out_3c => UnI (ρ 6) .i64 fun x6 => K s_1b s_1o out_3a out_3l out_3c x6 m
def l1B  (K1 : Nat → Nat → Option Addr → Nat → Nat → Int → Mem → Prop) (s_1b : Nat) (s_1o : Nat) (out_3a : Option Addr) (out_3l : Nat) (out_3c : Nat) (x6 : Int) (R : Ending → Mem → Prop) (m : Mem) : Prop :=
  Br (decide (x6 < 256)) (
    LdV m s_1b s_1o fun v =>
    UnI v .u64 fun x21_0 =>
    LdV m s_1b (s_1o + 1) fun v =>
    UnI v .u64 fun x21_1 =>
    LdV m s_1b (s_1o + 2) fun v =>
    UnI v .u64 fun x21_2 =>
    LdV m s_1b (s_1o + 3) fun v =>
    UnI v .u64 fun x21_3 =>
    HC P class_Has.id #[.agg #[.int .u64 x21_0, .int .u64 x21_1, .int .u64 x21_2, .int .u64 x21_3], .int .u8 (IntKind.u8.wrap x6)] m (Cont (fun v m1 =>
        UnB v fun x24 =>
        Br (!x24) (
          K1 s_1b s_1o out_3a out_3l out_3c (IntKind.i64.wrap (x6 + 1)) m1) (
          Br (decide ((IntKind.i64.wrap (((out_3l : Nat) : Int) - 1)) ≥ 0)) (
            IxS out_3a out_3l (IntKind.i64.wrap (((out_3l : Nat) : Int) - 1)) 2 fun x32b x32o =>
            0 ≤ (1 : Int) ∧ (1 : Int) < (2 : Nat) ∧ (
              LdV m1 x32b (x32o + (1 : Int).toNat * 1) fun v =>
              UnI v .u8 fun x34 =>
              k2 K1 s_1b s_1o out_3a out_3l out_3c x6 (IntKind.i64.wrap (((out_3l : Nat) : Int) - 1)) x6 ((IntKind.i64.wrap x34) == (IntKind.i64.wrap (x6 - 1))) R m1)) (
            k2 K1 s_1b s_1o out_3a out_3l out_3c x6 (IntKind.i64.wrap (((out_3l : Nat) : Int) - 1)) x6 false R m1))) (panicR R))) (
    R (.returned (.slice out_3a out_3l out_3c)) m)
def l1  (s_1b : Nat) (s_1o : Nat) (out_3a : Option Addr) (out_3l : Nat) (out_3c : Nat) (x6 : Int) (R : Ending → Mem → Prop) (m : Mem) : Prop :=
  ∃ (I : Nat → Nat → Nat → Option Addr → Nat → Nat → Int → Mem → Prop) (N : Nat), I N s_1b s_1o out_3a out_3l out_3c x6 m ∧ ∀ N s_1b s_1o out_3a out_3l out_3c x6 m, I N s_1b s_1o out_3a out_3l out_3c x6 m → l1B  (fun s_1b s_1o out_3a out_3l out_3c x6 m => ∃ N1, N1 < N ∧ I N1 s_1b s_1o out_3a out_3l out_3c x6 m) s_1b s_1o out_3a out_3l out_3c x6 R m
noncomputable def l1A  (K1 : Nat → Nat → Option Addr → Nat → Nat → Int → Mem → Prop) (R : Ending → Mem → Prop) : ACode := (.seq (.code (sL (lP (bB (sR (sL (sR (sR (body))))))))) (.seq (.code (sL (sR (lP (bB (sR (sL (sR (sR (body)))))))))) (.seq (.block 1 (.seq (.code (sL (bB (sL (sR (sR (lP (bB (sR (sL (sR (sR (body))))))))))))) (.seq (.code (sL (sR (bB (sL (sR (sR (lP (bB (sR (sL (sR (sR (body)))))))))))))) (.block 2 (.seq (.code (sL (bB (sR (sR (bB (sL (sR (sR (lP (bB (sR (sL (sR (sR (body)))))))))))))))) (.cond (.tmp 20) (.code (cT (sR (bB (sR (sR (bB (sL (sR (sR (lP (bB (sR (sL (sR (sR (body))))))))))))))))) (.seq (.code (sL (cE (sR (bB (sR (sR (bB (sL (sR (sR (lP (bB (sR (sL (sR (sR (body)))))))))))))))))) (.cut (k2E fun s_1b s_1o out_3a out_3l out_3c c_4 k_5 x6 x26 m => k2 K1 s_1b s_1o out_3a out_3l out_3c c_4 k_5 x6 x26 R m) (sR (cE (sR (bB (sR (sR (bB (sL (sR (sR (lP (bB (sR (sL (sR (sR (body))))))))))))))))))))))))) (.code (sR (sR (sR (lP (bB (sR (sL (sR (sR (body))))))))))))))
def e0 (s_0_0 : Int) (s_0_1 : Int) (s_0_2 : Int) (s_0_3 : Int) (R : Ending → Mem → Prop) (m : Mem) : Prop :=
  NewC m #[.int .u64 s_0_0, .int .u64 s_0_1, .int .u64 s_0_2, .int .u64 s_0_3] T_api_Set fun b_s_1 m1 =>
  l1  b_s_1 0 none 0 0 0 R m1
noncomputable def e0A (R : Ending → Mem → Prop) : ACode := (.seq (.code (sL (body))) (.seq (.code (sL (sR (body)))) (.seq (.seq (.code (sL (sL (sR (sR (body)))))) (.block 0 (.cut (l1E fun s_1b s_1o out_3a out_3l out_3c x6 m => l1  s_1b s_1o out_3a out_3l out_3c x6 R m) (.loop (lP (bB (sR (sL (sR (sR (body))))))))))) (.code (sR (sR (sR (body))))))))
theorem k2_eq (K1 : Nat → Nat → Option Addr → Nat → Nat → Int → Mem → Prop) (R : Ending → Mem → Prop) (s_1b : Nat) (s_1o : Nat) (out_3a : Option Addr) (out_3l : Nat) (out_3c : Nat) (c_4 : Int) (k_5 : Int) (x6 : Int) (x26 : Bool) (ρ : Env) (m : Mem) : k2 K1 s_1b s_1o out_3a out_3l out_3c c_4 k_5 x6 x26 R m = acpt P od (panicR R) (k2A K1 R) (blockQ 2 (blockQ 1 (thenQ (acpt P od (panicR R) (.code (sR (sR (sR (lP (bB (sR (sL (sR (sR (body))))))))))) (thenQ (l1E K1) (blockQ 0 (thenQ (acpt P od (panicR R) (.code (sR (sR (sR (body))))) (bodyQ P fn R)) (bodyQ P fn R))))) (thenQ (l1E K1) (blockQ 0 (thenQ (acpt P od (panicR R) (.code (sR (sR (sR (body))))) (bodyQ P fn R)) (bodyQ P fn R))))))) (upd (upd (upd (upd (upd (upd ρ 26 (.bool x26)) 6 (.int .i64 x6)) 5 (.int .i64 k_5)) 4 (.int .i64 c_4)) 3 (.slice out_3a out_3l out_3c)) 1 (.pointer (some ⟨s_1b, s_1o, none⟩))) m := by kernel_rfl
theorem k2_er (K1 : Nat → Nat → Option Addr → Nat → Nat → Int → Mem → Prop) (R : Ending → Mem → Prop) : (k2A K1 R).erase = sR (cE (sR (bB (sR (sR (bB (sL (sR (sR (lP (bB (sR (sL (sR (sR (body)))))))))))))))) := by kernel_rfl
theorem k2_ok (K1 : Nat → Nat → Option Addr → Nat → Nat → Int → Mem → Prop) (R : Ending → Mem → Prop) (ρ : Env) (m : Mem) (h : (k2E fun s_1b s_1o out_3a out_3l out_3c c_4 k_5 x6 x26 m => k2 K1 s_1b s_1o out_3a out_3l out_3c c_4 k_5 x6 x26 R m) ρ m) : cpt P od (panicR R) (sR (cE (sR (bB (sR (sR (bB (sL (sR (sR (lP (bB (sR (sL (sR (sR (body))))))))))))))))) (blockQ 2 (blockQ 1 (thenQ (acpt P od (panicR R) (.code (sR (sR (sR (lP (bB (sR (sL (sR (sR (body))))))))))) (thenQ (l1E K1) (blockQ 0 (thenQ (acpt P od (panicR R) (.code (sR (sR (sR (body))))) (bodyQ P fn R)) (bodyQ P fn R))))) (thenQ (l1E K1) (blockQ 0 (thenQ (acpt P od (panicR R) (.code (sR (sR (sR (body))))) (bodyQ P fn R)) (bodyQ P fn R))))))) ρ m := by
  unfold k2E at h
  obtain ⟨s_1b, s_1o, e1, h⟩ := h.ex
  obtain ⟨out_3a, out_3l, out_3c, e3, h⟩ := h.ex
  obtain ⟨c_4, e4, h⟩ := h.ex
  obtain ⟨k_5, e5, h⟩ := h.ex
  obtain ⟨x6, e6, h⟩ := h.ex
  obtain ⟨x26, e26, h⟩ := h.ex
  rw [← upd_self e1, ← upd_self e3, ← upd_self e4, ← upd_self e5, ← upd_self e6, ← upd_self e26]
  rw [← k2_er K1 R]
  refine acpt_sound (P := P) (k2A K1 R) _ _ _ True.intro ?_
  exact Eq.mp (k2_eq K1 R s_1b s_1o out_3a out_3l out_3c c_4 k_5 x6 x26 ρ m) h
theorem l1_eq  (K1 : Nat → Nat → Option Addr → Nat → Nat → Int → Mem → Prop) (R : Ending → Mem → Prop) (s_1b : Nat) (s_1o : Nat) (out_3a : Option Addr) (out_3l : Nat) (out_3c : Nat) (x6 : Int) (ρ : Env) (m : Mem) : l1B  K1 s_1b s_1o out_3a out_3l out_3c x6 R m = acpt P od (panicR R) (l1A  K1 R) (thenQ (l1E K1) (blockQ 0 (thenQ (acpt P od (panicR R) (.code (sR (sR (sR (body))))) (bodyQ P fn R)) (bodyQ P fn R)))) (upd (upd (upd ρ 6 (.int .i64 x6)) 3 (.slice out_3a out_3l out_3c)) 1 (.pointer (some ⟨s_1b, s_1o, none⟩))) m := by kernel_rfl
theorem l1_er  (K1 : Nat → Nat → Option Addr → Nat → Nat → Int → Mem → Prop) (R : Ending → Mem → Prop) : (l1A  K1 R).erase = lP (bB (sR (sL (sR (sR (body)))))) := by kernel_rfl
theorem l1_ok  (R : Ending → Mem → Prop) (ρ : Env) (m : Mem) (h : (l1E fun s_1b s_1o out_3a out_3l out_3c x6 m => l1  s_1b s_1o out_3a out_3l out_3c x6 R m) ρ m) : cpt P od (panicR R) (.loop (lP (bB (sR (sL (sR (sR (body)))))))) (blockQ 0 (thenQ (acpt P od (panicR R) (.code (sR (sR (sR (body))))) (bodyQ P fn R)) (bodyQ P fn R))) ρ m := by
  unfold l1E at h
  obtain ⟨s_1b, s_1o, e1, h⟩ := h.ex
  obtain ⟨out_3a, out_3l, out_3c, e3, h⟩ := h.ex
  obtain ⟨x6, e6, h⟩ := h.ex
  obtain ⟨I, N, h0, hs⟩ := h
  refine ⟨fun N => l1E (I N), N, (by show l1E (I N) ρ m; unfold l1E; rw [e1, e3, e6]; exact h0), ?_⟩
  clear h0 e1 e3 e6
  intro N ρ m h
  unfold l1E at h
  obtain ⟨s_1b, s_1o, e1, h⟩ := h.ex
  obtain ⟨out_3a, out_3l, out_3c, e3, h⟩ := h.ex
  obtain ⟨x6, e6, h⟩ := h.ex
  refine cpt_mono (P := P) (lP (bB (sR (sL (sR (sR (body))))))) (Q := thenQ (l1E fun s_1b s_1o out_3a out_3l out_3c x6 m => ∃ N1, N1 < N ∧ I N1 s_1b s_1o out_3a out_3l out_3c x6 m) (blockQ 0 (thenQ (acpt P od (panicR R) (.code (sR (sR (sR (body))))) (bodyQ P fn R)) (bodyQ P fn R)))) (fun e ρ m h => ?_) ρ m ?_
  · cases e with
    | normal =>
      have h : l1E (fun s_1b s_1o out_3a out_3l out_3c x6 m => ∃ N1, N1 < N ∧ I N1 s_1b s_1o out_3a out_3l out_3c x6 m) ρ m := h
      unfold l1E at h
      obtain ⟨s_1b, s_1o, e1, h⟩ := h.ex
      obtain ⟨out_3a, out_3l, out_3c, e3, h⟩ := h.ex
      obtain ⟨x6, e6, h⟩ := h.ex
      obtain ⟨N1, hlt, h⟩ := h
      exact ⟨N1, hlt, (by show l1E (I N1) ρ m; unfold l1E; rw [e1, e3, e6]; exact h)⟩
    | _ => exact h
  have hh := hs N s_1b s_1o out_3a out_3l out_3c x6 m h
  generalize (fun s_1b s_1o out_3a out_3l out_3c x6 m => ∃ N1, N1 < N ∧ I N1 s_1b s_1o out_3a out_3l out_3c x6 m : Nat → Nat → Option Addr → Nat → Nat → Int → Mem → Prop) = K1 at hh ⊢
  rw [← upd_self e1, ← upd_self e3, ← upd_self e6]
  rw [← l1_er  K1 R]
  refine acpt_sound (P := P) (l1A  K1 R) _ _ _ ⟨⟨⟨True.intro, ⟨⟨⟨⟨True.intro, ⟨(fun ρ m h => k2_ok K1 R ρ m h), True.intro⟩⟩, True.intro⟩, True.intro⟩, True.intro⟩⟩, True.intro⟩, True.intro⟩ ?_
  exact Eq.mp (l1_eq  K1 R s_1b s_1o out_3a out_3l out_3c x6 ρ m) hh
theorem e0_eq (s_0_0 : Int) (s_0_1 : Int) (s_0_2 : Int) (s_0_3 : Int) (R : Ending → Mem → Prop) (m : Mem) : e0 s_0_0 s_0_1 s_0_2 s_0_3 R m = acpt P od (panicR R) (e0A R) (bodyQ P fn R) (argE (#[.agg #[.int .u64 s_0_0, .int .u64 s_0_1, .int .u64 s_0_2, .int .u64 s_0_3]] : Array Value).toList) m := by kernel_rfl
theorem ok (s_0_0 : Int) (s_0_1 : Int) (s_0_2 : Int) (s_0_3 : Int) (R : Ending → Mem → Prop) (m : Mem) (h : e0 s_0_0 s_0_1 s_0_2 s_0_3 R m) : HC P id #[.agg #[.int .u64 s_0_0, .int .u64 s_0_1, .int .u64 s_0_2, .int .u64 s_0_3]] m R := by
  refine HC_of (fn := fn) (c := body) (od := od) (tb := tb) Go.Proofs.Tryd.func31 (by kernel_rfl) (by kernel_rfl) follows (by kernel_rfl) (of_decide_eq_true (by kernel_rfl)) ?_
  have he : (e0A R).erase = body := by kernel_rfl
  rw [← he]
  refine acpt_sound (P := P) (e0A R) _ _ _ ⟨⟨⟨True.intro, ⟨(fun ρ m h => l1_ok  R ρ m h), True.intro⟩⟩, True.intro⟩, True.intro⟩ ?_
  exact Eq.mp (e0_eq s_0_0 s_0_1 s_0_2 s_0_3 R m) h
end class_runs

/-! ### eyot/class.sign -/
namespace class_sign
noncomputable def fn : Func := Go.Proofs.Tryd.f32
noncomputable def body : Code := fn.body.getD .skip
def od : Nat → Ord := fun | 3 => ordL [(0, 3), (1, 3), (2, 3), (3, 3), (4, 3), (5, 3), (6, 3), (7, 3), (8, 3), (9, 3), (10, 3), (11, 3), (12, 3), (13, 3), (14, 3)] .done | _ => .done
def tb : Nat → Tab := fun | 3 => (0, [0, 1, 0, 4, 12, 31, 63, 0, 128, 0, 512, 1536, 3968, 8191, 16383], [(0, 1, 9), (1, 256, 10), (0, 1, 11), (4, 1024, 12), (8, 2048, 13), (18, 4608, 14), (32, 8192, 15), (0, 1, 16), (128, 32768, 17), (0, 1, 18), (512, 131072, 19), (1024, 262144, 20), (2304, 589824, 21), (4160, 1064960, 22), (16383, 2097152, 3)]) | _ => (0, [], [])
def k1E (K : Int → Bool → Mem → Prop) : Env → Mem → Prop := fun ρ m => UnI (ρ 0) .u8 fun c_0 => UnB (ρ 3) fun x3 => K c_0 x3 m
def k1  (c_0 : Int) (x3 : Bool) (R : Ending → Mem → Prop) (m : Mem) : Prop :=
  Br x3 (
    Sub m fun r1 =>
    SlB (ByteArray.mk #[48, 49, 50, 51, 52, 53, 54, 55, 56, 57, 97, 98, 99, 100, 101, 102]) (shrV .u8 c_0 4) (IntKind.u8.wrap ((shrV .u8 c_0 4) + 1)) fun x13 =>
    CatB (ByteArray.mk #[92, 120]) x13 (
      SlB (ByteArray.mk #[48, 49, 50, 51, 52, 53, 54, 55, 56, 57, 97, 98, 99, 100, 101, 102]) (bitsV .and .u8 c_0 15) (IntKind.u8.wrap ((bitsV .and .u8 c_0 15) + 1)) fun x20 =>
      CatB ((ByteArray.mk #[92, 120]) ++ x13) x20 (
        R (.returned (.string (((ByteArray.mk #[92, 120]) ++ x13) ++ x20))) m))) (
    HC P strings_IndexByte.id #[.string (ByteArray.mk #[92, 124, 42, 43, 63, 40, 41, 91, 93, 46, 94, 45]), .int .u8 c_0] m (Cont (fun v m1 =>
        UnI v .i64 fun x24 =>
        Br (decide (x24 ≥ 0)) (
          NewC m1 #[.int .u8 c_0] T_uint8 fun b27 m2 =>
          B2S m2 (some ⟨b27, 0, none⟩) 1 fun s28 =>
          CatB (ByteArray.mk #[92]) s28 (
            R (.returned (.string ((ByteArray.mk #[92]) ++ s28))) m2)) (
          NewC m1 #[.int .u8 c_0] T_uint8 fun b31 m2 =>
          B2S m2 (some ⟨b31, 0, none⟩) 1 fun s32 =>
          R (.returned (.string s32)) m2)) (panicR R)))
noncomputable def k1A  (R : Ending → Mem → Prop) : ACode := (.code (sR (bB (sL (sR (body))))))
def e0 (c_0 : Int) (R : Ending → Mem → Prop) (m : Mem) : Prop :=
  Br (decide (c_0 < 33)) (
    k1  c_0 true R m) (
    k1  c_0 (decide (c_0 > 126)) R m)
noncomputable def e0A (R : Ending → Mem → Prop) : ACode := (.seq (.code (sL (body))) (.seq (.block 0 (.seq (.code (sL (bB (sL (sR (body)))))) (.cut (k1E fun c_0 x3 m => k1  c_0 x3 R m) (sR (bB (sL (sR (body)))))))) (.code (sR (sR (body))))))
theorem k1_eq  (R : Ending → Mem → Prop) (c_0 : Int) (x3 : Bool) (ρ : Env) (m : Mem) : k1  c_0 x3 R m = acpt P od (panicR R) (k1A  R) (blockQ 0 (thenQ (acpt P od (panicR R) (.code (sR (sR (body)))) (bodyQ P fn R)) (bodyQ P fn R))) (upd (upd ρ 3 (.bool x3)) 0 (.int .u8 c_0)) m := by kernel_rfl
theorem k1_er  (R : Ending → Mem → Prop) : (k1A  R).erase = sR (bB (sL (sR (body)))) := by kernel_rfl
theorem k1_ok  (R : Ending → Mem → Prop) (ρ : Env) (m : Mem) (h : (k1E fun c_0 x3 m => k1  c_0 x3 R m) ρ m) : cpt P od (panicR R) (sR (bB (sL (sR (body))))) (blockQ 0 (thenQ (acpt P od (panicR R) (.code (sR (sR (body)))) (bodyQ P fn R)) (bodyQ P fn R))) ρ m := by
  unfold k1E at h
  obtain ⟨c_0, e0, h⟩ := h.ex
  obtain ⟨x3, e3, h⟩ := h.ex
  rw [← upd_self e0, ← upd_self e3]
  rw [← k1_er  R]
  refine acpt_sound (P := P) (k1A  R) _ _ _ True.intro ?_
  exact Eq.mp (k1_eq  R c_0 x3 ρ m) h
theorem e0_eq (c_0 : Int) (R : Ending → Mem → Prop) (m : Mem) : e0 c_0 R m = acpt P od (panicR R) (e0A R) (bodyQ P fn R) (argE (#[.int .u8 c_0] : Array Value).toList) m := by kernel_rfl
theorem ok (c_0 : Int) (R : Ending → Mem → Prop) (m : Mem) (h : e0 c_0 R m) : HC P id #[.int .u8 c_0] m R := by
  refine HC_of (fn := fn) (c := body) (od := od) (tb := tb) Go.Proofs.Tryd.func32 (by kernel_rfl) (by kernel_rfl) follows (by kernel_rfl) (of_decide_eq_true (by kernel_rfl)) ?_
  have he : (e0A R).erase = body := by kernel_rfl
  rw [← he]
  refine acpt_sound (P := P) (e0A R) _ _ _ ⟨⟨True.intro, ⟨(fun ρ m h => k1_ok  R ρ m h), True.intro⟩⟩, True.intro⟩ ?_
  exact Eq.mp (e0_eq c_0 R m) h
end class_sign

/-! ### eyot/class.shown -/
namespace class_shown
noncomputable def fn : Func := Go.Proofs.Tryd.f33
noncomputable def body : Code := fn.body.getD .skip
def od : Nat → Ord := fun | 5 => ordL [(0, 3), (1, 1), (3, 3), (4, 1), (2, 0), (5, 2), (6, 3), (7, 3)] .done | 6 => ordL [(0, 3), (1, 1), (4, 3), (5, 1), (2, 0), (3, 3), (6, 2), (7, 3), (8, 3)] .done | _ => .done
def tb : Nat → Tab := fun | 5 => (32, [0, 1, 3, 0, 8, 31, 63, 127], [(0, 2, 16), (1, 32768, 17), (2, 65536, 18), (0, 2, 19), (8, 262144, 20), (20, 524288, 21), (36, 1179648, 22), (127, 2097152, 3)]) | 6 => (64, [0, 1, 3, 7, 0, 16, 55, 127, 255], [(0, 2, 23), (1, 4194304, 24), (2, 8388608, 25), (4, 16777216, 26), (0, 2, 27), (16, 67108864, 28), (36, 134217728, 29), (72, 301989888, 30), (255, 536870912, 3)]) | _ => (0, [], [])
def e0 (r_0_0 : Int) (r_0_1 : Int) (R : Ending → Mem → Prop) (m : Mem) : Prop :=
  NewC m #[.int .u8 r_0_0, .int .u8 r_0_1] T_arr2_uint8 fun b_r_1 m1 =>
  0 ≤ (1 : Int) ∧ (1 : Int) < (2 : Nat) ∧ (
    LdV m1 b_r_1 (0 + (1 : Int).toNat * 1) fun v =>
    UnI v .u8 fun x4 =>
    0 ≤ (0 : Int) ∧ (0 : Int) < (2 : Nat) ∧ (
      LdV m1 b_r_1 (0 + (0 : Int).toNat * 1) fun v =>
      UnI v .u8 fun x6 =>
      Br ((IntKind.u8.wrap (x4 - x6)) == 0) (
        0 ≤ (0 : Int) ∧ (0 : Int) < (2 : Nat) ∧ (
          LdV m1 b_r_1 (0 + (0 : Int).toNat * 1) fun v =>
          UnI v .u8 fun x11 =>
          HC P class_sign.id #[.int .u8 x11] m1 (Cont (fun v m2 =>
              UnStr v fun x12 =>
              R (.returned (.string x12)) m2) (panicR R)))) (
        Br ((IntKind.u8.wrap (x4 - x6)) == 1) (
          Sub m1 fun r2 =>
          0 ≤ (0 : Int) ∧ (0 : Int) < (2 : Nat) ∧ (
            LdV r2 b_r_1 (0 + (0 : Int).toNat * 1) fun v =>
            UnI v .u8 fun x16 =>
            0 ≤ (1 : Int) ∧ (1 : Int) < (2 : Nat) ∧ (
              LdV r2 b_r_1 (0 + (1 : Int).toNat * 1) fun v =>
              UnI v .u8 fun x19 =>
              HC P class_sign.id #[.int .u8 x16] m1 (Cont (fun v m3 =>
                  UnStr v fun x17 =>
                  Lk r2 m3 fun r4 =>
                  HC P class_sign.id #[.int .u8 x19] m3 (Cont (fun v m5 =>
                      UnStr v fun x20 =>
                      CatB x17 x20 (
                        R (.returned (.string (x17 ++ x20))) m5)) (panicR R))) (panicR R))))) (
          Sub m1 fun r2 =>
          0 ≤ (0 : Int) ∧ (0 : Int) < (2 : Nat) ∧ (
            LdV r2 b_r_1 (0 + (0 : Int).toNat * 1) fun v =>
            UnI v .u8 fun x23 =>
            0 ≤ (1 : Int) ∧ (1 : Int) < (2 : Nat) ∧ (
              LdV r2 b_r_1 (0 + (1 : Int).toNat * 1) fun v =>
              UnI v .u8 fun x27 =>
              HC P class_sign.id #[.int .u8 x23] m1 (Cont (fun v m3 =>
                  UnStr v fun x24 =>
                  Lk r2 m3 fun r4 =>
                  CatB x24 (ByteArray.mk #[45]) (
                    HC P class_sign.id #[.int .u8 x27] m3 (Cont (fun v m5 =>
                        UnStr v fun x28 =>
                        CatB (x24 ++ (ByteArray.mk #[45])) x28 (
                        R (.returned (.string ((x24 ++ (ByteArray.mk #[45])) ++ x28))) m5)) (panicR R)))) (panicR R))))))))
noncomputable def e0A (R : Ending → Mem → Prop) : ACode := (.code (body))
theorem e0_eq (r_0_0 : Int) (r_0_1 : Int) (R : Ending → Mem → Prop) (m : Mem) : e0 r_0_0 r_0_1 R m = acpt P od (panicR R) (e0A R) (bodyQ P fn R) (argE (#[.agg #[.int .u8 r_0_0, .int .u8 r_0_1]] : Array Value).toList) m := by kernel_rfl
theorem ok (r_0_0 : Int) (r_0_1 : Int) (R : Ending → Mem → Prop) (m : Mem) (h : e0 r_0_0 r_0_1 R m) : HC P id #[.agg #[.int .u8 r_0_0, .int .u8 r_0_1]] m R := by
  refine HC_of (fn := fn) (c := body) (od := od) (tb := tb) Go.Proofs.Tryd.func33 (by kernel_rfl) (by kernel_rfl) follows (by kernel_rfl) (of_decide_eq_true (by kernel_rfl)) ?_
  have he : (e0A R).erase = body := by kernel_rfl
  rw [← he]
  refine acpt_sound (P := P) (e0A R) _ _ _ True.intro ?_
  exact Eq.mp (e0_eq r_0_0 r_0_1 R m) h
end class_shown

/-! ### eyot/class.with -/
namespace class_with
noncomputable def fn : Func := Go.Proofs.Tryd.f34
noncomputable def body : Code := fn.body.getD .skip
def od : Nat → Ord := fun | 4 => ordL [(0, 3), (1, 3), (2, 3), (3, 3), (4, 1), (5, 3), (6, 3), (7, 0), (8, 2), (9, 3), (10, 2)] .done | _ => .done
def tb : Nat → Tab := fun | 4 => (1280, [0, 0, 0, 4, 12, 0, 32, 96, 254, 511, 1023], [(0, 128, 12), (0, 4, 13), (0, 128, 14), (4, 8200, 15), (8, 16384, 16), (0, 128, 17), (32, 65552, 18), (64, 131072, 19), (146, 299008, 20), (511, 2056, 21), (1023, 1572864, 0)]) | _ => (0, [], [])
def l1E (K : Value → Nat → Nat → Nat → Nat → Nat → Nat → Int → Mem → Prop) : Env → Mem → Prop := fun ρ m => (fun f_2 => UnPA (ρ 3) fun a_3b a_3o => UnPA (ρ 4) fun b_4b b_4o => UnPA (ρ 6) fun x6b x6o => UnI (ρ 8) .i64 fun x8 => K f_2 a_3b a_3o b_4b b_4o x6b x6o x8 m) (ρ 2)
def l1B  (K1 : Value → Nat → Nat → Nat → Nat → Nat → Nat → Int → Mem → Prop) (f_2 : Value) (a_3b : Nat) (a_3o : Nat) (b_4b : Nat) (b_4o : Nat) (x6b : Nat) (x6o : Nat) (x8 : Int) (R : Ending → Mem → Prop) (m : Mem) : Prop :=
  Br (decide (x8 < 4)) (
    Sub m fun r1 =>
    0 ≤ (x8 : Int) ∧ (x8 : Int) < (4 : Nat) ∧ (
      LdV r1 a_3b (a_3o + (x8 : Int).toNat * 1) fun v =>
      UnI v .u64 fun x15 =>
      0 ≤ (x8 : Int) ∧ (x8 : Int) < (4 : Nat) ∧ (
        LdV m b_4b (b_4o + (x8 : Int).toNat * 1) fun v =>
        UnI v .u64 fun x18 =>
        CallV P f_2 #[.int .u64 x15, .int .u64 x18] m (Cont (fun v m2 =>
            UnI v .u64 fun x19 =>
            0 ≤ (x8 : Int) ∧ (x8 : Int) < (4 : Nat) ∧ (
              St1 m2 a_3b (a_3o + (x8 : Int).toNat * 1) (.int .u64 x19) fun m3 =>
              K1 f_2 a_3b a_3o b_4b b_4o x6b x6o (IntKind.i64.wrap (x8 + 1)) m3)) (panicR R))))) (
    LdV m a_3b a_3o fun v =>
    UnI v .u64 fun x22_0 =>
    LdV m a_3b (a_3o + 1) fun v =>
    UnI v .u64 fun x22_1 =>
    LdV m a_3b (a_3o + 2) fun v =>
    UnI v .u64 fun x22_2 =>
    LdV m a_3b (a_3o + 3) fun v =>
    UnI v .u64 fun x22_3 =>
    St1 m x6b x6o (.int .u64 x22_0) fun m1 =>
    St1 m1 x6b (x6o + 1) (.int .u64 x22_1) fun m2 =>
    St1 m2 x6b (x6o + 2) (.int .u64 x22_2) fun m3 =>
    St1 m3 x6b (x6o + 3) (.int .u64 x22_3) fun m4 =>
    LdV m4 x6b x6o fun v =>
    UnI v .u64 fun res0_0 =>
    LdV m4 x6b (x6o + 1) fun v =>
    UnI v .u64 fun res0_1 =>
    LdV m4 x6b (x6o + 2) fun v =>
    UnI v .u64 fun res0_2 =>
    LdV m4 x6b (x6o + 3) fun v =>
    UnI v .u64 fun res0_3 =>
    R (.returned (.agg #[.int .u64 res0_0, .int .u64 res0_1, .int .u64 res0_2, .int .u64 res0_3])) m4)
def l1  (f_2 : Value) (a_3b : Nat) (a_3o : Nat) (b_4b : Nat) (b_4o : Nat) (x6b : Nat) (x6o : Nat) (x8 : Int) (R : Ending → Mem → Prop) (m : Mem) : Prop :=
  ∃ (I : Nat → Value → Nat → Nat → Nat → Nat → Nat → Nat → Int → Mem → Prop) (N : Nat), I N f_2 a_3b a_3o b_4b b_4o x6b x6o x8 m ∧ ∀ N f_2 a_3b a_3o b_4b b_4o x6b x6o x8 m, I N f_2 a_3b a_3o b_4b b_4o x6b x6o x8 m → l1B  (fun f_2 a_3b a_3o b_4b b_4o x6b x6o x8 m => ∃ N1, N1 < N ∧ I N1 f_2 a_3b a_3o b_4b b_4o x6b x6o x8 m) f_2 a_3b a_3o b_4b b_4o x6b x6o x8 R m
noncomputable def l1A  (K1 : Value → Nat → Nat → Nat → Nat → Nat → Nat → Int → Mem → Prop) (R : Ending → Mem → Prop) : ACode := (.code (lP (bB (sR (sL (sR (body)))))))
def e0 (a_0_0 : Int) (a_0_1 : Int) (a_0_2 : Int) (a_0_3 : Int) (b_1_0 : Int) (b_1_1 : Int) (b_1_2 : Int) (b_1_3 : Int) (f_2 : Value) (R : Ending → Mem → Prop) (m : Mem) : Prop :=
  NewC m #[.int .u64 a_0_0, .int .u64 a_0_1, .int .u64 a_0_2, .int .u64 a_0_3] T_api_Set fun b_a_3 m1 =>
  NewC m1 #[.int .u64 b_1_0, .int .u64 b_1_1, .int .u64 b_1_2, .int .u64 b_1_3] T_api_Set fun b_4 m2 =>
  NewC m2 #[.int .u64 0, .int .u64 0, .int .u64 0, .int .u64 0] T_api_Set fun b6 m3 =>
  l1  f_2 b_a_3 0 b_4 0 b6 0 0 R m3
noncomputable def e0A (R : Ending → Mem → Prop) : ACode := (.seq (.code (sL (body))) (.seq (.seq (.code (sL (sL (sR (body))))) (.block 0 (.cut (l1E fun f_2 a_3b a_3o b_4b b_4o x6b x6o x8 m => l1  f_2 a_3b a_3o b_4b b_4o x6b x6o x8 R m) (.loop (lP (bB (sR (sL (sR (body)))))))))) (.code (sR (sR (body))))))
theorem l1_eq  (K1 : Value → Nat → Nat → Nat → Nat → Nat → Nat → Int → Mem → Prop) (R : Ending → Mem → Prop) (f_2 : Value) (a_3b : Nat) (a_3o : Nat) (b_4b : Nat) (b_4o : Nat) (x6b : Nat) (x6o : Nat) (x8 : Int) (ρ : Env) (m : Mem) : l1B  K1 f_2 a_3b a_3o b_4b b_4o x6b x6o x8 R m = acpt P od (panicR R) (l1A  K1 R) (thenQ (l1E K1) (blockQ 0 (thenQ (acpt P od (panicR R) (.code (sR (sR (body)))) (bodyQ P fn R)) (bodyQ P fn R)))) (upd (upd (upd (upd (upd ρ 8 (.int .i64 x8)) 6 (.pointer (some ⟨x6b, x6o, none⟩))) 4 (.pointer (some ⟨b_4b, b_4o, none⟩))) 3 (.pointer (some ⟨a_3b, a_3o, none⟩))) 2 (f_2)) m := by kernel_rfl
theorem l1_er  (K1 : Value → Nat → Nat → Nat → Nat → Nat → Nat → Int → Mem → Prop) (R : Ending → Mem → Prop) : (l1A  K1 R).erase = lP (bB (sR (sL (sR (body))))) := by kernel_rfl
theorem l1_ok  (R : Ending → Mem → Prop) (ρ : Env) (m : Mem) (h : (l1E fun f_2 a_3b a_3o b_4b b_4o x6b x6o x8 m => l1  f_2 a_3b a_3o b_4b b_4o x6b x6o x8 R m) ρ m) : cpt P od (panicR R) (.loop (lP (bB (sR (sL (sR (body))))))) (blockQ 0 (thenQ (acpt P od (panicR R) (.code (sR (sR (body)))) (bodyQ P fn R)) (bodyQ P fn R))) ρ m := by
  unfold l1E at h
  generalize e2 : ρ 2 = f_2 at h
  try dsimp only at h
  obtain ⟨a_3b, a_3o, e3, h⟩ := h.ex
  obtain ⟨b_4b, b_4o, e4, h⟩ := h.ex
  obtain ⟨x6b, x6o, e6, h⟩ := h.ex
  obtain ⟨x8, e8, h⟩ := h.ex
  obtain ⟨I, N, h0, hs⟩ := h
  refine ⟨fun N => l1E (I N), N, (by show l1E (I N) ρ m; unfold l1E; rw [e2, e3, e4, e6, e8]; exact h0), ?_⟩
  clear h0 e2 e3 e4 e6 e8
  intro N ρ m h
  unfold l1E at h
  generalize e2 : ρ 2 = f_2 at h
  try dsimp only at h
  obtain ⟨a_3b, a_3o, e3, h⟩ := h.ex
  obtain ⟨b_4b, b_4o, e4, h⟩ := h.ex
  obtain ⟨x6b, x6o, e6, h⟩ := h.ex
  obtain ⟨x8, e8, h⟩ := h.ex
  refine cpt_mono (P := P) (lP (bB (sR (sL (sR (body)))))) (Q := thenQ (l1E fun f_2 a_3b a_3o b_4b b_4o x6b x6o x8 m => ∃ N1, N1 < N ∧ I N1 f_2 a_3b a_3o b_4b b_4o x6b x6o x8 m) (blockQ 0 (thenQ (acpt P od (panicR R) (.code (sR (sR (body)))) (bodyQ P fn R)) (bodyQ P fn R)))) (fun e ρ m h => ?_) ρ m ?_
  · cases e with
    | normal =>
      have h : l1E (fun f_2 a_3b a_3o b_4b b_4o x6b x6o x8 m => ∃ N1, N1 < N ∧ I N1 f_2 a_3b a_3o b_4b b_4o x6b x6o x8 m) ρ m := h
      unfold l1E at h
      generalize e2 : ρ 2 = f_2 at h
      try dsimp only at h
      obtain ⟨a_3b, a_3o, e3, h⟩ := h.ex
      obtain ⟨b_4b, b_4o, e4, h⟩ := h.ex
      obtain ⟨x6b, x6o, e6, h⟩ := h.ex
      obtain ⟨x8, e8, h⟩ := h.ex
      obtain ⟨N1, hlt, h⟩ := h
      exact ⟨N1, hlt, (by show l1E (I N1) ρ m; unfold l1E; rw [e2, e3, e4, e6, e8]; exact h)⟩
    | _ => exact h
  have hh := hs N f_2 a_3b a_3o b_4b b_4o x6b x6o x8 m h
  generalize (fun f_2 a_3b a_3o b_4b b_4o x6b x6o x8 m => ∃ N1, N1 < N ∧ I N1 f_2 a_3b a_3o b_4b b_4o x6b x6o x8 m : Value → Nat → Nat → Nat → Nat → Nat → Nat → Int → Mem → Prop) = K1 at hh ⊢
  rw [← upd_self e2, ← upd_self e3, ← upd_self e4, ← upd_self e6, ← upd_self e8]
  rw [← l1_er  K1 R]
  refine acpt_sound (P := P) (l1A  K1 R) _ _ _ True.intro ?_
  exact Eq.mp (l1_eq  K1 R f_2 a_3b a_3o b_4b b_4o x6b x6o x8 ρ m) hh
theorem e0_eq (a_0_0 : Int) (a_0_1 : Int) (a_0_2 : Int) (a_0_3 : Int) (b_1_0 : Int) (b_1_1 : Int) (b_1_2 : Int) (b_1_3 : Int) (f_2 : Value) (R : Ending → Mem → Prop) (m : Mem) : e0 a_0_0 a_0_1 a_0_2 a_0_3 b_1_0 b_1_1 b_1_2 b_1_3 f_2 R m = acpt P od (panicR R) (e0A R) (bodyQ P fn R) (argE (#[.agg #[.int .u64 a_0_0, .int .u64 a_0_1, .int .u64 a_0_2, .int .u64 a_0_3], .agg #[.int .u64 b_1_0, .int .u64 b_1_1, .int .u64 b_1_2, .int .u64 b_1_3], f_2] : Array Value).toList) m := by kernel_rfl
theorem ok (a_0_0 : Int) (a_0_1 : Int) (a_0_2 : Int) (a_0_3 : Int) (b_1_0 : Int) (b_1_1 : Int) (b_1_2 : Int) (b_1_3 : Int) (f_2 : Value) (R : Ending → Mem → Prop) (m : Mem) (h : e0 a_0_0 a_0_1 a_0_2 a_0_3 b_1_0 b_1_1 b_1_2 b_1_3 f_2 R m) : HC P id #[.agg #[.int .u64 a_0_0, .int .u64 a_0_1, .int .u64 a_0_2, .int .u64 a_0_3], .agg #[.int .u64 b_1_0, .int .u64 b_1_1, .int .u64 b_1_2, .int .u64 b_1_3], f_2] m R := by
  refine HC_of (fn := fn) (c := body) (od := od) (tb := tb) Go.Proofs.Tryd.func34 (by kernel_rfl) (by kernel_rfl) follows (by kernel_rfl) (of_decide_eq_true (by kernel_rfl)) ?_
  have he : (e0A R).erase = body := by kernel_rfl
  rw [← he]
  refine acpt_sound (P := P) (e0A R) _ _ _ ⟨⟨True.intro, ⟨(fun ρ m h => l1_ok  R ρ m h), True.intro⟩⟩, True.intro⟩ ?_
  exact Eq.mp (e0_eq a_0_0 a_0_1 a_0_2 a_0_3 b_1_0 b_1_1 b_1_2 b_1_3 f_2 R m) h
end class_with

/-! ### eyot/class.Or$1 -/
namespace class_Or_1
noncomputable def fn : Func := Go.Proofs.Tryd.f35
noncomputable def body : Code := fn.body.getD .skip
def od : Nat → Ord := fun _ => .done
def tb : Nat → Tab := fun _ => (0, [], [])
def e0 (x_0 : Int) (y_1 : Int) (R : Ending → Mem → Prop) (m : Mem) : Prop :=
  R (.returned (.int .u64 (bitsV .or .u64 x_0 y_1))) m
noncomputable def e0A (R : Ending → Mem → Prop) : ACode := (.code (body))
theorem e0_eq (x_0 : Int) (y_1 : Int) (R : Ending → Mem → Prop) (m : Mem) : e0 x_0 y_1 R m = acpt P od (panicR R) (e0A R) (bodyQ P fn R) (argE (#[.int .u64 x_0, .int .u64 y_1] : Array Value).toList) m := by kernel_rfl
theorem ok (x_0 : Int) (y_1 : Int) (R : Ending → Mem → Prop) (m : Mem) (h : e0 x_0 y_1 R m) : HC P id #[.int .u64 x_0, .int .u64 y_1] m R := by
  refine HC_of (fn := fn) (c := body) (od := od) (tb := tb) Go.Proofs.Tryd.func35 (by kernel_rfl) (by kernel_rfl) follows (by kernel_rfl) (of_decide_eq_true (by kernel_rfl)) ?_
  have he : (e0A R).erase = body := by kernel_rfl
  rw [← he]
  refine acpt_sound (P := P) (e0A R) _ _ _ True.intro ?_
  exact Eq.mp (e0_eq x_0 y_1 R m) h
end class_Or_1

/-! ### eyot/class.Not$1 -/
namespace class_Not_1
noncomputable def fn : Func := Go.Proofs.Tryd.f36
noncomputable def body : Code := fn.body.getD .skip
def od : Nat → Ord := fun _ => .done
def tb : Nat → Tab := fun _ => (0, [], [])
def e0 (x_0 : Int) (a1 : Int) (R : Ending → Mem → Prop) (m : Mem) : Prop :=
  R (.returned (.int .u64 (bitsV .xor .u64 18446744073709551615 x_0))) m
noncomputable def e0A (R : Ending → Mem → Prop) : ACode := (.code (body))
theorem e0_eq (x_0 : Int) (a1 : Int) (R : Ending → Mem → Prop) (m : Mem) : e0 x_0 a1 R m = acpt P od (panicR R) (e0A R) (bodyQ P fn R) (argE (#[.int .u64 x_0, .int .u64 a1] : Array Value).toList) m := by kernel_rfl
theorem ok (x_0 : Int) (a1 : Int) (R : Ending → Mem → Prop) (m : Mem) (h : e0 x_0 a1 R m) : HC P id #[.int .u64 x_0, .int .u64 a1] m R := by
  refine HC_of (fn := fn) (c := body) (od := od) (tb := tb) Go.Proofs.Tryd.func36 (by kernel_rfl) (by kernel_rfl) follows (by kernel_rfl) (of_decide_eq_true (by kernel_rfl)) ?_
  have he : (e0A R).erase = body := by kernel_rfl
  rw [← he]
  refine acpt_sound (P := P) (e0A R) _ _ _ True.intro ?_
  exact Eq.mp (e0_eq x_0 a1 R m) h
end class_Not_1

/-! ### eyot/eyotref8.list -/
namespace eyotref8_list
noncomputable def fn : Func := Go.Proofs.Tryd.f37
noncomputable def body : Code := fn.body.getD .skip
def od : Nat → Ord := fun _ => .done
def tb : Nat → Tab := fun _ => (0, [], [])
def l1E (K : Nat → Nat → Option Addr → Nat → Nat → Int → Mem → Prop) : Env → Mem → Prop := fun ρ m => UnPA (ρ 1) fun s_1b s_1o => UnS (ρ 3) fun l_3a l_3l l_3c => UnI (ρ 4) .i64 fun b_4 => K s_1b s_1o l_3a l_3l l_3c b_4 m
def l1B  (K1 : Nat → Nat → Option Addr → Nat → Nat → Int → Mem → Prop) (s_1b : Nat) (s_1o : Nat) (l_3a : Option Addr) (l_3l : Nat) (l_3c : Nat) (b_4 : Int) (R : Ending → Mem → Prop) (m : Mem) : Prop :=
  Br (decide (b_4 < 256)) (
    LdV m s_1b s_1o fun v =>
    UnI v .u64 fun x9_0 =>
    LdV m s_1b (s_1o + 1) fun v =>
    UnI v .u64 fun x9_1 =>
    LdV m s_1b (s_1o + 2) fun v =>
    UnI v .u64 fun x9_2 =>
    LdV m s_1b (s_1o + 3) fun v =>
    UnI v .u64 fun x9_3 =>
    HC P eyotref8_Has.id #[.agg #[.int .u64 x9_0, .int .u64 x9_1, .int .u64 x9_2, .int .u64 x9_3], .int .u8 (IntKind.u8.wrap b_4)] m (Cont (fun v m1 =>
        UnB v fun x12 =>
        Br x12 (
          NewC m1 #[.int .u8 (IntKind.u8.wrap b_4)] T_uint8 fun b16 m2 =>
          BiN P .append #[T_sl_uint8, T_sl_uint8] T_sl_uint8 #[false, false] #[.slice l_3a l_3l l_3c, .slice (some ⟨b16, 0, none⟩) 1 1] m2 (fun w m3 =>
            UnS w fun x17a x17l x17c =>
            K1 s_1b s_1o x17a x17l x17c (IntKind.i64.wrap (b_4 + 1)) m3) (panicR R)) (
          K1 s_1b s_1o l_3a l_3l l_3c (IntKind.i64.wrap (b_4 + 1)) m1)) (panicR R))) (
    R (.returned (.slice l_3a l_3l l_3c)) m)
def l1  (s_1b : Nat) (s_1o : Nat) (l_3a : Option Addr) (l_3l : Nat) (l_3c : Nat) (b_4 : Int) (R : Ending → Mem → Prop) (m : Mem) : Prop :=
  ∃ (I : Nat → Nat → Nat → Option Addr → Nat → Nat → Int → Mem → Prop) (N : Nat), I N s_1b s_1o l_3a l_3l l_3c b_4 m ∧ ∀ N s_1b s_1o l_3a l_3l l_3c b_4 m, I N s_1b s_1o l_3a l_3l l_3c b_4 m → l1B  (fun s_1b s_1o l_3a l_3l l_3c b_4 m => ∃ N1, N1 < N ∧ I N1 s_1b s_1o l_3a l_3l l_3c b_4 m) s_1b s_1o l_3a l_3l l_3c b_4 R m
noncomputable def l1A  (K1 : Nat → Nat → Option Addr → Nat → Nat → Int → Mem → Prop) (R : Ending → Mem → Prop) : ACode := (.code (lP (bB (sR (sL (sR (sR (body))))))))
def e0 (s_0_0 : Int) (s_0_1 : Int) (s_0_2 : Int) (s_0_3 : Int) (R : Ending → Mem → Prop) (m : Mem) : Prop :=
  NewC m #[.int .u64 s_0_0, .int .u64 s_0_1, .int .u64 s_0_2, .int .u64 s_0_3] T_api_Set fun b_s_1 m1 =>
  l1  b_s_1 0 none 0 0 0 R m1
noncomputable def e0A (R : Ending → Mem → Prop) : ACode := (.seq (.code (sL (body))) (.seq (.code (sL (sR (body)))) (.seq (.seq (.code (sL (sL (sR (sR (body)))))) (.block 0 (.cut (l1E fun s_1b s_1o l_3a l_3l l_3c b_4 m => l1  s_1b s_1o l_3a l_3l l_3c b_4 R m) (.loop (lP (bB (sR (sL (sR (sR (body))))))))))) (.code (sR (sR (sR (body))))))))
theorem l1_eq  (K1 : Nat → Nat → Option Addr → Nat → Nat → Int → Mem → Prop) (R : Ending → Mem → Prop) (s_1b : Nat) (s_1o : Nat) (l_3a : Option Addr) (l_3l : Nat) (l_3c : Nat) (b_4 : Int) (ρ : Env) (m : Mem) : l1B  K1 s_1b s_1o l_3a l_3l l_3c b_4 R m = acpt P od (panicR R) (l1A  K1 R) (thenQ (l1E K1) (blockQ 0 (thenQ (acpt P od (panicR R) (.code (sR (sR (sR (body))))) (bodyQ P fn R)) (bodyQ P fn R)))) (upd (upd (upd ρ 4 (.int .i64 b_4)) 3 (.slice l_3a l_3l l_3c)) 1 (.pointer (some ⟨s_1b, s_1o, none⟩))) m := by kernel_rfl
theorem l1_er  (K1 : Nat → Nat → Option Addr → Nat → Nat → Int → Mem → Prop) (R : Ending → Mem → Prop) : (l1A  K1 R).erase = lP (bB (sR (sL (sR (sR (body)))))) := by kernel_rfl
theorem l1_ok  (R : Ending → Mem → Prop) (ρ : Env) (m : Mem) (h : (l1E fun s_1b s_1o l_3a l_3l l_3c b_4 m => l1  s_1b s_1o l_3a l_3l l_3c b_4 R m) ρ m) : cpt P od (panicR R) (.loop (lP (bB (sR (sL (sR (sR (body)))))))) (blockQ 0 (thenQ (acpt P od (panicR R) (.code (sR (sR (sR (body))))) (bodyQ P fn R)) (bodyQ P fn R))) ρ m := by
  unfold l1E at h
  obtain ⟨s_1b, s_1o, e1, h⟩ := h.ex
  obtain ⟨l_3a, l_3l, l_3c, e3, h⟩ := h.ex
  obtain ⟨b_4, e4, h⟩ := h.ex
  obtain ⟨I, N, h0, hs⟩ := h
  refine ⟨fun N => l1E (I N), N, (by show l1E (I N) ρ m; unfold l1E; rw [e1, e3, e4]; exact h0), ?_⟩
  clear h0 e1 e3 e4
  intro N ρ m h
  unfold l1E at h
  obtain ⟨s_1b, s_1o, e1, h⟩ := h.ex
  obtain ⟨l_3a, l_3l, l_3c, e3, h⟩ := h.ex
  obtain ⟨b_4, e4, h⟩ := h.ex
  refine cpt_mono (P := P) (lP (bB (sR (sL (sR (sR (body))))))) (Q := thenQ (l1E fun s_1b s_1o l_3a l_3l l_3c b_4 m => ∃ N1, N1 < N ∧ I N1 s_1b s_1o l_3a l_3l l_3c b_4 m) (blockQ 0 (thenQ (acpt P od (panicR R) (.code (sR (sR (sR (body))))) (bodyQ P fn R)) (bodyQ P fn R)))) (fun e ρ m h => ?_) ρ m ?_
  · cases e with
    | normal =>
      have h : l1E (fun s_1b s_1o l_3a l_3l l_3c b_4 m => ∃ N1, N1 < N ∧ I N1 s_1b s_1o l_3a l_3l l_3c b_4 m) ρ m := h
      unfold l1E at h
      obtain ⟨s_1b, s_1o, e1, h⟩ := h.ex
      obtain ⟨l_3a, l_3l, l_3c, e3, h⟩ := h.ex
      obtain ⟨b_4, e4, h⟩ := h.ex
      obtain ⟨N1, hlt, h⟩ := h
      exact ⟨N1, hlt, (by show l1E (I N1) ρ m; unfold l1E; rw [e1, e3, e4]; exact h)⟩
    | _ => exact h
  have hh := hs N s_1b s_1o l_3a l_3l l_3c b_4 m h
  generalize (fun s_1b s_1o l_3a l_3l l_3c b_4 m => ∃ N1, N1 < N ∧ I N1 s_1b s_1o l_3a l_3l l_3c b_4 m : Nat → Nat → Option Addr → Nat → Nat → Int → Mem → Prop) = K1 at hh ⊢
  rw [← upd_self e1, ← upd_self e3, ← upd_self e4]
  rw [← l1_er  K1 R]
  refine acpt_sound (P := P) (l1A  K1 R) _ _ _ True.intro ?_
  exact Eq.mp (l1_eq  K1 R s_1b s_1o l_3a l_3l l_3c b_4 ρ m) hh
theorem e0_eq (s_0_0 : Int) (s_0_1 : Int) (s_0_2 : Int) (s_0_3 : Int) (R : Ending → Mem → Prop) (m : Mem) : e0 s_0_0 s_0_1 s_0_2 s_0_3 R m = acpt P od (panicR R) (e0A R) (bodyQ P fn R) (argE (#[.agg #[.int .u64 s_0_0, .int .u64 s_0_1, .int .u64 s_0_2, .int .u64 s_0_3]] : Array Value).toList) m := by kernel_rfl
theorem ok (s_0_0 : Int) (s_0_1 : Int) (s_0_2 : Int) (s_0_3 : Int) (R : Ending → Mem → Prop) (m : Mem) (h : e0 s_0_0 s_0_1 s_0_2 s_0_3 R m) : HC P id #[.agg #[.int .u64 s_0_0, .int .u64 s_0_1, .int .u64 s_0_2, .int .u64 s_0_3]] m R := by
  refine HC_of (fn := fn) (c := body) (od := od) (tb := tb) Go.Proofs.Tryd.func37 (by kernel_rfl) (by kernel_rfl) follows (by kernel_rfl) (of_decide_eq_true (by kernel_rfl)) ?_
  have he : (e0A R).erase = body := by kernel_rfl
  rw [← he]
  refine acpt_sound (P := P) (e0A R) _ _ _ ⟨⟨⟨True.intro, ⟨(fun ρ m h => l1_ok  R ρ m h), True.intro⟩⟩, True.intro⟩, True.intro⟩ ?_
  exact Eq.mp (e0_eq s_0_0 s_0_1 s_0_2 s_0_3 R m) h
end eyotref8_list

/-! ### eyot/eyotref8.shown -/
namespace eyotref8_shown
noncomputable def fn : Func := Go.Proofs.Tryd.f38
noncomputable def body : Code := fn.body.getD .skip
def od : Nat → Ord := fun | 5 => ordL [(0, 3), (1, 3), (2, 3), (3, 3), (4, 3), (5, 3), (6, 2), (7, 2), (8, 3)] .done | _ => .done
def tb : Nat → Tab := fun | 5 => (192, [0, 1, 3, 0, 8, 24, 63, 127, 255], [(0, 1, 18), (1, 131072, 19), (2, 262144, 20), (0, 1, 21), (8, 1048576, 22), (16, 2097152, 23), (36, 4718592, 24), (64, 8388608, 25), (255, 16777216, 3)]) | _ => (0, [], [])
def k2E (K : Int → Mem → Prop) : Env → Mem → Prop := fun ρ m => UnI (ρ 0) .u8 fun c_0 => K c_0 m
def k2  (c_0 : Int) (R : Ending → Mem → Prop) (m : Mem) : Prop :=
  Sub m fun r1 =>
  IxB (ByteArray.mk #[48, 49, 50, 51, 52, 53, 54, 55, 56, 57, 97, 98, 99, 100, 101, 102]) (IntKind.u8.wrap (Int.tdiv c_0 16)) fun x19 =>
  IxB (ByteArray.mk #[48, 49, 50, 51, 52, 53, 54, 55, 56, 57, 97, 98, 99, 100, 101, 102]) (Int.tmod c_0 16) fun x22 =>
  NewC m #[.int .u8 92, .int .u8 120, .int .u8 x19, .int .u8 x22] T_uint8 fun b23 m2 =>
  B2S m2 (some ⟨b23, 0, none⟩) 4 fun s24 =>
  R (.returned (.string s24)) m2
noncomputable def k2A  (R : Ending → Mem → Prop) : ACode := (.code (sR (sR (sR (body)))))
def k1E (K : Int → Bool → Mem → Prop) : Env → Mem → Prop := fun ρ m => UnI (ρ 0) .u8 fun c_0 => UnB (ρ 13) fun x13 => K c_0 x13 m
def k1  (c_0 : Int) (x13 : Bool) (R : Ending → Mem → Prop) (m : Mem) : Prop :=
  Br x13 (
    NewC m #[.int .u8 c_0] T_uint8 fun b15 m1 =>
    B2S m1 (some ⟨b15, 0, none⟩) 1 fun s16 =>
    R (.returned (.string s16)) m1) (
    k2  c_0 R m)
noncomputable def k1A  (R : Ending → Mem → Prop) : ACode := (.code (sR (sL (sR (sR (body))))))
def e0 (c_0 : Int) (R : Ending → Mem → Prop) (m : Mem) : Prop :=
  HC P eyotref8_in.id #[.string (ByteArray.mk #[92, 124, 42, 43, 63, 40, 41, 91, 93, 46, 94, 45]), .int .u8 c_0] m (Cont (fun v m1 =>
      UnB v fun x4 =>
      Br x4 (
        NewC m1 #[.int .u8 92, .int .u8 c_0] T_uint8 fun b6 m2 =>
        B2S m2 (some ⟨b6, 0, none⟩) 2 fun s7 =>
        R (.returned (.string s7)) m2) (
        Br (decide (c_0 ≥ 33)) (
          k1  c_0 (decide (c_0 ≤ 126)) R m1) (
          k1  c_0 false R m1))) (panicR R))
noncomputable def e0A (R : Ending → Mem → Prop) : ACode := (.seq (.code (sL (body))) (.seq (.code (sL (sR (body)))) (.seq (.seq (.code (sL (sL (sR (sR (body)))))) (.cut (k1E fun c_0 x13 m => k1  c_0 x13 R m) (sR (sL (sR (sR (body))))))) (.cut (k2E fun c_0 m => k2  c_0 R m) (sR (sR (sR (body))))))))
theorem k2_eq  (R : Ending → Mem → Prop) (c_0 : Int) (ρ : Env) (m : Mem) : k2  c_0 R m = acpt P od (panicR R) (k2A  R) (bodyQ P fn R) (upd ρ 0 (.int .u8 c_0)) m := by kernel_rfl
theorem k2_er  (R : Ending → Mem → Prop) : (k2A  R).erase = sR (sR (sR (body))) := by kernel_rfl
theorem k2_ok  (R : Ending → Mem → Prop) (ρ : Env) (m : Mem) (h : (k2E fun c_0 m => k2  c_0 R m) ρ m) : cpt P od (panicR R) (sR (sR (sR (body)))) (bodyQ P fn R) ρ m := by
  unfold k2E at h
  obtain ⟨c_0, e0, h⟩ := h.ex
  rw [← upd_self e0]
  rw [← k2_er  R]
  refine acpt_sound (P := P) (k2A  R) _ _ _ True.intro ?_
  exact Eq.mp (k2_eq  R c_0 ρ m) h
theorem k1_eq  (R : Ending → Mem → Prop) (c_0 : Int) (x13 : Bool) (ρ : Env) (m : Mem) : k1  c_0 x13 R m = acpt P od (panicR R) (k1A  R) (thenQ (acpt P od (panicR R) (.cut (k2E fun c_0 m => k2  c_0 R m) (sR (sR (sR (body))))) (bodyQ P fn R)) (bodyQ P fn R)) (upd (upd ρ 13 (.bool x13)) 0 (.int .u8 c_0)) m := by kernel_rfl
theorem k1_er  (R : Ending → Mem → Prop) : (k1A  R).erase = sR (sL (sR (sR (body)))) := by kernel_rfl
theorem k1_ok  (R : Ending → Mem → Prop) (ρ : Env) (m : Mem) (h : (k1E fun c_0 x13 m => k1  c_0 x13 R m) ρ m) : cpt P od (panicR R) (sR (sL (sR (sR (body))))) (thenQ (acpt P od (panicR R) (.cut (k2E fun c_0 m => k2  c_0 R m) (sR (sR (sR (body))))) (bodyQ P fn R)) (bodyQ P fn R)) ρ m := by
  unfold k1E at h
  obtain ⟨c_0, e0, h⟩ := h.ex
  obtain ⟨x13, e13, h⟩ := h.ex
  rw [← upd_self e0, ← upd_self e13]
  rw [← k1_er  R]
  refine acpt_sound (P := P) (k1A  R) _ _ _ True.intro ?_
  exact Eq.mp (k1_eq  R c_0 x13 ρ m) h
theorem e0_eq (c_0 : Int) (R : Ending → Mem → Prop) (m : Mem) : e0 c_0 R m = acpt P od (panicR R) (e0A R) (bodyQ P fn R) (argE (#[.int .u8 c_0] : Array Value).toList) m := by kernel_rfl
theorem ok (c_0 : Int) (R : Ending → Mem → Prop) (m : Mem) (h : e0 c_0 R m) : HC P id #[.int .u8 c_0] m R := by
  refine HC_of (fn := fn) (c := body) (od := od) (tb := tb) Go.Proofs.Tryd.func38 (by kernel_rfl) (by kernel_rfl) follows (by kernel_rfl) (of_decide_eq_true (by kernel_rfl)) ?_
  have he : (e0A R).erase = body := by kernel_rfl
  rw [← he]
  refine acpt_sound (P := P) (e0A R) _ _ _ ⟨⟨⟨(fun ρ m h => k2_ok  R ρ m h), ⟨(fun ρ m h => k1_ok  R ρ m h), True.intro⟩⟩, True.intro⟩, True.intro⟩ ?_
  exact Eq.mp (e0_eq c_0 R m) h
end eyotref8_shown

/-! ### math/bits.TrailingZeros64 -/
namespace math_bits_TrailingZeros64
noncomputable def fn : Func := Go.Proofs.Tryd.f39
noncomputable def body : Code := fn.body.getD .skip
def od : Nat → Ord := fun _ => .done
def tb : Nat → Tab := fun _ => (0, [], [])
def e0 (x_0 : Int) (R : Ending → Mem → Prop) (m : Mem) : Prop :=
  Br (x_0 == 0) (
    R (.returned (.int .i64 64)) m) (
    0 ≤ (shrV .u64 (IntKind.u64.wrap ((bitsV .and .u64 x_0 (IntKind.u64.wrap (0 - x_0))) * 285870213051353865)) 58 : Int) ∧ (shrV .u64 (IntKind.u64.wrap ((bitsV .and .u64 x_0 (IntKind.u64.wrap (0 - x_0))) * 285870213051353865)) 58 : Int) < (64 : Nat) ∧ (
      LdV m 0 (0 + (shrV .u64 (IntKind.u64.wrap ((bitsV .and .u64 x_0 (IntKind.u64.wrap (0 - x_0))) * 285870213051353865)) 58 : Int).toNat * 1) fun v =>
      UnI v .u8 fun x12 =>
      R (.returned (.int .i64 (IntKind.i64.wrap x12))) m))
noncomputable def e0A (R : Ending → Mem → Prop) : ACode := (.code (body))
theorem e0_eq (x_0 : Int) (R : Ending → Mem → Prop) (m : Mem) : e0 x_0 R m = acpt P od (panicR R) (e0A R) (bodyQ P fn R) (argE (#[.int .u64 x_0] : Array Value).toList) m := by kernel_rfl
theorem ok (x_0 : Int) (R : Ending → Mem → Prop) (m : Mem) (h : e0 x_0 R m) : HC P id #[.int .u64 x_0] m R := by
  refine HC_of (fn := fn) (c := body) (od := od) (tb := tb) Go.Proofs.Tryd.func39 (by kernel_rfl) (by kernel_rfl) follows (by kernel_rfl) (of_decide_eq_true (by kernel_rfl)) ?_
  have he : (e0A R).erase = body := by kernel_rfl
  rw [← he]
  refine acpt_sound (P := P) (e0A R) _ _ _ True.intro ?_
  exact Eq.mp (e0_eq x_0 R m) h
end math_bits_TrailingZeros64

/-! ### eyot/class.And$1 -/
namespace class_And_1
noncomputable def fn : Func := Go.Proofs.Tryd.f40
noncomputable def body : Code := fn.body.getD .skip
def od : Nat → Ord := fun _ => .done
def tb : Nat → Tab := fun _ => (0, [], [])
def e0 (x_0 : Int) (y_1 : Int) (R : Ending → Mem → Prop) (m : Mem) : Prop :=
  R (.returned (.int .u64 (bitsV .and .u64 x_0 y_1))) m
noncomputable def e0A (R : Ending → Mem → Prop) : ACode := (.code (body))
theorem e0_eq (x_0 : Int) (y_1 : Int) (R : Ending → Mem → Prop) (m : Mem) : e0 x_0 y_1 R m = acpt P od (panicR R) (e0A R) (bodyQ P fn R) (argE (#[.int .u64 x_0, .int .u64 y_1] : Array Value).toList) m := by kernel_rfl
theorem ok (x_0 : Int) (y_1 : Int) (R : Ending → Mem → Prop) (m : Mem) (h : e0 x_0 y_1 R m) : HC P id #[.int .u64 x_0, .int .u64 y_1] m R := by
  refine HC_of (fn := fn) (c := body) (od := od) (tb := tb) Go.Proofs.Tryd.func40 (by kernel_rfl) (by kernel_rfl) follows (by kernel_rfl) (of_decide_eq_true (by kernel_rfl)) ?_
  have he : (e0A R).erase = body := by kernel_rfl
  rw [← he]
  refine acpt_sound (P := P) (e0A R) _ _ _ True.intro ?_
  exact Eq.mp (e0_eq x_0 y_1 R m) h
end class_And_1

end
end Go.E
