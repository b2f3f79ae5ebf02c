/- This project's own logic, printed forms and lemmas, as far as this claim needs them (part 5). -/
import Derived.Test.YtgjmmgjbfkodiaaDoorQRegexSpells4
set_option linter.unusedVariables false
set_option maxRecDepth 100000
namespace Go.E
open Go.H
noncomputable section
/-! ### eyot/eyotlaw9.RegexSpells -/
namespace eyotlaw9_RegexSpells
noncomputable def fn : Func := Go.Proofs.Tryd.f7
noncomputable def body : Code := fn.body.getD .skip
def od : Nat → Ord := fun | 8 => ordL [(0, 1), (1, 3), (3, 1), (4, 3), (2, 0), (5, 2), (6, 3), (7, 3)] .done | _ => .done
def tb : Nat → Tab := fun | 8 => (32, [0, 0, 3, 0, 0, 31, 63, 127], [(0, 512, 53), (0, 4, 54), (3, 13510798882111488, 55), (0, 1024, 56), (0, 8, 57), (28, 108086391056891904, 58), (39, 18014398509481984, 12), (127, 144115188075855872, 13)]) | _ => (0, [], [])
def k7E (K : Nat → Nat → Bool → Mem → Prop) : Env → Mem → Prop := fun ρ m => UnPA (ρ 13) fun x13b x13o => UnB (ρ 117) fun x117 => K x13b x13o x117 m
def k7  (x13b : Nat) (x13o : Nat) (x117 : Bool) (R : Ending → Mem → Prop) (m : Mem) : Prop :=
 Br x117 (
  LdV m x13b x13o fun v =>
  UnI v .i64 fun x118_0 =>
  LdV m x13b (x13o + 1) fun v =>
  UnI v .u64 fun x118_1 =>
  LdV m x13b (x13o + 2) fun v =>
  UnI v .u64 fun x118_2 =>
  LdV m x13b (x13o + 3) fun v =>
  UnI v .u64 fun x118_3 =>
  LdV m x13b (x13o + 4) fun v =>
  UnI v .u64 fun x118_4 =>
  LdV m x13b (x13o + 5) fun v =>
  UnS v fun x118_5a x118_5l x118_5c =>
  HC P regex_In.id #[.agg #[.int .i64 x118_0, .int .u64 x118_1, .int .u64 x118_2, .int .u64 x118_3, .int .u64 x118_4, .slice x118_5a x118_5l x118_5c], .slice none 0 0] m (Cont (fun v m1 =>
    UnB v fun x119 =>
    R (.returned (.bool (!x119))) m1) (panicR R))) (
  R (.returned (.bool false)) m)
def k6E (K : Nat → Nat → Nat → Nat → Bool → Mem → Prop) : Env → Mem → Prop := fun ρ m => UnPA (ρ 13) fun x13b x13o => UnPA (ρ 15) fun x15b x15o => UnB (ρ 113) fun x113 => K x13b x13o x15b x15o x113 m
def k6  (x13b : Nat) (x13o : Nat) (x15b : Nat) (x15o : Nat) (x113 : Bool) (R : Ending → Mem → Prop) (m : Mem) : Prop :=
 Br x113 (
  LdV m x15b x15o fun v =>
  UnI v .i64 fun x114_0 =>
  LdV m x15b (x15o + 1) fun v =>
  UnI v .u64 fun x114_1 =>
  LdV m x15b (x15o + 2) fun v =>
  UnI v .u64 fun x114_2 =>
  LdV m x15b (x15o + 3) fun v =>
  UnI v .u64 fun x114_3 =>
  LdV m x15b (x15o + 4) fun v =>
  UnI v .u64 fun x114_4 =>
  LdV m x15b (x15o + 5) fun v =>
  UnS v fun x114_5a x114_5l x114_5c =>
  HC P regex_In.id #[.agg #[.int .i64 x114_0, .int .u64 x114_1, .int .u64 x114_2, .int .u64 x114_3, .int .u64 x114_4, .slice x114_5a x114_5l x114_5c], .slice none 0 0] m (Cont (fun v m1 =>
    UnB v fun x115 =>
    k7  x13b x13o x115 R m1) (panicR R))) (
  k7  x13b x13o false R m)
def k6G (Kk7 : Nat → Nat → Bool → Mem → Prop)  (x13b : Nat) (x13o : Nat) (x15b : Nat) (x15o : Nat) (x113 : Bool) (R : Ending → Mem → Prop) (m : Mem) : Prop :=
 Br x113 (
  LdV m x15b x15o fun v =>
  UnI v .i64 fun x114_0 =>
  LdV m x15b (x15o + 1) fun v =>
  UnI v .u64 fun x114_1 =>
  LdV m x15b (x15o + 2) fun v =>
  UnI v .u64 fun x114_2 =>
  LdV m x15b (x15o + 3) fun v =>
  UnI v .u64 fun x114_3 =>
  LdV m x15b (x15o + 4) fun v =>
  UnI v .u64 fun x114_4 =>
  LdV m x15b (x15o + 5) fun v =>
  UnS v fun x114_5a x114_5l x114_5c =>
  HC P regex_In.id #[.agg #[.int .i64 x114_0, .int .u64 x114_1, .int .u64 x114_2, .int .u64 x114_3, .int .u64 x114_4, .slice x114_5a x114_5l x114_5c], .slice none 0 0] m (Cont (fun v m1 =>
    UnB v fun x115 =>
    Kk7 x13b x13o x115  m1) (panicR R))) (
  Kk7 x13b x13o false  m)
def k5E (K : Option Addr → Nat → Nat → Bool → Nat → Nat → Nat → Nat → Nat → Nat → Bool → Mem → Prop) : Env → Mem → Prop := fun ρ m => UnS (ρ 3) fun x3a x3l x3c => UnB (ρ 12) fun x12 => UnPA (ρ 13) fun x13b x13o => UnPA (ρ 14) fun x14b x14o => UnPA (ρ 15) fun x15b x15o => UnB (ρ 104) fun x104 => K x3a x3l x3c x12 x13b x13o x14b x14o x15b x15o x104 m
def k5  (x3a : Option Addr) (x3l : Nat) (x3c : Nat) (x12 : Bool) (x13b : Nat) (x13o : Nat) (x14b : Nat) (x14o : Nat) (x15b : Nat) (x15o : Nat) (x104 : Bool) (R : Ending → Mem → Prop) (m : Mem) : Prop :=
 Br x104 (
  Br (!x12) (
   k6  x13b x13o x15b x15o true R m) (
   LdV m x14b x14o fun v =>
   UnI v .i64 fun x108_0 =>
   LdV m x14b (x14o + 1) fun v =>
   UnI v .u64 fun x108_1 =>
   LdV m x14b (x14o + 2) fun v =>
   UnI v .u64 fun x108_2 =>
   LdV m x14b (x14o + 3) fun v =>
   UnI v .u64 fun x108_3 =>
   LdV m x14b (x14o + 4) fun v =>
   UnI v .u64 fun x108_4 =>
   LdV m x14b (x14o + 5) fun v =>
   UnS v fun x108_5a x108_5l x108_5c =>
   HC P regex_In.id #[.agg #[.int .i64 x108_0, .int .u64 x108_1, .int .u64 x108_2, .int .u64 x108_3, .int .u64 x108_4, .slice x108_5a x108_5l x108_5c], .slice x3a x3l x3c] m (Cont (fun v m1 =>
     UnB v fun x110 =>
     k6  x13b x13o x15b x15o x110 R m1) (panicR R)))) (
  k6  x13b x13o x15b x15o false R m)
def k5G (Kk6 : Nat → Nat → Nat → Nat → Bool → Mem → Prop)  (x3a : Option Addr) (x3l : Nat) (x3c : Nat) (x12 : Bool) (x13b : Nat) (x13o : Nat) (x14b : Nat) (x14o : Nat) (x15b : Nat) (x15o : Nat) (x104 : Bool) (R : Ending → Mem → Prop) (m : Mem) : Prop :=
 Br x104 (
  Br (!x12) (
   Kk6 x13b x13o x15b x15o true  m) (
   LdV m x14b x14o fun v =>
   UnI v .i64 fun x108_0 =>
   LdV m x14b (x14o + 1) fun v =>
   UnI v .u64 fun x108_1 =>
   LdV m x14b (x14o + 2) fun v =>
   UnI v .u64 fun x108_2 =>
   LdV m x14b (x14o + 3) fun v =>
   UnI v .u64 fun x108_3 =>
   LdV m x14b (x14o + 4) fun v =>
   UnI v .u64 fun x108_4 =>
   LdV m x14b (x14o + 5) fun v =>
   UnS v fun x108_5a x108_5l x108_5c =>
   HC P regex_In.id #[.agg #[.int .i64 x108_0, .int .u64 x108_1, .int .u64 x108_2, .int .u64 x108_3, .int .u64 x108_4, .slice x108_5a x108_5l x108_5c], .slice x3a x3l x3c] m (Cont (fun v m1 =>
     UnB v fun x110 =>
     Kk6 x13b x13o x15b x15o x110  m1) (panicR R)))) (
  Kk6 x13b x13o x15b x15o false  m)
def k4E (K : Option Addr → Nat → Nat → Option Addr → Nat → Nat → Bool → Bool → Nat → Nat → Nat → Nat → Nat → Nat → Option Addr → Nat → Nat → Bool → Mem → Prop) : Env → Mem → Prop := fun ρ m => UnS (ρ 2) fun x2a x2l x2c => UnS (ρ 3) fun x3a x3l x3c => UnB (ρ 11) fun x11 => UnB (ρ 12) fun x12 => UnPA (ρ 13) fun x13b x13o => UnPA (ρ 14) fun x14b x14o => UnPA (ρ 15) fun x15b x15o => UnS (ρ 17) fun x17a x17l x17c => UnB (ρ 90) fun x90 => K x2a x2l x2c x3a x3l x3c x11 x12 x13b x13o x14b x14o x15b x15o x17a x17l x17c x90 m
def k4  (x2a : Option Addr) (x2l : Nat) (x2c : Nat) (x3a : Option Addr) (x3l : Nat) (x3c : Nat) (x11 : Bool) (x12 : Bool) (x13b : Nat) (x13o : Nat) (x14b : Nat) (x14o : Nat) (x15b : Nat) (x15o : Nat) (x17a : Option Addr) (x17l : Nat) (x17c : Nat) (x90 : Bool) (R : Ending → Mem → Prop) (m : Mem) : Prop :=
 Br x90 (
  Br (!x11) (
   k5  x3a x3l x3c x12 x13b x13o x14b x14o x15b x15o true R m) (
   LdV m x14b x14o fun v =>
   UnI v .i64 fun x94_0 =>
   LdV m x14b (x14o + 1) fun v =>
   UnI v .u64 fun x94_1 =>
   LdV m x14b (x14o + 2) fun v =>
   UnI v .u64 fun x94_2 =>
   LdV m x14b (x14o + 3) fun v =>
   UnI v .u64 fun x94_3 =>
   LdV m x14b (x14o + 4) fun v =>
   UnI v .u64 fun x94_4 =>
   LdV m x14b (x14o + 5) fun v =>
   UnS v fun x94_5a x94_5l x94_5c =>
   HC P regex_In.id #[.agg #[.int .i64 x94_0, .int .u64 x94_1, .int .u64 x94_2, .int .u64 x94_3, .int .u64 x94_4, .slice x94_5a x94_5l x94_5c], .slice x2a x2l x2c] m (Cont (fun v m1 =>
     UnB v fun x96 =>
     Br x96 (
      LdV m1 x15b x15o fun v =>
      UnI v .i64 fun x98_0 =>
      LdV m1 x15b (x15o + 1) fun v =>
      UnI v .u64 fun x98_1 =>
      LdV m1 x15b (x15o + 2) fun v =>
      UnI v .u64 fun x98_2 =>
      LdV m1 x15b (x15o + 3) fun v =>
      UnI v .u64 fun x98_3 =>
      LdV m1 x15b (x15o + 4) fun v =>
      UnI v .u64 fun x98_4 =>
      LdV m1 x15b (x15o + 5) fun v =>
      UnS v fun x98_5a x98_5l x98_5c =>
      HC P regex_In.id #[.agg #[.int .i64 x98_0, .int .u64 x98_1, .int .u64 x98_2, .int .u64 x98_3, .int .u64 x98_4, .slice x98_5a x98_5l x98_5c], .slice x17a x17l x17c] m1 (Cont (fun v m2 =>
        UnB v fun x100 =>
        k5  x3a x3l x3c x12 x13b x13o x14b x14o x15b x15o x100 R m2) (panicR R))) (
      k5  x3a x3l x3c x12 x13b x13o x14b x14o x15b x15o false R m1)) (panicR R)))) (
  k5  x3a x3l x3c x12 x13b x13o x14b x14o x15b x15o false R m)
def k4G (Kk5 : Option Addr → Nat → Nat → Bool → Nat → Nat → Nat → Nat → Nat → Nat → Bool → Mem → Prop)  (x2a : Option Addr) (x2l : Nat) (x2c : Nat) (x3a : Option Addr) (x3l : Nat) (x3c : Nat) (x11 : Bool) (x12 : Bool) (x13b : Nat) (x13o : Nat) (x14b : Nat) (x14o : Nat) (x15b : Nat) (x15o : Nat) (x17a : Option Addr) (x17l : Nat) (x17c : Nat) (x90 : Bool) (R : Ending → Mem → Prop) (m : Mem) : Prop :=
 Br x90 (
  Br (!x11) (
   Kk5 x3a x3l x3c x12 x13b x13o x14b x14o x15b x15o true  m) (
   LdV m x14b x14o fun v =>
   UnI v .i64 fun x94_0 =>
   LdV m x14b (x14o + 1) fun v =>
   UnI v .u64 fun x94_1 =>
   LdV m x14b (x14o + 2) fun v =>
   UnI v .u64 fun x94_2 =>
   LdV m x14b (x14o + 3) fun v =>
   UnI v .u64 fun x94_3 =>
   LdV m x14b (x14o + 4) fun v =>
   UnI v .u64 fun x94_4 =>
   LdV m x14b (x14o + 5) fun v =>
   UnS v fun x94_5a x94_5l x94_5c =>
   HC P regex_In.id #[.agg #[.int .i64 x94_0, .int .u64 x94_1, .int .u64 x94_2, .int .u64 x94_3, .int .u64 x94_4, .slice x94_5a x94_5l x94_5c], .slice x2a x2l x2c] m (Cont (fun v m1 =>
     UnB v fun x96 =>
     Br x96 (
      LdV m1 x15b x15o fun v =>
      UnI v .i64 fun x98_0 =>
      LdV m1 x15b (x15o + 1) fun v =>
      UnI v .u64 fun x98_1 =>
      LdV m1 x15b (x15o + 2) fun v =>
      UnI v .u64 fun x98_2 =>
      LdV m1 x15b (x15o + 3) fun v =>
      UnI v .u64 fun x98_3 =>
      LdV m1 x15b (x15o + 4) fun v =>
      UnI v .u64 fun x98_4 =>
      LdV m1 x15b (x15o + 5) fun v =>
      UnS v fun x98_5a x98_5l x98_5c =>
      HC P regex_In.id #[.agg #[.int .i64 x98_0, .int .u64 x98_1, .int .u64 x98_2, .int .u64 x98_3, .int .u64 x98_4, .slice x98_5a x98_5l x98_5c], .slice x17a x17l x17c] m1 (Cont (fun v m2 =>
        UnB v fun x100 =>
        Kk5 x3a x3l x3c x12 x13b x13o x14b x14o x15b x15o x100  m2) (panicR R))) (
      Kk5 x3a x3l x3c x12 x13b x13o x14b x14o x15b x15o false  m1)) (panicR R)))) (
  Kk5 x3a x3l x3c x12 x13b x13o x14b x14o x15b x15o false  m)
def k3E (K : Option Addr → Nat → Nat → Option Addr → Nat → Nat → Option Addr → Nat → Nat → Option Addr → Nat → Nat → Bool → Mem → Prop) : Env → Mem → Prop := fun ρ m => UnS (ρ 0) fun x0a x0l x0c => UnS (ρ 1) fun x1a x1l x1c => UnS (ρ 2) fun x2a x2l x2c => UnS (ρ 3) fun x3a x3l x3c => UnB (ρ 33) fun x33 => K x0a x0l x0c x1a x1l x1c x2a x2l x2c x3a x3l x3c x33 m
def k3  (x0a : Option Addr) (x0l : Nat) (x0c : Nat) (x1a : Option Addr) (x1l : Nat) (x1c : Nat) (x2a : Option Addr) (x2l : Nat) (x2c : Nat) (x3a : Option Addr) (x3l : Nat) (x3c : Nat) (x33 : Bool) (R : Ending → Mem → Prop) (m : Mem) : Prop :=
 Br x33 (
  R (.returned (.bool true)) m) (
  Br (decide (((x3l : Nat) : Int) > 6)) (
   R (.returned (.bool true)) m) (
   HC P eyotplay_Made.id #[.slice x0a x0l x0c] m (Cont (fun v m1 =>
     UnP v fun x39 =>
     HC P eyotplay_Picks_Rx.id #[.pointer x39, .int .i64 1] m1 (Cont (fun v m2 =>
       UnAgg v fun l =>
       UnCons l fun v l =>
       UnI v .i64 fun x40_0 =>
       UnCons l fun v l =>
       UnI v .u64 fun x40_1 =>
       UnCons l fun v l =>
       UnI v .u64 fun x40_2 =>
       UnCons l fun v l =>
       UnI v .u64 fun x40_3 =>
       UnCons l fun v l =>
       UnI v .u64 fun x40_4 =>
       UnCons l fun v l =>
       UnS v fun x40_5a x40_5l x40_5c =>
       UnNil l (
        HC P eyotplay_Made.id #[.slice x1a x1l x1c] m2 (Cont (fun v m3 =>
        UnP v fun x42 =>
        HC P eyotplay_Picks_Rx.id #[.pointer x42, .int .i64 1] m3 (Cont (fun v m4 =>
        UnAgg v fun l =>
        UnCons l fun v l =>
        UnI v .i64 fun x43_0 =>
        UnCons l fun v l =>
        UnI v .u64 fun x43_1 =>
        UnCons l fun v l =>
        UnI v .u64 fun x43_2 =>
        UnCons l fun v l =>
        UnI v .u64 fun x43_3 =>
        UnCons l fun v l =>
        UnI v .u64 fun x43_4 =>
        UnCons l fun v l =>
        UnS v fun x43_5a x43_5l x43_5c =>
        UnNil l (
        NewC m4 #[.int .i64 0, .int .u64 0, .int .u64 0, .int .u64 0, .int .u64 0, .slice none 0 0] T_api_Rx fun b9 m5 =>
        NewC m5 #[.int .i64 0, .int .u64 0, .int .u64 0, .int .u64 0, .int .u64 0, .slice none 0 0] T_api_Rx fun b10 m6 =>
        St1 m6 b9 0 (.int .i64 x40_0) fun m7 =>
        St1 m7 b9 1 (.int .u64 x40_1) fun m8 =>
        St1 m8 b9 2 (.int .u64 x40_2) fun m9 =>
        St1 m9 b9 3 (.int .u64 x40_3) fun m10 =>
        St1 m10 b9 4 (.int .u64 x40_4) fun m11 =>
        St1 m11 b9 5 (.slice x40_5a x40_5l x40_5c) fun m12 =>
        St1 m12 b10 0 (.int .i64 x43_0) fun m13 =>
        St1 m13 b10 1 (.int .u64 x43_1) fun m14 =>
        St1 m14 b10 2 (.int .u64 x43_2) fun m15 =>
        St1 m15 b10 3 (.int .u64 x43_3) fun m16 =>
        St1 m16 b10 4 (.int .u64 x43_4) fun m17 =>
        St1 m17 b10 5 (.slice x43_5a x43_5l x43_5c) fun m18 =>
        LdV m18 b9 0 fun v =>
        UnI v .i64 fun x45 =>
        Br (decide (x45 > 1)) (
        R (.returned (.bool true)) m18) (
        LdV m18 b10 0 fun v =>
        UnI v .i64 fun x49 =>
        Br (decide (x49 > 1)) (
        R (.returned (.bool true)) m18) (
        Sub m18 fun r19 =>
        LdV r19 b9 0 fun v =>
        UnI v .i64 fun x52_0 =>
        LdV r19 b9 1 fun v =>
        UnI v .u64 fun x52_1 =>
        LdV r19 b9 2 fun v =>
        UnI v .u64 fun x52_2 =>
        LdV r19 b9 3 fun v =>
        UnI v .u64 fun x52_3 =>
        LdV r19 b9 4 fun v =>
        UnI v .u64 fun x52_4 =>
        LdV r19 b9 5 fun v =>
        UnS v fun x52_5a x52_5l x52_5c =>
        LdV r19 b10 0 fun v =>
        UnI v .i64 fun x55_0 =>
        LdV r19 b10 1 fun v =>
        UnI v .u64 fun x55_1 =>
        LdV r19 b10 2 fun v =>
        UnI v .u64 fun x55_2 =>
        LdV r19 b10 3 fun v =>
        UnI v .u64 fun x55_3 =>
        LdV r19 b10 4 fun v =>
        UnI v .u64 fun x55_4 =>
        LdV r19 b10 5 fun v =>
        UnS v fun x55_5a x55_5l x55_5c =>
        HC P regex_In.id #[.agg #[.int .i64 x52_0, .int .u64 x52_1, .int .u64 x52_2, .int .u64 x52_3, .int .u64 x52_4, .slice x52_5a x52_5l x52_5c], .slice x2a x2l x2c] m18 (Cont (fun v m20 =>
        UnB v fun x54 =>
        Lk r19 m20 fun r21 =>
        HC P regex_In.id #[.agg #[.int .i64 x55_0, .int .u64 x55_1, .int .u64 x55_2, .int .u64 x55_3, .int .u64 x55_4, .slice x55_5a x55_5l x55_5c], .slice x3a x3l x3c] m20 (Cont (fun v m22 =>
        UnB v fun x57 =>
        LdV m22 b9 0 fun v =>
        UnI v .i64 fun x58_0 =>
        LdV m22 b9 1 fun v =>
        UnI v .u64 fun x58_1 =>
        LdV m22 b9 2 fun v =>
        UnI v .u64 fun x58_2 =>
        LdV m22 b9 3 fun v =>
        UnI v .u64 fun x58_3 =>
        LdV m22 b9 4 fun v =>
        UnI v .u64 fun x58_4 =>
        LdV m22 b9 5 fun v =>
        UnS v fun x58_5a x58_5l x58_5c =>
        LdV m22 b10 0 fun v =>
        UnI v .i64 fun x59_0 =>
        LdV m22 b10 1 fun v =>
        UnI v .u64 fun x59_1 =>
        LdV m22 b10 2 fun v =>
        UnI v .u64 fun x59_2 =>
        LdV m22 b10 3 fun v =>
        UnI v .u64 fun x59_3 =>
        LdV m22 b10 4 fun v =>
        UnI v .u64 fun x59_4 =>
        LdV m22 b10 5 fun v =>
        UnS v fun x59_5a x59_5l x59_5c =>
        NewC m22 #[.int .i64 x58_0, .int .u64 x58_1, .int .u64 x58_2, .int .u64 x58_3, .int .u64 x58_4, .slice x58_5a x58_5l x58_5c, .int .i64 x59_0, .int .u64 x59_1, .int .u64 x59_2, .int .u64 x59_3, .int .u64 x59_4, .slice x59_5a x59_5l x59_5c] T_api_Rx fun b60 m23 =>
        NewC m23 #[.int .i64 0, .int .u64 0, .int .u64 0, .int .u64 0, .int .u64 0, .slice none 0 0] T_api_Rx fun b13 m24 =>
        St1 m24 b13 0 (.int .i64 2) fun m25 =>
        St1 m25 b13 1 (.int .u64 0) fun m26 =>
        St1 m26 b13 2 (.int .u64 0) fun m27 =>
        St1 m27 b13 3 (.int .u64 0) fun m28 =>
        St1 m28 b13 4 (.int .u64 0) fun m29 =>
        St1 m29 b13 5 (.slice (some ⟨b60, 0, none⟩) 2 2) fun m30 =>
        LdV m30 b9 0 fun v =>
        UnI v .i64 fun x62_0 =>
        LdV m30 b9 1 fun v =>
        UnI v .u64 fun x62_1 =>
        LdV m30 b9 2 fun v =>
        UnI v .u64 fun x62_2 =>
        LdV m30 b9 3 fun v =>
        UnI v .u64 fun x62_3 =>
        LdV m30 b9 4 fun v =>
        UnI v .u64 fun x62_4 =>
        LdV m30 b9 5 fun v =>
        UnS v fun x62_5a x62_5l x62_5c =>
        LdV m30 b10 0 fun v =>
        UnI v .i64 fun x63_0 =>
        LdV m30 b10 1 fun v =>
        UnI v .u64 fun x63_1 =>
        LdV m30 b10 2 fun v =>
        UnI v .u64 fun x63_2 =>
        LdV m30 b10 3 fun v =>
        UnI v .u64 fun x63_3 =>
        LdV m30 b10 4 fun v =>
        UnI v .u64 fun x63_4 =>
        LdV m30 b10 5 fun v =>
        UnS v fun x63_5a x63_5l x63_5c =>
        NewC m30 #[.int .i64 x62_0, .int .u64 x62_1, .int .u64 x62_2, .int .u64 x62_3, .int .u64 x62_4, .slice x62_5a x62_5l x62_5c, .int .i64 x63_0, .int .u64 x63_1, .int .u64 x63_2, .int .u64 x63_3, .int .u64 x63_4, .slice x63_5a x63_5l x63_5c] T_api_Rx fun b64 m31 =>
        NewC m31 #[.int .i64 0, .int .u64 0, .int .u64 0, .int .u64 0, .int .u64 0, .slice none 0 0] T_api_Rx fun b14 m32 =>
        St1 m32 b14 0 (.int .i64 3) fun m33 =>
        St1 m33 b14 1 (.int .u64 0) fun m34 =>
        St1 m34 b14 2 (.int .u64 0) fun m35 =>
        St1 m35 b14 3 (.int .u64 0) fun m36 =>
        St1 m36 b14 4 (.int .u64 0) fun m37 =>
        St1 m37 b14 5 (.slice (some ⟨b64, 0, none⟩) 2 2) fun m38 =>
        LdV m38 b9 0 fun v =>
        UnI v .i64 fun x66_0 =>
        LdV m38 b9 1 fun v =>
        UnI v .u64 fun x66_1 =>
        LdV m38 b9 2 fun v =>
        UnI v .u64 fun x66_2 =>
        LdV m38 b9 3 fun v =>
        UnI v .u64 fun x66_3 =>
        LdV m38 b9 4 fun v =>
        UnI v .u64 fun x66_4 =>
        LdV m38 b9 5 fun v =>
        UnS v fun x66_5a x66_5l x66_5c =>
        NewC m38 #[.int .i64 x66_0, .int .u64 x66_1, .int .u64 x66_2, .int .u64 x66_3, .int .u64 x66_4, .slice x66_5a x66_5l x66_5c] T_api_Rx fun b67 m39 =>
        NewC m39 #[.int .i64 0, .int .u64 0, .int .u64 0, .int .u64 0, .int .u64 0, .slice none 0 0] T_api_Rx fun b15 m40 =>
        St1 m40 b15 0 (.int .i64 4) fun m41 =>
        St1 m41 b15 1 (.int .u64 0) fun m42 =>
        St1 m42 b15 2 (.int .u64 0) fun m43 =>
        St1 m43 b15 3 (.int .u64 0) fun m44 =>
        St1 m44 b15 4 (.int .u64 0) fun m45 =>
        St1 m45 b15 5 (.slice (some ⟨b67, 0, none⟩) 1 1) fun m46 =>
        NewC m46 #[] T_uint8 fun b69 m47 =>
        BiN P .append #[T_sl_uint8, T_sl_uint8] T_sl_uint8 #[false, false] #[.slice (some ⟨b69, 0, none⟩) 0 0, .slice x2a x2l x2c] m47 (fun w m48 =>
        UnS w fun x71a x71l x71c =>
        BiN P .append #[T_sl_uint8, T_sl_uint8] T_sl_uint8 #[false, false] #[.slice x71a x71l x71c, .slice x3a x3l x3c] m48 (fun w m49 =>
        UnS w fun x73a x73l x73c =>
        NewC m49 #[] T_uint8 fun b74 m50 =>
        BiN P .append #[T_sl_uint8, T_sl_uint8] T_sl_uint8 #[false, false] #[.slice (some ⟨b74, 0, none⟩) 0 0, .slice x2a x2l x2c] m50 (fun w m51 =>
        UnS w fun x76a x76l x76c =>
        BiN P .append #[T_sl_uint8, T_sl_uint8] T_sl_uint8 #[false, false] #[.slice x76a x76l x76c, .slice x2a x2l x2c] m51 (fun w m52 =>
        UnS w fun x78a x78l x78c =>
        Br (!x54) (
        k4  x2a x2l x2c x3a x3l x3c x54 x57 b13 0 b14 0 b15 0 x78a x78l x78c true R m52) (
        Br (!x57) (
        k4  x2a x2l x2c x3a x3l x3c x54 x57 b13 0 b14 0 b15 0 x78a x78l x78c true R m52) (
        LdV m52 b13 0 fun v =>
        UnI v .i64 fun x86_0 =>
        LdV m52 b13 1 fun v =>
        UnI v .u64 fun x86_1 =>
        LdV m52 b13 2 fun v =>
        UnI v .u64 fun x86_2 =>
        LdV m52 b13 3 fun v =>
        UnI v .u64 fun x86_3 =>
        LdV m52 b13 4 fun v =>
        UnI v .u64 fun x86_4 =>
        LdV m52 b13 5 fun v =>
        UnS v fun x86_5a x86_5l x86_5c =>
        HC P regex_In.id #[.agg #[.int .i64 x86_0, .int .u64 x86_1, .int .u64 x86_2, .int .u64 x86_3, .int .u64 x86_4, .slice x86_5a x86_5l x86_5c], .slice x73a x73l x73c] m52 (Cont (fun v m53 =>
        UnB v fun x88 =>
        k4  x2a x2l x2c x3a x3l x3c x54 x57 b13 0 b14 0 b15 0 x78a x78l x78c x88 R m53) (panicR R))))) (panicR R)) (panicR R)) (panicR R)) (panicR R)) (panicR R))) (panicR R)))))) (panicR R))) (panicR R)))) (panicR R))) (panicR R))))
def k3G (Kk4 : Option Addr → Nat → Nat → Option Addr → Nat → Nat → Bool → Bool → Nat → Nat → Nat → Nat → Nat → Nat → Option Addr → Nat → Nat → Bool → Mem → Prop)  (x0a : Option Addr) (x0l : Nat) (x0c : Nat) (x1a : Option Addr) (x1l : Nat) (x1c : Nat) (x2a : Option Addr) (x2l : Nat) (x2c : Nat) (x3a : Option Addr) (x3l : Nat) (x3c : Nat) (x33 : Bool) (R : Ending → Mem → Prop) (m : Mem) : Prop :=
 Br x33 (
  R (.returned (.bool true)) m) (
  Br (decide (((x3l : Nat) : Int) > 6)) (
   R (.returned (.bool true)) m) (
   HC P eyotplay_Made.id #[.slice x0a x0l x0c] m (Cont (fun v m1 =>
     UnP v fun x39 =>
     HC P eyotplay_Picks_Rx.id #[.pointer x39, .int .i64 1] m1 (Cont (fun v m2 =>
       UnAgg v fun l =>
       UnCons l fun v l =>
       UnI v .i64 fun x40_0 =>
       UnCons l fun v l =>
       UnI v .u64 fun x40_1 =>
       UnCons l fun v l =>
       UnI v .u64 fun x40_2 =>
       UnCons l fun v l =>
       UnI v .u64 fun x40_3 =>
       UnCons l fun v l =>
       UnI v .u64 fun x40_4 =>
       UnCons l fun v l =>
       UnS v fun x40_5a x40_5l x40_5c =>
       UnNil l (
        HC P eyotplay_Made.id #[.slice x1a x1l x1c] m2 (Cont (fun v m3 =>
        UnP v fun x42 =>
        HC P eyotplay_Picks_Rx.id #[.pointer x42, .int .i64 1] m3 (Cont (fun v m4 =>
        UnAgg v fun l =>
        UnCons l fun v l =>
        UnI v .i64 fun x43_0 =>
        UnCons l fun v l =>
        UnI v .u64 fun x43_1 =>
        UnCons l fun v l =>
        UnI v .u64 fun x43_2 =>
        UnCons l fun v l =>
        UnI v .u64 fun x43_3 =>
        UnCons l fun v l =>
        UnI v .u64 fun x43_4 =>
        UnCons l fun v l =>
        UnS v fun x43_5a x43_5l x43_5c =>
        UnNil l (
        NewC m4 #[.int .i64 0, .int .u64 0, .int .u64 0, .int .u64 0, .int .u64 0, .slice none 0 0] T_api_Rx fun b9 m5 =>
        NewC m5 #[.int .i64 0, .int .u64 0, .int .u64 0, .int .u64 0, .int .u64 0, .slice none 0 0] T_api_Rx fun b10 m6 =>
        St1 m6 b9 0 (.int .i64 x40_0) fun m7 =>
        St1 m7 b9 1 (.int .u64 x40_1) fun m8 =>
        St1 m8 b9 2 (.int .u64 x40_2) fun m9 =>
        St1 m9 b9 3 (.int .u64 x40_3) fun m10 =>
        St1 m10 b9 4 (.int .u64 x40_4) fun m11 =>
        St1 m11 b9 5 (.slice x40_5a x40_5l x40_5c) fun m12 =>
        St1 m12 b10 0 (.int .i64 x43_0) fun m13 =>
        St1 m13 b10 1 (.int .u64 x43_1) fun m14 =>
        St1 m14 b10 2 (.int .u64 x43_2) fun m15 =>
        St1 m15 b10 3 (.int .u64 x43_3) fun m16 =>
        St1 m16 b10 4 (.int .u64 x43_4) fun m17 =>
        St1 m17 b10 5 (.slice x43_5a x43_5l x43_5c) fun m18 =>
        LdV m18 b9 0 fun v =>
        UnI v .i64 fun x45 =>
        Br (decide (x45 > 1)) (
        R (.returned (.bool true)) m18) (
        LdV m18 b10 0 fun v =>
        UnI v .i64 fun x49 =>
        Br (decide (x49 > 1)) (
        R (.returned (.bool true)) m18) (
        Sub m18 fun r19 =>
        LdV r19 b9 0 fun v =>
        UnI v .i64 fun x52_0 =>
        LdV r19 b9 1 fun v =>
        UnI v .u64 fun x52_1 =>
        LdV r19 b9 2 fun v =>
        UnI v .u64 fun x52_2 =>
        LdV r19 b9 3 fun v =>
        UnI v .u64 fun x52_3 =>
        LdV r19 b9 4 fun v =>
        UnI v .u64 fun x52_4 =>
        LdV r19 b9 5 fun v =>
        UnS v fun x52_5a x52_5l x52_5c =>
        LdV r19 b10 0 fun v =>
        UnI v .i64 fun x55_0 =>
        LdV r19 b10 1 fun v =>
        UnI v .u64 fun x55_1 =>
        LdV r19 b10 2 fun v =>
        UnI v .u64 fun x55_2 =>
        LdV r19 b10 3 fun v =>
        UnI v .u64 fun x55_3 =>
        LdV r19 b10 4 fun v =>
        UnI v .u64 fun x55_4 =>
        LdV r19 b10 5 fun v =>
        UnS v fun x55_5a x55_5l x55_5c =>
        HC P regex_In.id #[.agg #[.int .i64 x52_0, .int .u64 x52_1, .int .u64 x52_2, .int .u64 x52_3, .int .u64 x52_4, .slice x52_5a x52_5l x52_5c], .slice x2a x2l x2c] m18 (Cont (fun v m20 =>
        UnB v fun x54 =>
        Lk r19 m20 fun r21 =>
        HC P regex_In.id #[.agg #[.int .i64 x55_0, .int .u64 x55_1, .int .u64 x55_2, .int .u64 x55_3, .int .u64 x55_4, .slice x55_5a x55_5l x55_5c], .slice x3a x3l x3c] m20 (Cont (fun v m22 =>
        UnB v fun x57 =>
        LdV m22 b9 0 fun v =>
        UnI v .i64 fun x58_0 =>
        LdV m22 b9 1 fun v =>
        UnI v .u64 fun x58_1 =>
        LdV m22 b9 2 fun v =>
        UnI v .u64 fun x58_2 =>
        LdV m22 b9 3 fun v =>
        UnI v .u64 fun x58_3 =>
        LdV m22 b9 4 fun v =>
        UnI v .u64 fun x58_4 =>
        LdV m22 b9 5 fun v =>
        UnS v fun x58_5a x58_5l x58_5c =>
        LdV m22 b10 0 fun v =>
        UnI v .i64 fun x59_0 =>
        LdV m22 b10 1 fun v =>
        UnI v .u64 fun x59_1 =>
        LdV m22 b10 2 fun v =>
        UnI v .u64 fun x59_2 =>
        LdV m22 b10 3 fun v =>
        UnI v .u64 fun x59_3 =>
        LdV m22 b10 4 fun v =>
        UnI v .u64 fun x59_4 =>
        LdV m22 b10 5 fun v =>
        UnS v fun x59_5a x59_5l x59_5c =>
        NewC m22 #[.int .i64 x58_0, .int .u64 x58_1, .int .u64 x58_2, .int .u64 x58_3, .int .u64 x58_4, .slice x58_5a x58_5l x58_5c, .int .i64 x59_0, .int .u64 x59_1, .int .u64 x59_2, .int .u64 x59_3, .int .u64 x59_4, .slice x59_5a x59_5l x59_5c] T_api_Rx fun b60 m23 =>
        NewC m23 #[.int .i64 0, .int .u64 0, .int .u64 0, .int .u64 0, .int .u64 0, .slice none 0 0] T_api_Rx fun b13 m24 =>
        St1 m24 b13 0 (.int .i64 2) fun m25 =>
        St1 m25 b13 1 (.int .u64 0) fun m26 =>
        St1 m26 b13 2 (.int .u64 0) fun m27 =>
        St1 m27 b13 3 (.int .u64 0) fun m28 =>
        St1 m28 b13 4 (.int .u64 0) fun m29 =>
        St1 m29 b13 5 (.slice (some ⟨b60, 0, none⟩) 2 2) fun m30 =>
        LdV m30 b9 0 fun v =>
        UnI v .i64 fun x62_0 =>
        LdV m30 b9 1 fun v =>
        UnI v .u64 fun x62_1 =>
        LdV m30 b9 2 fun v =>
        UnI v .u64 fun x62_2 =>
        LdV m30 b9 3 fun v =>
        UnI v .u64 fun x62_3 =>
        LdV m30 b9 4 fun v =>
        UnI v .u64 fun x62_4 =>
        LdV m30 b9 5 fun v =>
        UnS v fun x62_5a x62_5l x62_5c =>
        LdV m30 b10 0 fun v =>
        UnI v .i64 fun x63_0 =>
        LdV m30 b10 1 fun v =>
        UnI v .u64 fun x63_1 =>
        LdV m30 b10 2 fun v =>
        UnI v .u64 fun x63_2 =>
        LdV m30 b10 3 fun v =>
        UnI v .u64 fun x63_3 =>
        LdV m30 b10 4 fun v =>
        UnI v .u64 fun x63_4 =>
        LdV m30 b10 5 fun v =>
        UnS v fun x63_5a x63_5l x63_5c =>
        NewC m30 #[.int .i64 x62_0, .int .u64 x62_1, .int .u64 x62_2, .int .u64 x62_3, .int .u64 x62_4, .slice x62_5a x62_5l x62_5c, .int .i64 x63_0, .int .u64 x63_1, .int .u64 x63_2, .int .u64 x63_3, .int .u64 x63_4, .slice x63_5a x63_5l x63_5c] T_api_Rx fun b64 m31 =>
        NewC m31 #[.int .i64 0, .int .u64 0, .int .u64 0, .int .u64 0, .int .u64 0, .slice none 0 0] T_api_Rx fun b14 m32 =>
        St1 m32 b14 0 (.int .i64 3) fun m33 =>
        St1 m33 b14 1 (.int .u64 0) fun m34 =>
        St1 m34 b14 2 (.int .u64 0) fun m35 =>
        St1 m35 b14 3 (.int .u64 0) fun m36 =>
        St1 m36 b14 4 (.int .u64 0) fun m37 =>
        St1 m37 b14 5 (.slice (some ⟨b64, 0, none⟩) 2 2) fun m38 =>
        LdV m38 b9 0 fun v =>
        UnI v .i64 fun x66_0 =>
        LdV m38 b9 1 fun v =>
        UnI v .u64 fun x66_1 =>
        LdV m38 b9 2 fun v =>
        UnI v .u64 fun x66_2 =>
        LdV m38 b9 3 fun v =>
        UnI v .u64 fun x66_3 =>
        LdV m38 b9 4 fun v =>
        UnI v .u64 fun x66_4 =>
        LdV m38 b9 5 fun v =>
        UnS v fun x66_5a x66_5l x66_5c =>
        NewC m38 #[.int .i64 x66_0, .int .u64 x66_1, .int .u64 x66_2, .int .u64 x66_3, .int .u64 x66_4, .slice x66_5a x66_5l x66_5c] T_api_Rx fun b67 m39 =>
        NewC m39 #[.int .i64 0, .int .u64 0, .int .u64 0, .int .u64 0, .int .u64 0, .slice none 0 0] T_api_Rx fun b15 m40 =>
        St1 m40 b15 0 (.int .i64 4) fun m41 =>
        St1 m41 b15 1 (.int .u64 0) fun m42 =>
        St1 m42 b15 2 (.int .u64 0) fun m43 =>
        St1 m43 b15 3 (.int .u64 0) fun m44 =>
        St1 m44 b15 4 (.int .u64 0) fun m45 =>
        St1 m45 b15 5 (.slice (some ⟨b67, 0, none⟩) 1 1) fun m46 =>
        NewC m46 #[] T_uint8 fun b69 m47 =>
        BiN P .append #[T_sl_uint8, T_sl_uint8] T_sl_uint8 #[false, false] #[.slice (some ⟨b69, 0, none⟩) 0 0, .slice x2a x2l x2c] m47 (fun w m48 =>
        UnS w fun x71a x71l x71c =>
        BiN P .append #[T_sl_uint8, T_sl_uint8] T_sl_uint8 #[false, false] #[.slice x71a x71l x71c, .slice x3a x3l x3c] m48 (fun w m49 =>
        UnS w fun x73a x73l x73c =>
        NewC m49 #[] T_uint8 fun b74 m50 =>
        BiN P .append #[T_sl_uint8, T_sl_uint8] T_sl_uint8 #[false, false] #[.slice (some ⟨b74, 0, none⟩) 0 0, .slice x2a x2l x2c] m50 (fun w m51 =>
        UnS w fun x76a x76l x76c =>
        BiN P .append #[T_sl_uint8, T_sl_uint8] T_sl_uint8 #[false, false] #[.slice x76a x76l x76c, .slice x2a x2l x2c] m51 (fun w m52 =>
        UnS w fun x78a x78l x78c =>
        Br (!x54) (
        Kk4 x2a x2l x2c x3a x3l x3c x54 x57 b13 0 b14 0 b15 0 x78a x78l x78c true  m52) (
        Br (!x57) (
        Kk4 x2a x2l x2c x3a x3l x3c x54 x57 b13 0 b14 0 b15 0 x78a x78l x78c true  m52) (
        LdV m52 b13 0 fun v =>
        UnI v .i64 fun x86_0 =>
        LdV m52 b13 1 fun v =>
        UnI v .u64 fun x86_1 =>
        LdV m52 b13 2 fun v =>
        UnI v .u64 fun x86_2 =>
        LdV m52 b13 3 fun v =>
        UnI v .u64 fun x86_3 =>
        LdV m52 b13 4 fun v =>
        UnI v .u64 fun x86_4 =>
        LdV m52 b13 5 fun v =>
        UnS v fun x86_5a x86_5l x86_5c =>
        HC P regex_In.id #[.agg #[.int .i64 x86_0, .int .u64 x86_1, .int .u64 x86_2, .int .u64 x86_3, .int .u64 x86_4, .slice x86_5a x86_5l x86_5c], .slice x73a x73l x73c] m52 (Cont (fun v m53 =>
        UnB v fun x88 =>
        Kk4 x2a x2l x2c x3a x3l x3c x54 x57 b13 0 b14 0 b15 0 x78a x78l x78c x88  m53) (panicR R))))) (panicR R)) (panicR R)) (panicR R)) (panicR R)) (panicR R))) (panicR R)))))) (panicR R))) (panicR R)))) (panicR R))) (panicR R))))
def k2E (K : Option Addr → Nat → Nat → Option Addr → Nat → Nat → Option Addr → Nat → Nat → Option Addr → Nat → Nat → Bool → Mem → Prop) : Env → Mem → Prop := fun ρ m => UnS (ρ 0) fun x0a x0l x0c => UnS (ρ 1) fun x1a x1l x1c => UnS (ρ 2) fun x2a x2l x2c => UnS (ρ 3) fun x3a x3l x3c => UnB (ρ 28) fun x28 => K x0a x0l x0c x1a x1l x1c x2a x2l x2c x3a x3l x3c x28 m
def k2  (x0a : Option Addr) (x0l : Nat) (x0c : Nat) (x1a : Option Addr) (x1l : Nat) (x1c : Nat) (x2a : Option Addr) (x2l : Nat) (x2c : Nat) (x3a : Option Addr) (x3l : Nat) (x3c : Nat) (x28 : Bool) (R : Ending → Mem → Prop) (m : Mem) : Prop :=
 Br x28 (
  k3  x0a x0l x0c x1a x1l x1c x2a x2l x2c x3a x3l x3c true R m) (
  k3  x0a x0l x0c x1a x1l x1c x2a x2l x2c x3a x3l x3c (decide (((x2l : Nat) : Int) > 6)) R m)
def k2G (Kk3 : Option Addr → Nat → Nat → Option Addr → Nat → Nat → Option Addr → Nat → Nat → Option Addr → Nat → Nat → Bool → Mem → Prop)  (x0a : Option Addr) (x0l : Nat) (x0c : Nat) (x1a : Option Addr) (x1l : Nat) (x1c : Nat) (x2a : Option Addr) (x2l : Nat) (x2c : Nat) (x3a : Option Addr) (x3l : Nat) (x3c : Nat) (x28 : Bool) (R : Ending → Mem → Prop) (m : Mem) : Prop :=
 Br x28 (
  Kk3 x0a x0l x0c x1a x1l x1c x2a x2l x2c x3a x3l x3c true  m) (
  Kk3 x0a x0l x0c x1a x1l x1c x2a x2l x2c x3a x3l x3c (decide (((x2l : Nat) : Int) > 6))  m)
def k1E (K : Option Addr → Nat → Nat → Option Addr → Nat → Nat → Option Addr → Nat → Nat → Option Addr → Nat → Nat → Bool → Mem → Prop) : Env → Mem → Prop := fun ρ m => UnS (ρ 0) fun x0a x0l x0c => UnS (ρ 1) fun x1a x1l x1c => UnS (ρ 2) fun x2a x2l x2c => UnS (ρ 3) fun x3a x3l x3c => UnB (ρ 23) fun x23 => K x0a x0l x0c x1a x1l x1c x2a x2l x2c x3a x3l x3c x23 m
def k1  (x0a : Option Addr) (x0l : Nat) (x0c : Nat) (x1a : Option Addr) (x1l : Nat) (x1c : Nat) (x2a : Option Addr) (x2l : Nat) (x2c : Nat) (x3a : Option Addr) (x3l : Nat) (x3c : Nat) (x23 : Bool) (R : Ending → Mem → Prop) (m : Mem) : Prop :=
 Br x23 (
  k2  x0a x0l x0c x1a x1l x1c x2a x2l x2c x3a x3l x3c true R m) (
  k2  x0a x0l x0c x1a x1l x1c x2a x2l x2c x3a x3l x3c (decide (((x1l : Nat) : Int) > 20)) R m)
def k1G (Kk2 : Option Addr → Nat → Nat → Option Addr → Nat → Nat → Option Addr → Nat → Nat → Option Addr → Nat → Nat → Bool → Mem → Prop)  (x0a : Option Addr) (x0l : Nat) (x0c : Nat) (x1a : Option Addr) (x1l : Nat) (x1c : Nat) (x2a : Option Addr) (x2l : Nat) (x2c : Nat) (x3a : Option Addr) (x3l : Nat) (x3c : Nat) (x23 : Bool) (R : Ending → Mem → Prop) (m : Mem) : Prop :=
 Br x23 (
  Kk2 x0a x0l x0c x1a x1l x1c x2a x2l x2c x3a x3l x3c true  m) (
  Kk2 x0a x0l x0c x1a x1l x1c x2a x2l x2c x3a x3l x3c (decide (((x1l : Nat) : Int) > 20))  m)
def e0 (a0a : Option Addr) (a0l : Nat) (a0c : Nat) (a1a : Option Addr) (a1l : Nat) (a1c : Nat) (a2a : Option Addr) (a2l : Nat) (a2c : Nat) (a3a : Option Addr) (a3l : Nat) (a3c : Nat) (R : Ending → Mem → Prop) (m : Mem) : Prop :=
 HC P eyotlaw9_begun.id #[] m (Cont (fun v m1 =>
   UnB v fun x18 =>
   Br (!x18) (
    R (.returned (.bool false)) m1) (
    k1  a0a a0l a0c a1a a1l a1c a2a a2l a2c a3a a3l a3c (decide (((a0l : Nat) : Int) > 20)) R m1)) (panicR R))
def e0G (Kk1 : Option Addr → Nat → Nat → Option Addr → Nat → Nat → Option Addr → Nat → Nat → Option Addr → Nat → Nat → Bool → Mem → Prop) (a0a : Option Addr) (a0l : Nat) (a0c : Nat) (a1a : Option Addr) (a1l : Nat) (a1c : Nat) (a2a : Option Addr) (a2l : Nat) (a2c : Nat) (a3a : Option Addr) (a3l : Nat) (a3c : Nat) (R : Ending → Mem → Prop) (m : Mem) : Prop :=
 HC P eyotlaw9_begun.id #[] m (Cont (fun v m1 =>
   UnB v fun x18 =>
   Br (!x18) (
    R (.returned (.bool false)) m1) (
    Kk1 a0a a0l a0c a1a a1l a1c a2a a2l a2c a3a a3l a3c (decide (((a0l : Nat) : Int) > 20))  m1)) (panicR R))
noncomputable def e0A (R : Ending → Mem → Prop) : ACode := (.seq (.code (sL (body))) (.seq (.code (sL (sR (body)))) (.seq (.seq (.inop 3 (rgOps (sL (sL (sR (sR (body)))))) 4 (k1E fun x0a x0l x0c x1a x1l x1c x2a x2l x2c x3a x3l x3c x23 m => k1  x0a x0l x0c x1a x1l x1c x2a x2l x2c x3a x3l x3c x23 R m)) (.code (sR (sL (sR (sR (body))))))) (.seq (.code (sL (sR (sR (sR (body)))))) (.seq (.code (sL (sR (sR (sR (sR (body))))))) (.seq (.code (sL (sR (sR (sR (sR (sR (body)))))))) (.seq (.code (sL (sR (sR (sR (sR (sR (sR (body))))))))) (.seq (.code (sL (sR (sR (sR (sR (sR (sR (sR (body)))))))))) (.seq (.code (sL (sR (sR (sR (sR (sR (sR (sR (sR (body))))))))))) (.seq (.code (sL (sR (sR (sR (sR (sR (sR (sR (sR (sR (body)))))))))))) (.seq (.code (sL (sR (sR (sR (sR (sR (sR (sR (sR (sR (sR (body))))))))))))) (.seq (.inop 14 (rgOps (sL (sR (sR (sR (sR (sR (sR (sR (sR (sR (sR (sR (body)))))))))))))) 12 (k4E fun x2a x2l x2c x3a x3l x3c x11 x12 x13b x13o x14b x14o x15b x15o x17a x17l x17c x90 m => k4  x2a x2l x2c x3a x3l x3c x11 x12 x13b x13o x14b x14o x15b x15o x17a x17l x17c x90 R m)) (.code (sR (sR (sR (sR (sR (sR (sR (sR (sR (sR (sR (sR (body))))))))))))))))))))))))))
theorem k7_eq  (R : Ending → Mem → Prop) (x13b : Nat) (x13o : Nat) (x117 : Bool) (ρ : Env) (m : Mem) : k7  x13b x13o x117 R m = hops P (rgOps (sL (sR (sR (sR (sR (sR (sR (sR (sR (sR (sR (sR (body)))))))))))))) ((thenQ (acpt P od (panicR R) (.code (sR (sR (sR (sR (sR (sR (sR (sR (sR (sR (sR (sR (body)))))))))))))) (bodyQ P fn R)) (bodyQ P fn R)) .normal) (panicR R) ((rgOps (sL (sR (sR (sR (sR (sR (sR (sR (sR (sR (sR (sR (body)))))))))))))).toList.drop 39) (upd (upd ρ 117 (.bool x117)) 13 (.pointer (some ⟨x13b, x13o, none⟩))) m := by kernel_rfl
theorem k7_ok  (R : Ending → Mem → Prop) (ρ : Env) (m : Mem) (h : (k7E fun x13b x13o x117 m => k7  x13b x13o x117 R m) ρ m) : hops P (rgOps (sL (sR (sR (sR (sR (sR (sR (sR (sR (sR (sR (sR (body)))))))))))))) ((thenQ (acpt P od (panicR R) (.code (sR (sR (sR (sR (sR (sR (sR (sR (sR (sR (sR (sR (body)))))))))))))) (bodyQ P fn R)) (bodyQ P fn R)) .normal) (panicR R) ((rgOps (sL (sR (sR (sR (sR (sR (sR (sR (sR (sR (sR (sR (body)))))))))))))).toList.drop 39) ρ m := by
  unfold k7E at h
  obtain ⟨x13b, x13o, e13, h⟩ := h.ex
  obtain ⟨x117, e117, h⟩ := h.ex
  rw [← upd_self e13, ← upd_self e117]
  exact Eq.mp (k7_eq  R x13b x13o x117 ρ m) h
theorem k6_eqG (Kk7 : Nat → Nat → Bool → Mem → Prop)  (R : Ending → Mem → Prop) (x13b : Nat) (x13o : Nat) (x15b : Nat) (x15o : Nat) (x113 : Bool) (ρ : Env) (m : Mem) : k6G Kk7  x13b x13o x15b x15o x113 R m = hops P (rgOps (sL (sR (sR (sR (sR (sR (sR (sR (sR (sR (sR (sR (body)))))))))))))) (k7E Kk7) (panicR R) (((rgOps (sL (sR (sR (sR (sR (sR (sR (sR (sR (sR (sR (sR (body)))))))))))))).toList.drop 35).take 4) (upd (upd (upd ρ 113 (.bool x113)) 15 (.pointer (some ⟨x15b, x15o, none⟩))) 13 (.pointer (some ⟨x13b, x13o, none⟩))) m := by kernel_rfl
theorem k6_eq  (R : Ending → Mem → Prop) (x13b : Nat) (x13o : Nat) (x15b : Nat) (x15o : Nat) (x113 : Bool) (ρ : Env) (m : Mem) : k6  x13b x13o x15b x15o x113 R m = hops P (rgOps (sL (sR (sR (sR (sR (sR (sR (sR (sR (sR (sR (sR (body)))))))))))))) (k7E fun x13b x13o x117 m => k7  x13b x13o x117 R m) (panicR R) (((rgOps (sL (sR (sR (sR (sR (sR (sR (sR (sR (sR (sR (sR (body)))))))))))))).toList.drop 35).take 4) (upd (upd (upd ρ 113 (.bool x113)) 15 (.pointer (some ⟨x15b, x15o, none⟩))) 13 (.pointer (some ⟨x13b, x13o, none⟩))) m := by
  have h1 : k6  x13b x13o x15b x15o x113 R m = k6G (fun x13b x13o x117 m => k7  x13b x13o x117 R m)  x13b x13o x15b x15o x113 R m := by kernel_rfl
  exact h1.trans (k6_eqG (fun x13b x13o x117 m => k7  x13b x13o x117 R m)  R x13b x13o x15b x15o x113 ρ m)
theorem k6_ok  (R : Ending → Mem → Prop) (ρ : Env) (m : Mem) (h : (k6E fun x13b x13o x15b x15o x113 m => k6  x13b x13o x15b x15o x113 R m) ρ m) : hops P (rgOps (sL (sR (sR (sR (sR (sR (sR (sR (sR (sR (sR (sR (body)))))))))))))) ((thenQ (acpt P od (panicR R) (.code (sR (sR (sR (sR (sR (sR (sR (sR (sR (sR (sR (sR (body)))))))))))))) (bodyQ P fn R)) (bodyQ P fn R)) .normal) (panicR R) ((rgOps (sL (sR (sR (sR (sR (sR (sR (sR (sR (sR (sR (sR (body)))))))))))))).toList.drop 35) ρ m := by
  unfold k6E at h
  obtain ⟨x13b, x13o, e13, h⟩ := h.ex
  obtain ⟨x15b, x15o, e15, h⟩ := h.ex
  obtain ⟨x113, e113, h⟩ := h.ex
  rw [← upd_self e13, ← upd_self e15, ← upd_self e113]
  refine hops_cut (P := P) (p := 4) (l2 := (rgOps (sL (sR (sR (sR (sR (sR (sR (sR (sR (sR (sR (sR (body)))))))))))))).toList.drop 39) (by rw [List.drop_drop]) (fun ρ m h => k7_ok  R ρ m h) ?_
  exact Eq.mp (k6_eq  R x13b x13o x15b x15o x113 ρ m) h
theorem k5_eqG (Kk6 : Nat → Nat → Nat → Nat → Bool → Mem → Prop)  (R : Ending → Mem → Prop) (x3a : Option Addr) (x3l : Nat) (x3c : Nat) (x12 : Bool) (x13b : Nat) (x13o : Nat) (x14b : Nat) (x14o : Nat) (x15b : Nat) (x15o : Nat) (x104 : Bool) (ρ : Env) (m : Mem) : k5G Kk6  x3a x3l x3c x12 x13b x13o x14b x14o x15b x15o x104 R m = hops P (rgOps (sL (sR (sR (sR (sR (sR (sR (sR (sR (sR (sR (sR (body)))))))))))))) (k6E Kk6) (panicR R) (((rgOps (sL (sR (sR (sR (sR (sR (sR (sR (sR (sR (sR (sR (body)))))))))))))).toList.drop 26).take 9) (upd (upd (upd (upd (upd (upd ρ 104 (.bool x104)) 15 (.pointer (some ⟨x15b, x15o, none⟩))) 14 (.pointer (some ⟨x14b, x14o, none⟩))) 13 (.pointer (some ⟨x13b, x13o, none⟩))) 12 (.bool x12)) 3 (.slice x3a x3l x3c)) m := by kernel_rfl
theorem k5_eq  (R : Ending → Mem → Prop) (x3a : Option Addr) (x3l : Nat) (x3c : Nat) (x12 : Bool) (x13b : Nat) (x13o : Nat) (x14b : Nat) (x14o : Nat) (x15b : Nat) (x15o : Nat) (x104 : Bool) (ρ : Env) (m : Mem) : k5  x3a x3l x3c x12 x13b x13o x14b x14o x15b x15o x104 R m = hops P (rgOps (sL (sR (sR (sR (sR (sR (sR (sR (sR (sR (sR (sR (body)))))))))))))) (k6E fun x13b x13o x15b x15o x113 m => k6  x13b x13o x15b x15o x113 R m) (panicR R) (((rgOps (sL (sR (sR (sR (sR (sR (sR (sR (sR (sR (sR (sR (body)))))))))))))).toList.drop 26).take 9) (upd (upd (upd (upd (upd (upd ρ 104 (.bool x104)) 15 (.pointer (some ⟨x15b, x15o, none⟩))) 14 (.pointer (some ⟨x14b, x14o, none⟩))) 13 (.pointer (some ⟨x13b, x13o, none⟩))) 12 (.bool x12)) 3 (.slice x3a x3l x3c)) m := by
  have h1 : k5  x3a x3l x3c x12 x13b x13o x14b x14o x15b x15o x104 R m = k5G (fun x13b x13o x15b x15o x113 m => k6  x13b x13o x15b x15o x113 R m)  x3a x3l x3c x12 x13b x13o x14b x14o x15b x15o x104 R m := by kernel_rfl
  exact h1.trans (k5_eqG (fun x13b x13o x15b x15o x113 m => k6  x13b x13o x15b x15o x113 R m)  R x3a x3l x3c x12 x13b x13o x14b x14o x15b x15o x104 ρ m)
theorem k5_ok  (R : Ending → Mem → Prop) (ρ : Env) (m : Mem) (h : (k5E fun x3a x3l x3c x12 x13b x13o x14b x14o x15b x15o x104 m => k5  x3a x3l x3c x12 x13b x13o x14b x14o x15b x15o x104 R m) ρ m) : hops P (rgOps (sL (sR (sR (sR (sR (sR (sR (sR (sR (sR (sR (sR (body)))))))))))))) ((thenQ (acpt P od (panicR R) (.code (sR (sR (sR (sR (sR (sR (sR (sR (sR (sR (sR (sR (body)))))))))))))) (bodyQ P fn R)) (bodyQ P fn R)) .normal) (panicR R) ((rgOps (sL (sR (sR (sR (sR (sR (sR (sR (sR (sR (sR (sR (body)))))))))))))).toList.drop 26) ρ m := by
  unfold k5E at h
  obtain ⟨x3a, x3l, x3c, e3, h⟩ := h.ex
  obtain ⟨x12, e12, h⟩ := h.ex
  obtain ⟨x13b, x13o, e13, h⟩ := h.ex
  obtain ⟨x14b, x14o, e14, h⟩ := h.ex
  obtain ⟨x15b, x15o, e15, h⟩ := h.ex
  obtain ⟨x104, e104, h⟩ := h.ex
  rw [← upd_self e3, ← upd_self e12, ← upd_self e13, ← upd_self e14, ← upd_self e15, ← upd_self e104]
  refine hops_cut (P := P) (p := 9) (l2 := (rgOps (sL (sR (sR (sR (sR (sR (sR (sR (sR (sR (sR (sR (body)))))))))))))).toList.drop 35) (by rw [List.drop_drop]) (fun ρ m h => k6_ok  R ρ m h) ?_
  exact Eq.mp (k5_eq  R x3a x3l x3c x12 x13b x13o x14b x14o x15b x15o x104 ρ m) h
theorem k4_eqG (Kk5 : Option Addr → Nat → Nat → Bool → Nat → Nat → Nat → Nat → Nat → Nat → Bool → Mem → Prop)  (R : Ending → Mem → Prop) (x2a : Option Addr) (x2l : Nat) (x2c : Nat) (x3a : Option Addr) (x3l : Nat) (x3c : Nat) (x11 : Bool) (x12 : Bool) (x13b : Nat) (x13o : Nat) (x14b : Nat) (x14o : Nat) (x15b : Nat) (x15o : Nat) (x17a : Option Addr) (x17l : Nat) (x17c : Nat) (x90 : Bool) (ρ : Env) (m : Mem) : k4G Kk5  x2a x2l x2c x3a x3l x3c x11 x12 x13b x13o x14b x14o x15b x15o x17a x17l x17c x90 R m = hops P (rgOps (sL (sR (sR (sR (sR (sR (sR (sR (sR (sR (sR (sR (body)))))))))))))) (k5E Kk5) (panicR R) (((rgOps (sL (sR (sR (sR (sR (sR (sR (sR (sR (sR (sR (sR (body)))))))))))))).toList.drop 12).take 14) (upd (upd (upd (upd (upd (upd (upd (upd (upd ρ 90 (.bool x90)) 17 (.slice x17a x17l x17c)) 15 (.pointer (some ⟨x15b, x15o, none⟩))) 14 (.pointer (some ⟨x14b, x14o, none⟩))) 13 (.pointer (some ⟨x13b, x13o, none⟩))) 12 (.bool x12)) 11 (.bool x11)) 3 (.slice x3a x3l x3c)) 2 (.slice x2a x2l x2c)) m := by kernel_rfl
theorem k4_eq  (R : Ending → Mem → Prop) (x2a : Option Addr) (x2l : Nat) (x2c : Nat) (x3a : Option Addr) (x3l : Nat) (x3c : Nat) (x11 : Bool) (x12 : Bool) (x13b : Nat) (x13o : Nat) (x14b : Nat) (x14o : Nat) (x15b : Nat) (x15o : Nat) (x17a : Option Addr) (x17l : Nat) (x17c : Nat) (x90 : Bool) (ρ : Env) (m : Mem) : k4  x2a x2l x2c x3a x3l x3c x11 x12 x13b x13o x14b x14o x15b x15o x17a x17l x17c x90 R m = hops P (rgOps (sL (sR (sR (sR (sR (sR (sR (sR (sR (sR (sR (sR (body)))))))))))))) (k5E fun x3a x3l x3c x12 x13b x13o x14b x14o x15b x15o x104 m => k5  x3a x3l x3c x12 x13b x13o x14b x14o x15b x15o x104 R m) (panicR R) (((rgOps (sL (sR (sR (sR (sR (sR (sR (sR (sR (sR (sR (sR (body)))))))))))))).toList.drop 12).take 14) (upd (upd (upd (upd (upd (upd (upd (upd (upd ρ 90 (.bool x90)) 17 (.slice x17a x17l x17c)) 15 (.pointer (some ⟨x15b, x15o, none⟩))) 14 (.pointer (some ⟨x14b, x14o, none⟩))) 13 (.pointer (some ⟨x13b, x13o, none⟩))) 12 (.bool x12)) 11 (.bool x11)) 3 (.slice x3a x3l x3c)) 2 (.slice x2a x2l x2c)) m := by
  have h1 : k4  x2a x2l x2c x3a x3l x3c x11 x12 x13b x13o x14b x14o x15b x15o x17a x17l x17c x90 R m = k4G (fun x3a x3l x3c x12 x13b x13o x14b x14o x15b x15o x104 m => k5  x3a x3l x3c x12 x13b x13o x14b x14o x15b x15o x104 R m)  x2a x2l x2c x3a x3l x3c x11 x12 x13b x13o x14b x14o x15b x15o x17a x17l x17c x90 R m := by kernel_rfl
  exact h1.trans (k4_eqG (fun x3a x3l x3c x12 x13b x13o x14b x14o x15b x15o x104 m => k5  x3a x3l x3c x12 x13b x13o x14b x14o x15b x15o x104 R m)  R x2a x2l x2c x3a x3l x3c x11 x12 x13b x13o x14b x14o x15b x15o x17a x17l x17c x90 ρ m)
theorem k4_ok  (R : Ending → Mem → Prop) (ρ : Env) (m : Mem) (h : (k4E fun x2a x2l x2c x3a x3l x3c x11 x12 x13b x13o x14b x14o x15b x15o x17a x17l x17c x90 m => k4  x2a x2l x2c x3a x3l x3c x11 x12 x13b x13o x14b x14o x15b x15o x17a x17l x17c x90 R m) ρ m) : hops P (rgOps (sL (sR (sR (sR (sR (sR (sR (sR (sR (sR (sR (sR (body)))))))))))))) ((thenQ (acpt P od (panicR R) (.code (sR (sR (sR (sR (sR (sR (sR (sR (sR (sR (sR (sR (body)))))))))))))) (bodyQ P fn R)) (bodyQ P fn R)) .normal) (panicR R) ((rgOps (sL (sR (sR (sR (sR (sR (sR (sR (sR (sR (sR (sR (body)))))))))))))).toList.drop 12) ρ m := by
  unfold k4E at h
  obtain ⟨x2a, x2l, x2c, e2, h⟩ := h.ex
  obtain ⟨x3a, x3l, x3c, e3, h⟩ := h.ex
  obtain ⟨x11, e11, h⟩ := h.ex
  obtain ⟨x12, e12, h⟩ := h.ex
  obtain ⟨x13b, x13o, e13, h⟩ := h.ex
  obtain ⟨x14b, x14o, e14, h⟩ := h.ex
  obtain ⟨x15b, x15o, e15, h⟩ := h.ex
  obtain ⟨x17a, x17l, x17c, e17, h⟩ := h.ex
  obtain ⟨x90, e90, h⟩ := h.ex
  rw [← upd_self e2, ← upd_self e3, ← upd_self e11, ← upd_self e12, ← upd_self e13, ← upd_self e14, ← upd_self e15, ← upd_self e17, ← upd_self e90]
  refine hops_cut (P := P) (p := 14) (l2 := (rgOps (sL (sR (sR (sR (sR (sR (sR (sR (sR (sR (sR (sR (body)))))))))))))).toList.drop 26) (by rw [List.drop_drop]) (fun ρ m h => k5_ok  R ρ m h) ?_
  exact Eq.mp (k4_eq  R x2a x2l x2c x3a x3l x3c x11 x12 x13b x13o x14b x14o x15b x15o x17a x17l x17c x90 ρ m) h
theorem k3_eq  (R : Ending → Mem → Prop) (x0a : Option Addr) (x0l : Nat) (x0c : Nat) (x1a : Option Addr) (x1l : Nat) (x1c : Nat) (x2a : Option Addr) (x2l : Nat) (x2c : Nat) (x3a : Option Addr) (x3l : Nat) (x3c : Nat) (x33 : Bool) (ρ : Env) (m : Mem) : k3  x0a x0l x0c x1a x1l x1c x2a x2l x2c x3a x3l x3c x33 R m = hops P (rgOps (sL (sL (sR (sR (body)))))) ((thenQ (acpt P od (panicR R) (.code (sR (sL (sR (sR (body)))))) (thenQ (acpt P od (panicR R) (.seq (.code (sL (sR (sR (sR (body)))))) (.seq (.code (sL (sR (sR (sR (sR (body))))))) (.seq (.code (sL (sR (sR (sR (sR (sR (body)))))))) (.seq (.code (sL (sR (sR (sR (sR (sR (sR (body))))))))) (.seq (.code (sL (sR (sR (sR (sR (sR (sR (sR (body)))))))))) (.seq (.code (sL (sR (sR (sR (sR (sR (sR (sR (sR (body))))))))))) (.seq (.code (sL (sR (sR (sR (sR (sR (sR (sR (sR (sR (body)))))))))))) (.seq (.code (sL (sR (sR (sR (sR (sR (sR (sR (sR (sR (sR (body))))))))))))) (.seq (.inop 14 (rgOps (sL (sR (sR (sR (sR (sR (sR (sR (sR (sR (sR (sR (body)))))))))))))) 12 (k4E fun x2a x2l x2c x3a x3l x3c x11 x12 x13b x13o x14b x14o x15b x15o x17a x17l x17c x90 m => k4  x2a x2l x2c x3a x3l x3c x11 x12 x13b x13o x14b x14o x15b x15o x17a x17l x17c x90 R m)) (.code (sR (sR (sR (sR (sR (sR (sR (sR (sR (sR (sR (sR (body))))))))))))))))))))))) (bodyQ P fn R)) (bodyQ P fn R))) (thenQ (acpt P od (panicR R) (.seq (.code (sL (sR (sR (sR (body)))))) (.seq (.code (sL (sR (sR (sR (sR (body))))))) (.seq (.code (sL (sR (sR (sR (sR (sR (body)))))))) (.seq (.code (sL (sR (sR (sR (sR (sR (sR (body))))))))) (.seq (.code (sL (sR (sR (sR (sR (sR (sR (sR (body)))))))))) (.seq (.code (sL (sR (sR (sR (sR (sR (sR (sR (sR (body))))))))))) (.seq (.code (sL (sR (sR (sR (sR (sR (sR (sR (sR (sR (body)))))))))))) (.seq (.code (sL (sR (sR (sR (sR (sR (sR (sR (sR (sR (sR (body))))))))))))) (.seq (.inop 14 (rgOps (sL (sR (sR (sR (sR (sR (sR (sR (sR (sR (sR (sR (body)))))))))))))) 12 (k4E fun x2a x2l x2c x3a x3l x3c x11 x12 x13b x13o x14b x14o x15b x15o x17a x17l x17c x90 m => k4  x2a x2l x2c x3a x3l x3c x11 x12 x13b x13o x14b x14o x15b x15o x17a x17l x17c x90 R m)) (.code (sR (sR (sR (sR (sR (sR (sR (sR (sR (sR (sR (sR (body))))))))))))))))))))))) (bodyQ P fn R)) (bodyQ P fn R))) .normal) (panicR R) ((rgOps (sL (sL (sR (sR (body)))))).toList.drop 14) (upd (upd (upd (upd (upd ρ 33 (.bool x33)) 3 (.slice x3a x3l x3c)) 2 (.slice x2a x2l x2c)) 1 (.slice x1a x1l x1c)) 0 (.slice x0a x0l x0c)) m := by kernel_rfl
theorem k3_ok  (R : Ending → Mem → Prop) (ρ : Env) (m : Mem) (h : (k3E fun x0a x0l x0c x1a x1l x1c x2a x2l x2c x3a x3l x3c x33 m => k3  x0a x0l x0c x1a x1l x1c x2a x2l x2c x3a x3l x3c x33 R m) ρ m) : hops P (rgOps (sL (sL (sR (sR (body)))))) ((thenQ (acpt P od (panicR R) (.code (sR (sL (sR (sR (body)))))) (thenQ (acpt P od (panicR R) (.seq (.code (sL (sR (sR (sR (body)))))) (.seq (.code (sL (sR (sR (sR (sR (body))))))) (.seq (.code (sL (sR (sR (sR (sR (sR (body)))))))) (.seq (.code (sL (sR (sR (sR (sR (sR (sR (body))))))))) (.seq (.code (sL (sR (sR (sR (sR (sR (sR (sR (body)))))))))) (.seq (.code (sL (sR (sR (sR (sR (sR (sR (sR (sR (body))))))))))) (.seq (.code (sL (sR (sR (sR (sR (sR (sR (sR (sR (sR (body)))))))))))) (.seq (.code (sL (sR (sR (sR (sR (sR (sR (sR (sR (sR (sR (body))))))))))))) (.seq (.inop 14 (rgOps (sL (sR (sR (sR (sR (sR (sR (sR (sR (sR (sR (sR (body)))))))))))))) 12 (k4E fun x2a x2l x2c x3a x3l x3c x11 x12 x13b x13o x14b x14o x15b x15o x17a x17l x17c x90 m => k4  x2a x2l x2c x3a x3l x3c x11 x12 x13b x13o x14b x14o x15b x15o x17a x17l x17c x90 R m)) (.code (sR (sR (sR (sR (sR (sR (sR (sR (sR (sR (sR (sR (body))))))))))))))))))))))) (bodyQ P fn R)) (bodyQ P fn R))) (thenQ (acpt P od (panicR R) (.seq (.code (sL (sR (sR (sR (body)))))) (.seq (.code (sL (sR (sR (sR (sR (body))))))) (.seq (.code (sL (sR (sR (sR (sR (sR (body)))))))) (.seq (.code (sL (sR (sR (sR (sR (sR (sR (body))))))))) (.seq (.code (sL (sR (sR (sR (sR (sR (sR (sR (body)))))))))) (.seq (.code (sL (sR (sR (sR (sR (sR (sR (sR (sR (body))))))))))) (.seq (.code (sL (sR (sR (sR (sR (sR (sR (sR (sR (sR (body)))))))))))) (.seq (.code (sL (sR (sR (sR (sR (sR (sR (sR (sR (sR (sR (body))))))))))))) (.seq (.inop 14 (rgOps (sL (sR (sR (sR (sR (sR (sR (sR (sR (sR (sR (sR (body)))))))))))))) 12 (k4E fun x2a x2l x2c x3a x3l x3c x11 x12 x13b x13o x14b x14o x15b x15o x17a x17l x17c x90 m => k4  x2a x2l x2c x3a x3l x3c x11 x12 x13b x13o x14b x14o x15b x15o x17a x17l x17c x90 R m)) (.code (sR (sR (sR (sR (sR (sR (sR (sR (sR (sR (sR (sR (body))))))))))))))))))))))) (bodyQ P fn R)) (bodyQ P fn R))) .normal) (panicR R) ((rgOps (sL (sL (sR (sR (body)))))).toList.drop 14) ρ m := by
  unfold k3E at h
  obtain ⟨x0a, x0l, x0c, e0, h⟩ := h.ex
  obtain ⟨x1a, x1l, x1c, e1, h⟩ := h.ex
  obtain ⟨x2a, x2l, x2c, e2, h⟩ := h.ex
  obtain ⟨x3a, x3l, x3c, e3, h⟩ := h.ex
  obtain ⟨x33, e33, h⟩ := h.ex
  rw [← upd_self e0, ← upd_self e1, ← upd_self e2, ← upd_self e3, ← upd_self e33]
  exact Eq.mp (k3_eq  R x0a x0l x0c x1a x1l x1c x2a x2l x2c x3a x3l x3c x33 ρ m) h
theorem k2_eqG (Kk3 : Option Addr → Nat → Nat → Option Addr → Nat → Nat → Option Addr → Nat → Nat → Option Addr → Nat → Nat → Bool → Mem → Prop)  (R : Ending → Mem → Prop) (x0a : Option Addr) (x0l : Nat) (x0c : Nat) (x1a : Option Addr) (x1l : Nat) (x1c : Nat) (x2a : Option Addr) (x2l : Nat) (x2c : Nat) (x3a : Option Addr) (x3l : Nat) (x3c : Nat) (x28 : Bool) (ρ : Env) (m : Mem) : k2G Kk3  x0a x0l x0c x1a x1l x1c x2a x2l x2c x3a x3l x3c x28 R m = hops P (rgOps (sL (sL (sR (sR (body)))))) (k3E Kk3) (panicR R) (((rgOps (sL (sL (sR (sR (body)))))).toList.drop 9).take 5) (upd (upd (upd (upd (upd ρ 28 (.bool x28)) 3 (.slice x3a x3l x3c)) 2 (.slice x2a x2l x2c)) 1 (.slice x1a x1l x1c)) 0 (.slice x0a x0l x0c)) m := by kernel_rfl
theorem k2_eq  (R : Ending → Mem → Prop) (x0a : Option Addr) (x0l : Nat) (x0c : Nat) (x1a : Option Addr) (x1l : Nat) (x1c : Nat) (x2a : Option Addr) (x2l : Nat) (x2c : Nat) (x3a : Option Addr) (x3l : Nat) (x3c : Nat) (x28 : Bool) (ρ : Env) (m : Mem) : k2  x0a x0l x0c x1a x1l x1c x2a x2l x2c x3a x3l x3c x28 R m = hops P (rgOps (sL (sL (sR (sR (body)))))) (k3E fun x0a x0l x0c x1a x1l x1c x2a x2l x2c x3a x3l x3c x33 m => k3  x0a x0l x0c x1a x1l x1c x2a x2l x2c x3a x3l x3c x33 R m) (panicR R) (((rgOps (sL (sL (sR (sR (body)))))).toList.drop 9).take 5) (upd (upd (upd (upd (upd ρ 28 (.bool x28)) 3 (.slice x3a x3l x3c)) 2 (.slice x2a x2l x2c)) 1 (.slice x1a x1l x1c)) 0 (.slice x0a x0l x0c)) m := by
  have h1 : k2  x0a x0l x0c x1a x1l x1c x2a x2l x2c x3a x3l x3c x28 R m = k2G (fun x0a x0l x0c x1a x1l x1c x2a x2l x2c x3a x3l x3c x33 m => k3  x0a x0l x0c x1a x1l x1c x2a x2l x2c x3a x3l x3c x33 R m)  x0a x0l x0c x1a x1l x1c x2a x2l x2c x3a x3l x3c x28 R m := by kernel_rfl
  exact h1.trans (k2_eqG (fun x0a x0l x0c x1a x1l x1c x2a x2l x2c x3a x3l x3c x33 m => k3  x0a x0l x0c x1a x1l x1c x2a x2l x2c x3a x3l x3c x33 R m)  R x0a x0l x0c x1a x1l x1c x2a x2l x2c x3a x3l x3c x28 ρ m)
theorem k2_ok  (R : Ending → Mem → Prop) (ρ : Env) (m : Mem) (h : (k2E fun x0a x0l x0c x1a x1l x1c x2a x2l x2c x3a x3l x3c x28 m => k2  x0a x0l x0c x1a x1l x1c x2a x2l x2c x3a x3l x3c x28 R m) ρ m) : hops P (rgOps (sL (sL (sR (sR (body)))))) ((thenQ (acpt P od (panicR R) (.code (sR (sL (sR (sR (body)))))) (thenQ (acpt P od (panicR R) (.seq (.code (sL (sR (sR (sR (body)))))) (.seq (.code (sL (sR (sR (sR (sR (body))))))) (.seq (.code (sL (sR (sR (sR (sR (sR (body)))))))) (.seq (.code (sL (sR (sR (sR (sR (sR (sR (body))))))))) (.seq (.code (sL (sR (sR (sR (sR (sR (sR (sR (body)))))))))) (.seq (.code (sL (sR (sR (sR (sR (sR (sR (sR (sR (body))))))))))) (.seq (.code (sL (sR (sR (sR (sR (sR (sR (sR (sR (sR (body)))))))))))) (.seq (.code (sL (sR (sR (sR (sR (sR (sR (sR (sR (sR (sR (body))))))))))))) (.seq (.inop 14 (rgOps (sL (sR (sR (sR (sR (sR (sR (sR (sR (sR (sR (sR (body)))))))))))))) 12 (k4E fun x2a x2l x2c x3a x3l x3c x11 x12 x13b x13o x14b x14o x15b x15o x17a x17l x17c x90 m => k4  x2a x2l x2c x3a x3l x3c x11 x12 x13b x13o x14b x14o x15b x15o x17a x17l x17c x90 R m)) (.code (sR (sR (sR (sR (sR (sR (sR (sR (sR (sR (sR (sR (body))))))))))))))))))))))) (bodyQ P fn R)) (bodyQ P fn R))) (thenQ (acpt P od (panicR R) (.seq (.code (sL (sR (sR (sR (body)))))) (.seq (.code (sL (sR (sR (sR (sR (body))))))) (.seq (.code (sL (sR (sR (sR (sR (sR (body)))))))) (.seq (.code (sL (sR (sR (sR (sR (sR (sR (body))))))))) (.seq (.code (sL (sR (sR (sR (sR (sR (sR (sR (body)))))))))) (.seq (.code (sL (sR (sR (sR (sR (sR (sR (sR (sR (body))))))))))) (.seq (.code (sL (sR (sR (sR (sR (sR (sR (sR (sR (sR (body)))))))))))) (.seq (.code (sL (sR (sR (sR (sR (sR (sR (sR (sR (sR (sR (body))))))))))))) (.seq (.inop 14 (rgOps (sL (sR (sR (sR (sR (sR (sR (sR (sR (sR (sR (sR (body)))))))))))))) 12 (k4E fun x2a x2l x2c x3a x3l x3c x11 x12 x13b x13o x14b x14o x15b x15o x17a x17l x17c x90 m => k4  x2a x2l x2c x3a x3l x3c x11 x12 x13b x13o x14b x14o x15b x15o x17a x17l x17c x90 R m)) (.code (sR (sR (sR (sR (sR (sR (sR (sR (sR (sR (sR (sR (body))))))))))))))))))))))) (bodyQ P fn R)) (bodyQ P fn R))) .normal) (panicR R) ((rgOps (sL (sL (sR (sR (body)))))).toList.drop 9) ρ m := by
  unfold k2E at h
  obtain ⟨x0a, x0l, x0c, e0, h⟩ := h.ex
  obtain ⟨x1a, x1l, x1c, e1, h⟩ := h.ex
  obtain ⟨x2a, x2l, x2c, e2, h⟩ := h.ex
  obtain ⟨x3a, x3l, x3c, e3, h⟩ := h.ex
  obtain ⟨x28, e28, h⟩ := h.ex
  rw [← upd_self e0, ← upd_self e1, ← upd_self e2, ← upd_self e3, ← upd_self e28]
  refine hops_cut (P := P) (p := 5) (l2 := (rgOps (sL (sL (sR (sR (body)))))).toList.drop 14) (by rw [List.drop_drop]) (fun ρ m h => k3_ok  R ρ m h) ?_
  exact Eq.mp (k2_eq  R x0a x0l x0c x1a x1l x1c x2a x2l x2c x3a x3l x3c x28 ρ m) h
theorem k1_eqG (Kk2 : Option Addr → Nat → Nat → Option Addr → Nat → Nat → Option Addr → Nat → Nat → Option Addr → Nat → Nat → Bool → Mem → Prop)  (R : Ending → Mem → Prop) (x0a : Option Addr) (x0l : Nat) (x0c : Nat) (x1a : Option Addr) (x1l : Nat) (x1c : Nat) (x2a : Option Addr) (x2l : Nat) (x2c : Nat) (x3a : Option Addr) (x3l : Nat) (x3c : Nat) (x23 : Bool) (ρ : Env) (m : Mem) : k1G Kk2  x0a x0l x0c x1a x1l x1c x2a x2l x2c x3a x3l x3c x23 R m = hops P (rgOps (sL (sL (sR (sR (body)))))) (k2E Kk2) (panicR R) (((rgOps (sL (sL (sR (sR (body)))))).toList.drop 4).take 5) (upd (upd (upd (upd (upd ρ 23 (.bool x23)) 3 (.slice x3a x3l x3c)) 2 (.slice x2a x2l x2c)) 1 (.slice x1a x1l x1c)) 0 (.slice x0a x0l x0c)) m := by kernel_rfl
theorem k1_eq  (R : Ending → Mem → Prop) (x0a : Option Addr) (x0l : Nat) (x0c : Nat) (x1a : Option Addr) (x1l : Nat) (x1c : Nat) (x2a : Option Addr) (x2l : Nat) (x2c : Nat) (x3a : Option Addr) (x3l : Nat) (x3c : Nat) (x23 : Bool) (ρ : Env) (m : Mem) : k1  x0a x0l x0c x1a x1l x1c x2a x2l x2c x3a x3l x3c x23 R m = hops P (rgOps (sL (sL (sR (sR (body)))))) (k2E fun x0a x0l x0c x1a x1l x1c x2a x2l x2c x3a x3l x3c x28 m => k2  x0a x0l x0c x1a x1l x1c x2a x2l x2c x3a x3l x3c x28 R m) (panicR R) (((rgOps (sL (sL (sR (sR (body)))))).toList.drop 4).take 5) (upd (upd (upd (upd (upd ρ 23 (.bool x23)) 3 (.slice x3a x3l x3c)) 2 (.slice x2a x2l x2c)) 1 (.slice x1a x1l x1c)) 0 (.slice x0a x0l x0c)) m := by
  have h1 : k1  x0a x0l x0c x1a x1l x1c x2a x2l x2c x3a x3l x3c x23 R m = k1G (fun x0a x0l x0c x1a x1l x1c x2a x2l x2c x3a x3l x3c x28 m => k2  x0a x0l x0c x1a x1l x1c x2a x2l x2c x3a x3l x3c x28 R m)  x0a x0l x0c x1a x1l x1c x2a x2l x2c x3a x3l x3c x23 R m := by kernel_rfl
  exact h1.trans (k1_eqG (fun x0a x0l x0c x1a x1l x1c x2a x2l x2c x3a x3l x3c x28 m => k2  x0a x0l x0c x1a x1l x1c x2a x2l x2c x3a x3l x3c x28 R m)  R x0a x0l x0c x1a x1l x1c x2a x2l x2c x3a x3l x3c x23 ρ m)
theorem k1_ok  (R : Ending → Mem → Prop) (ρ : Env) (m : Mem) (h : (k1E fun x0a x0l x0c x1a x1l x1c x2a x2l x2c x3a x3l x3c x23 m => k1  x0a x0l x0c x1a x1l x1c x2a x2l x2c x3a x3l x3c x23 R m) ρ m) : hops P (rgOps (sL (sL (sR (sR (body)))))) ((thenQ (acpt P od (panicR R) (.code (sR (sL (sR (sR (body)))))) (thenQ (acpt P od (panicR R) (.seq (.code (sL (sR (sR (sR (body)))))) (.seq (.code (sL (sR (sR (sR (sR (body))))))) (.seq (.code (sL (sR (sR (sR (sR (sR (body)))))))) (.seq (.code (sL (sR (sR (sR (sR (sR (sR (body))))))))) (.seq (.code (sL (sR (sR (sR (sR (sR (sR (sR (body)))))))))) (.seq (.code (sL (sR (sR (sR (sR (sR (sR (sR (sR (body))))))))))) (.seq (.code (sL (sR (sR (sR (sR (sR (sR (sR (sR (sR (body)))))))))))) (.seq (.code (sL (sR (sR (sR (sR (sR (sR (sR (sR (sR (sR (body))))))))))))) (.seq (.inop 14 (rgOps (sL (sR (sR (sR (sR (sR (sR (sR (sR (sR (sR (sR (body)))))))))))))) 12 (k4E fun x2a x2l x2c x3a x3l x3c x11 x12 x13b x13o x14b x14o x15b x15o x17a x17l x17c x90 m => k4  x2a x2l x2c x3a x3l x3c x11 x12 x13b x13o x14b x14o x15b x15o x17a x17l x17c x90 R m)) (.code (sR (sR (sR (sR (sR (sR (sR (sR (sR (sR (sR (sR (body))))))))))))))))))))))) (bodyQ P fn R)) (bodyQ P fn R))) (thenQ (acpt P od (panicR R) (.seq (.code (sL (sR (sR (sR (body)))))) (.seq (.code (sL (sR (sR (sR (sR (body))))))) (.seq (.code (sL (sR (sR (sR (sR (sR (body)))))))) (.seq (.code (sL (sR (sR (sR (sR (sR (sR (body))))))))) (.seq (.code (sL (sR (sR (sR (sR (sR (sR (sR (body)))))))))) (.seq (.code (sL (sR (sR (sR (sR (sR (sR (sR (sR (body))))))))))) (.seq (.code (sL (sR (sR (sR (sR (sR (sR (sR (sR (sR (body)))))))))))) (.seq (.code (sL (sR (sR (sR (sR (sR (sR (sR (sR (sR (sR (body))))))))))))) (.seq (.inop 14 (rgOps (sL (sR (sR (sR (sR (sR (sR (sR (sR (sR (sR (sR (body)))))))))))))) 12 (k4E fun x2a x2l x2c x3a x3l x3c x11 x12 x13b x13o x14b x14o x15b x15o x17a x17l x17c x90 m => k4  x2a x2l x2c x3a x3l x3c x11 x12 x13b x13o x14b x14o x15b x15o x17a x17l x17c x90 R m)) (.code (sR (sR (sR (sR (sR (sR (sR (sR (sR (sR (sR (sR (body))))))))))))))))))))))) (bodyQ P fn R)) (bodyQ P fn R))) .normal) (panicR R) ((rgOps (sL (sL (sR (sR (body)))))).toList.drop 4) ρ m := by
  unfold k1E at h
  obtain ⟨x0a, x0l, x0c, e0, h⟩ := h.ex
  obtain ⟨x1a, x1l, x1c, e1, h⟩ := h.ex
  obtain ⟨x2a, x2l, x2c, e2, h⟩ := h.ex
  obtain ⟨x3a, x3l, x3c, e3, h⟩ := h.ex
  obtain ⟨x23, e23, h⟩ := h.ex
  rw [← upd_self e0, ← upd_self e1, ← upd_self e2, ← upd_self e3, ← upd_self e23]
  refine hops_cut (P := P) (p := 5) (l2 := (rgOps (sL (sL (sR (sR (body)))))).toList.drop 9) (by rw [List.drop_drop]) (fun ρ m h => k2_ok  R ρ m h) ?_
  exact Eq.mp (k1_eq  R x0a x0l x0c x1a x1l x1c x2a x2l x2c x3a x3l x3c x23 ρ m) h
theorem e0_eqG (Kk1 : Option Addr → Nat → Nat → Option Addr → Nat → Nat → Option Addr → Nat → Nat → Option Addr → Nat → Nat → Bool → Mem → Prop) (a0a : Option Addr) (a0l : Nat) (a0c : Nat) (a1a : Option Addr) (a1l : Nat) (a1c : Nat) (a2a : Option Addr) (a2l : Nat) (a2c : Nat) (a3a : Option Addr) (a3l : Nat) (a3c : Nat) (R : Ending → Mem → Prop) (m : Mem) : e0G Kk1 a0a a0l a0c a1a a1l a1c a2a a2l a2c a3a a3l a3c R m = acpt P od (panicR R) (.seq (.code (sL (body))) (.seq (.code (sL (sR (body)))) (.seq (.seq (.inop 3 (rgOps (sL (sL (sR (sR (body)))))) 4 (k1E Kk1)) (.code (sR (sL (sR (sR (body))))))) (.seq (.code (sL (sR (sR (sR (body)))))) (.seq (.code (sL (sR (sR (sR (sR (body))))))) (.seq (.code (sL (sR (sR (sR (sR (sR (body)))))))) (.seq (.code (sL (sR (sR (sR (sR (sR (sR (body))))))))) (.seq (.code (sL (sR (sR (sR (sR (sR (sR (sR (body)))))))))) (.seq (.code (sL (sR (sR (sR (sR (sR (sR (sR (sR (body))))))))))) (.seq (.code (sL (sR (sR (sR (sR (sR (sR (sR (sR (sR (body)))))))))))) (.seq (.code (sL (sR (sR (sR (sR (sR (sR (sR (sR (sR (sR (body))))))))))))) (.seq (.inop 14 (rgOps (sL (sR (sR (sR (sR (sR (sR (sR (sR (sR (sR (sR (body)))))))))))))) 12 (k4E fun x2a x2l x2c x3a x3l x3c x11 x12 x13b x13o x14b x14o x15b x15o x17a x17l x17c x90 m => k4  x2a x2l x2c x3a x3l x3c x11 x12 x13b x13o x14b x14o x15b x15o x17a x17l x17c x90 R m)) (.code (sR (sR (sR (sR (sR (sR (sR (sR (sR (sR (sR (sR (body)))))))))))))))))))))))))) (bodyQ P fn R) (argE (#[.slice a0a a0l a0c, .slice a1a a1l a1c, .slice a2a a2l a2c, .slice a3a a3l a3c] : Array Value).toList) m := by kernel_rfl
theorem e0_eq (a0a : Option Addr) (a0l : Nat) (a0c : Nat) (a1a : Option Addr) (a1l : Nat) (a1c : Nat) (a2a : Option Addr) (a2l : Nat) (a2c : Nat) (a3a : Option Addr) (a3l : Nat) (a3c : Nat) (R : Ending → Mem → Prop) (m : Mem) : e0 a0a a0l a0c a1a a1l a1c a2a a2l a2c a3a a3l a3c R m = acpt P od (panicR R) (e0A R) (bodyQ P fn R) (argE (#[.slice a0a a0l a0c, .slice a1a a1l a1c, .slice a2a a2l a2c, .slice a3a a3l a3c] : Array Value).toList) m := by
  have h1 : e0 a0a a0l a0c a1a a1l a1c a2a a2l a2c a3a a3l a3c R m = e0G (fun x0a x0l x0c x1a x1l x1c x2a x2l x2c x3a x3l x3c x23 m => k1  x0a x0l x0c x1a x1l x1c x2a x2l x2c x3a x3l x3c x23 R m) a0a a0l a0c a1a a1l a1c a2a a2l a2c a3a a3l a3c R m := by kernel_rfl
  exact h1.trans (e0_eqG (fun x0a x0l x0c x1a x1l x1c x2a x2l x2c x3a x3l x3c x23 m => k1  x0a x0l x0c x1a x1l x1c x2a x2l x2c x3a x3l x3c x23 R m) a0a a0l a0c a1a a1l a1c a2a a2l a2c a3a a3l a3c R m)
theorem ok (a0a : Option Addr) (a0l : Nat) (a0c : Nat) (a1a : Option Addr) (a1l : Nat) (a1c : Nat) (a2a : Option Addr) (a2l : Nat) (a2c : Nat) (a3a : Option Addr) (a3l : Nat) (a3c : Nat) (R : Ending → Mem → Prop) (m : Mem) (h : e0 a0a a0l a0c a1a a1l a1c a2a a2l a2c a3a a3l a3c R m) : HC P id #[.slice a0a a0l a0c, .slice a1a a1l a1c, .slice a2a a2l a2c, .slice a3a a3l a3c] m R := by
  refine HC_of (fn := fn) (c := body) (od := od) (tb := tb) Go.Proofs.Tryd.func7 (by kernel_rfl) (by kernel_rfl) follows (by kernel_rfl) (of_decide_eq_true (by kernel_rfl)) ?_
  have he : (e0A R).erase = body := by kernel_rfl
  rw [← he]
  refine acpt_sound (P := P) (e0A R) _ _ _ ⟨⟨⟨⟨⟨⟨⟨⟨⟨⟨⟨⟨True.intro, (fun ρ m h => k4_ok  R ρ m h)⟩, True.intro⟩, True.intro⟩, True.intro⟩, True.intro⟩, True.intro⟩, True.intro⟩, True.intro⟩, True.intro⟩, ⟨True.intro, (fun ρ m h => k1_ok  R ρ m h)⟩⟩, True.intro⟩, True.intro⟩ ?_
  exact Eq.mp (e0_eq a0a a0l a0c a1a a1l a1c a2a a2l a2c a3a a3l a3c R m) h
end eyotlaw9_RegexSpells
end
end Go.E
set_option linter.unusedVariables false
set_option linter.unusedSimpArgs false
set_option maxRecDepth 20000
namespace Go.E.Rg
open Go.H Go.E
attribute [local irreducible] BiN MkS ConvN LookN MapUpN CallV HC limb dbTab
theorem boxC2 {m : Mem} {b : Nat} {k : Int} {S : Nat → Bool} {x y : Rx} {v w : Value} {e : TypeId} {fr : Nat × Nat} (h : m b = some (.cells #[.int .i64 x.k, .int .u64 (L x.S 0), .int .u64 (L x.S 1), .int .u64 (L x.S 2), .int .u64 (L x.S 3), v, .int .i64 y.k, .int .u64 (L y.S 0), .int .u64 (L y.S 1), .int .u64 (L y.S 2), .int .u64 (L y.S 3), w] e fr)) (hv : ArgC m x v) (hw : ArgC m y w) : ArgC m (.mk k S [x, y]) (.slice (some ⟨b, 0, none⟩) 2 2) := by
  have := ArgC.mk (m := m) (k := k) (S := S) (prs := [(x, v), (y, w)]) (a := some ⟨b, 0, none⟩) (c := 2) (by simp) (by simp) (cells_at h (by simp [rxRow])) (fun p hp => by
    have : p = (x, v) ∨ p = (y, w) := by simpa using hp
    rcases this with rfl | rfl
    · exact hv
    · exact hw)
  exact this
theorem newBox2 {m : Mem} {x y : Rx} {a a2 : Option Addr} {l c l2 c2 : Nat} {K : Nat → Mem → Prop} (h : ∀ b m1, m b = none → Le m m1 → m1 b = some (.cells #[.int .i64 x.k, .int .u64 (L x.S 0), .int .u64 (L x.S 1), .int .u64 (L x.S 2), .int .u64 (L x.S 3), .slice a l c, .int .i64 y.k, .int .u64 (L y.S 0), .int .u64 (L y.S 1), .int .u64 (L y.S 2), .int .u64 (L y.S 3), .slice a2 l2 c2] T_api_Rx (0, 0)) → K b m1) :
    NewC m #[.int .i64 x.k, .int .u64 (L x.S 0), .int .u64 (L x.S 1), .int .u64 (L x.S 2), .int .u64 (L x.S 3), .slice a l c, .int .i64 y.k, .int .u64 (L y.S 0), .int .u64 (L y.S 1), .int .u64 (L y.S 2), .int .u64 (L y.S 3), .slice a2 l2 c2] T_api_Rx K := fun b hb => h b _ hb (Le.set hb _) (set_same _ _ _)
/-- Two rows of bytes, one behind the other, in a row of one's own. -/
theorem cat2 {m : Mem} {va wa : Option Addr} {vc wc : Nat} {v w : List UInt8} (hv : CellsAt m va (u8s v)) (hw : CellsAt m wa (u8s w)) (h1 : v.length ≤ 1000) (h2 : w.length ≤ 1000) {ty ty' : TypeId} {cs cs' : Array Bool} {K : Option Addr → Nat → Nat → Mem → Prop} {Pn : List PanicEntry → Mem → Prop}
    (h : ∀ a c m', Le m m' → CellsAt m' a (u8s (v ++ w)) → K a (v.length + w.length) c m') :
    NewC m #[] T_uint8 fun b m1 => BiN P .append #[T_sl_uint8, T_sl_uint8] ty cs #[.slice (some ⟨b, 0, none⟩) 0 0, .slice va v.length vc] m1 (fun z m2 => UnS z fun a l c => BiN P .append #[T_sl_uint8, T_sl_uint8] ty' cs' #[.slice a l c, .slice wa w.length wc] m2 (fun z m3 => UnS z fun a l c => K a l c m3) Pn) Pn := by
  refine clone_gen eU8 (by decide) hv (by rw [u8s_len]; omega) (u8s_one _) (by omega) (by omega) ?_
  intro a' c' m2 hle2 ho2 hf2
  refine UnS.mk ?_
  refine append_own eU8 ho2 (hw.le hle2) (by rw [u8s_len]; omega) (u8s_one _) (by decide) (by omega) (by omega) ?_
  intro a3 c3 m3 ho3 hg
  obtain ⟨hle3, hf3⟩ := grown_le hle2 hf2 hg
  refine UnS.mk ?_
  refine h a3 c3 m3 hle3 ?_
  have := ho3.cells
  unfold u8s at this ⊢
  rw [List.map_append]; exact this
section
variable {S T : Nat → Bool} {v w : List UInt8} {m0 m : Mem} {b13 b14 b15 : Nat} {ca aa sa : Option Addr} {cc ac sc : Nat}
def catR (S T : Nat → Bool) : Rx := .mk 2 noS [st S, st T]
def altR (S T : Nat → Bool) : Rx := .mk 3 noS [st S, st T]
def starR (S : Nat → Bool) : Rx := .mk 4 noS [st S]
/-- What is at hand while the answers are put together. -/
structure Sp (S T : Nat → Bool) (m0 m : Mem) (b13 b14 b15 : Nat) (ca aa sa : Option Addr) (cc ac sc : Nat) : Prop where
  le : Le m0 m
  h13 : m b13 = some (.cells (rxO 2 noS (.slice ca 2 cc)) T_api_Rx (0, 0))
  h14 : m b14 = some (.cells (rxO 3 noS (.slice aa 2 ac)) T_api_Rx (0, 0))
  h15 : m b15 = some (.cells (rxO 4 noS (.slice sa 1 sc)) T_api_Rx (0, 0))
  c : ArgC m (catR S T) (.slice ca 2 cc)
  a : ArgC m (altR S T) (.slice aa 2 ac)
  s : ArgC m (starR S) (.slice sa 1 sc)
theorem Sp.up {m' : Mem} (h : Sp S T m0 m b13 b14 b15 ca aa sa cc ac sc) (k : Le m m') : Sp S T m0 m' b13 b14 b15 ca aa sa cc ac sc :=
  ⟨h.le.trans k, k _ _ h.h13, k _ _ h.h14, k _ _ h.h15, h.c.le k, h.a.le k, h.s.le k⟩
theorem sp_nodes : nodes (catR S T) = 3 ∧ nodes (altR S T) = 3 ∧ nodes (starR S) = 2 := by
  have n1 : ∀ S, nodes (st S) = 1 := fun S => by unfold st; rw [nodes_mk', nodesL_nil]
  unfold catR altR starR
  refine ⟨?_, ?_, ?_⟩ <;> (rw [nodes_mk', nodesL_cons']; first | rw [nodesL_cons', nodesL_nil, n1, n1] | rw [nodesL_nil, n1])
theorem sp_k7 (hS : emptyS S = false) (hT : emptyS T = false) (h : Sp S T m0 m b13 b14 b15 ca aa sa cc ac sc) : eyotlaw9_RegexSpells.k7 b13 0 true (Fine m0) m := by
  unfold eyotlaw9_RegexSpells.k7
  refine Br.t rfl ?_
  refine get6 h.h13 ?_
  refine In_n (r := catR S T) (w := []) h.c (by rw [sp_nodes.1]; decide) (CellsAt.empty _ _) rfl (by omega) ?_
  intro m' hle'
  dsimp only [Cont]
  refine UnB.mk ?_
  have : isIn (catR S T) [] = false := sp_cat0
  rw [this]
  exact ⟨rfl, h.le.trans hle'⟩
theorem sp_k6 (hS : emptyS S = false) (hT : emptyS T = false) (h : Sp S T m0 m b13 b14 b15 ca aa sa cc ac sc) : eyotlaw9_RegexSpells.k6 b13 0 b15 0 true (Fine m0) m := by
  unfold eyotlaw9_RegexSpells.k6
  refine Br.t rfl ?_
  refine get6 h.h15 ?_
  refine In_n (r := starR S) (w := []) h.s (by rw [(sp_nodes (S := S) (T := T)).2.2]; decide) (CellsAt.empty _ _) rfl (by omega) ?_
  intro m' hle'
  dsimp only [Cont]
  refine UnB.mk ?_
  have : isIn (starR S) [] = true := sp_star0 hS
  rw [this]
  exact sp_k7 hS hT (h.up hle')
variable {wa va : Option Addr} {wc vc : Nat}
theorem sp_k5 (hS : emptyS S = false) (hT : emptyS T = false) (h : Sp S T m0 m b13 b14 b15 ca aa sa cc ac sc) (hw : CellsAt m0 wa (u8s w)) (hwl : w.length ≤ 6) : eyotlaw9_RegexSpells.k5 wa w.length wc (isIn (st T) w) b13 0 b14 0 b15 0 true (Fine m0) m := by
  unfold eyotlaw9_RegexSpells.k5
  refine Br.t rfl ?_
  refine Br.mk (fun _ => sp_k6 hS hT h) (fun hq => ?_)
  have hq : isIn (st T) w = true := by simpa using hq
  refine get6 h.h14 ?_
  refine In_n (r := altR S T) (w := w) h.a (by rw [sp_nodes.2.1]; decide) (hw.le h.le) rfl (by omega) ?_
  intro m' hle'
  dsimp only [Cont]
  refine UnB.mk ?_
  have : isIn (altR S T) w = true := sp_alt hS hT (.inr hq)
  rw [this]
  exact sp_k6 hS hT (h.up hle')
theorem sp_k4 (hS : emptyS S = false) (hT : emptyS T = false) (h : Sp S T m0 m b13 b14 b15 ca aa sa cc ac sc) (hw : CellsAt m0 wa (u8s w)) (hwl : w.length ≤ 6) (hv : CellsAt m0 va (u8s v)) (hvl : v.length ≤ 6) {vva : Option Addr} {vvc : Nat} (hvv : CellsAt m vva (u8s (v ++ v))) :
    eyotlaw9_RegexSpells.k4 va v.length vc wa w.length wc (isIn (st S) v) (isIn (st T) w) b13 0 b14 0 b15 0 vva (v.length + v.length) vvc true (Fine m0) m := by
  unfold eyotlaw9_RegexSpells.k4
  refine Br.t rfl ?_
  refine Br.mk (fun _ => sp_k5 hS hT h hw hwl) (fun hp => ?_)
  have hp : isIn (st S) v = true := by simpa using hp
  refine get6 h.h14 ?_
  refine In_n (r := altR S T) (w := v) h.a (by rw [sp_nodes.2.1]; decide) (hv.le h.le) rfl (by omega) ?_
  intro m' hle'
  dsimp only [Cont]
  refine UnB.mk ?_
  have : isIn (altR S T) v = true := sp_alt hS hT (.inl hp)
  rw [this]
  refine Br.t rfl ?_
  have h2 := h.up hle'
  refine get6 h2.h15 ?_
  refine In_n (r := starR S) (w := v ++ v) h2.s (by rw [(sp_nodes (S := S) (T := T)).2.2]; decide) (hvv.le hle') (by simp) (by omega) ?_
  intro m'' hle''
  dsimp only [Cont]
  refine UnB.mk ?_
  have : isIn (starR S) (v ++ v) = true := sp_star hS hp
  rw [this]
  exact sp_k5 hS hT (h2.up hle'') hw hwl
end
theorem sp_k3 {xa ya va wa : Option Addr} {xc yc vc wc : Nat} {xs ys v w : List UInt8} {m0 m : Mem} (hle0 : Le m0 m) (hx : CellsAt m0 xa (u8s xs)) (hy : CellsAt m0 ya (u8s ys)) (hv : CellsAt m0 va (u8s v)) (hw : CellsAt m0 wa (u8s w)) (hxl : xs.length ≤ 20) (hyl : ys.length ≤ 20) (hvl : v.length ≤ 6) :
    eyotlaw9_RegexSpells.k3 xa xs.length xc ya ys.length yc va v.length vc wa w.length wc false (Fine m0) m := by
  unfold eyotlaw9_RegexSpells.k3
  refine Br.f rfl ?_
  refine BrD (fun _ => ⟨rfl, hle0⟩) (fun hwl => ?_)
  have hwl : w.length ≤ 6 := by omega
  refine made_rx (d := 1) hle0 hx (by omega) (by decide) ?_
  intro m2 a1 l1 c1 hle2 hv1
  have hok1 := (prx_ok 1 xs).1
  generalize (prx 1 xs).1 = x at hv1 hok1 ⊢
  refine ContRx.mk ?_
  have l2 := hle0.trans hle2
  refine made_rx (d := 1) l2 hy (by omega) (by decide) ?_
  intro m4 a2 l2' c2 hle4 hv2
  have hok2 := (prx_ok 1 ys).1
  generalize (prx 1 ys).1 = y at hv2 hok2 ⊢
  refine ContRx.mk ?_
  intro b9 hb9 b10 hb10
  have hne : b10 ≠ b9 := by rintro rfl; rw [set_same] at hb10; cases hb10
  have hle6 : Le m4 ((m4.set b9 (.cells zRx T_api_Rx (0, 0))).set b10 (.cells zRx T_api_Rx (0, 0))) := (Le.set hb9 _).trans (Le.set hb10 _)
  have w10 : m4 b10 = none := by rw [set_other _ _ hne] at hb10; exact hb10
  have e9 : ((m4.set b9 (.cells zRx T_api_Rx (0, 0))).set b10 (.cells zRx T_api_Rx (0, 0))) b9 = some (.cells zRx T_api_Rx (0, 0)) := by rw [set_other _ _ hne.symm, set_same]
  have e10 : ((m4.set b9 (.cells zRx T_api_Rx (0, 0))).set b10 (.cells zRx T_api_Rx (0, 0))) b10 = some (.cells zRx T_api_Rx (0, 0)) := set_same _ _ _
  generalize (m4.set b9 (.cells zRx T_api_Rx (0, 0))).set b10 (.cells zRx T_api_Rx (0, 0)) = m6 at hle6 e9 e10 ⊢
  refine put6 (S := x.S) e9 ?_
  have hch1 := Chg.set m6 b9 (.cells (rxO x.k x.S (.slice a1 l1 c1)) T_api_Rx (0, 0))
  have f9 : (m6.set b9 (.cells (rxO x.k x.S (.slice a1 l1 c1)) T_api_Rx (0, 0))) b9 = _ := set_same _ _ _
  have f10 := hch1.eq _ _ e10 hne
  have hle12 : Le m4 (m6.set b9 (.cells (rxO x.k x.S (.slice a1 l1 c1)) T_api_Rx (0, 0))) := hch1.to_le hle6 (fun b e => by rw [show b = b9 from e]; exact hb9)
  generalize m6.set b9 (.cells (rxO x.k x.S (.slice a1 l1 c1)) T_api_Rx (0, 0)) = m12 at f9 f10 hle12 ⊢
  refine put6 (S := y.S) f10 ?_
  have hch2 := Chg.set m12 b10 (.cells (rxO y.k y.S (.slice a2 l2' c2)) T_api_Rx (0, 0))
  have g10 : (m12.set b10 (.cells (rxO y.k y.S (.slice a2 l2' c2)) T_api_Rx (0, 0))) b10 = _ := set_same _ _ _
  have g9 := hch2.eq _ _ f9 hne.symm
  have hle18 : Le m4 (m12.set b10 (.cells (rxO y.k y.S (.slice a2 l2' c2)) T_api_Rx (0, 0))) := hch2.to_le hle12 (fun b e => by rw [show b = b10 from e]; exact w10)
  generalize m12.set b10 (.cells (rxO y.k y.S (.slice a2 l2' c2)) T_api_Rx (0, 0)) = m18 at g9 g10 hle18 ⊢
  have l18 := (l2.trans hle4).trans hle18
  refine LdV.s0 g9 (UnI.mk ?_)
  refine BrD (fun _ => ⟨rfl, l18⟩) (fun hk1 => ?_)
  refine LdV.s0 g10 (UnI.mk ?_)
  refine BrD (fun _ => ⟨rfl, l18⟩) (fun hk2 => ?_)
  obtain ⟨S, rfl, hS⟩ := form_one hok1 (by omega)
  obtain ⟨T, rfl, hT⟩ := form_one hok2 (by omega)
  have hvx : ArgC m18 (st S) (.slice a1 l1 c1) := hv1.le (hle4.trans hle18)
  have hvy : ArgC m18 (st T) (.slice a2 l2' c2) := hv2.le hle18
  have n1 : ∀ S, nodes (st S) = 1 := fun S => by unfold st; rw [nodes_mk', nodesL_nil]
  refine Sub.all ?_
  refine get6 g9 ?_
  refine get6 g10 ?_
  refine In_n (r := st S) (w := v) hvx (by rw [n1]; decide) (hv.le l18) rfl (by omega) ?_
  intro m20 hle20
  dsimp only [Cont]
  refine UnB.mk ?_
  refine Lk.all hle20 ?_
  have l20 := l18.trans hle20
  refine In_n (r := st T) (w := w) (hvy.le hle20) (by rw [n1]; decide) (hw.le l20) rfl (by omega) ?_
  intro m22 hle22
  dsimp only [Cont]
  refine UnB.mk ?_
  have u22 := hle20.trans hle22
  have l22 := l20.trans hle22
  refine get6 (u22 _ _ g9) ?_
  refine get6 (u22 _ _ g10) ?_
  refine newBox2 (x := st S) (y := st T) ?_
  intro b60 m23 hb60 hle23 h60
  refine own6z ?_
  intro b13 m30 hb13 hle30 h13
  have u30 := (u22.trans hle23).trans hle30
  refine get6 (u30 _ _ g9) ?_
  refine get6 (u30 _ _ g10) ?_
  refine newBox2 (x := st S) (y := st T) ?_
  intro b64 m31 hb64 hle31 h64
  refine own6z ?_
  intro b14 m38 hb14 hle38 h14
  have u38 := (u30.trans hle31).trans hle38
  refine get6 (u38 _ _ g9) ?_
  refine newBox (x := st S) ?_
  intro b67 m39 hb67 hle39 h67
  refine own6z ?_
  intro b15 m46 hb15 hle46 h15
  have u46 := (u38.trans hle39).trans hle46
  have l46 := l18.trans u46
  have t38 := hle39.trans hle46
  have t30 := (hle31.trans hle38).trans t38
  have sp46 : Sp S T m0 m46 b13 b14 b15 (some ⟨b60, 0, none⟩) (some ⟨b64, 0, none⟩) (some ⟨b67, 0, none⟩) 2 2 1 :=
    ⟨l46, t30 _ _ h13, t38 _ _ h14, h15, boxC2 ((hle30.trans t30) _ _ h60) (hvx.le u46) (hvy.le u46), boxC2 ((hle38.trans t38) _ _ h64) (hvx.le u46) (hvy.le u46), boxC (hle46 _ _ h67) (hvx.le u46)⟩
  refine cat2 (v := v) (w := w) (hv.le l46) (hw.le l46) (by omega) (by omega) ?_
  intro avw cvw m49 hle49 hcvw
  refine cat2 (v := v) (w := v) (hv.le (l46.trans hle49)) (hv.le (l46.trans hle49)) (by omega) (by omega) ?_
  intro avv cvv m52 hle52 hcvv
  have sp52 := sp46.up (hle49.trans hle52)
  refine Br.mk (fun _ => sp_k4 hS hT sp52 hw hwl hv hvl hcvv) (fun hp => ?_)
  have hp : isIn (st S) v = true := by simpa using hp
  refine Br.mk (fun _ => sp_k4 hS hT sp52 hw hwl hv hvl hcvv) (fun hq => ?_)
  have hq : isIn (st T) w = true := by simpa using hq
  refine get6 sp52.h13 ?_
  refine In_n (r := catR S T) (w := v ++ w) sp52.c (by rw [sp_nodes.1]; decide) (hcvw.le hle52) (by simp) (by omega) ?_
  intro m53 hle53
  dsimp only [Cont]
  refine UnB.mk ?_
  have : isIn (catR S T) (v ++ w) = true := sp_cat hS hT hp hq
  rw [this]
  exact sp_k4 hS hT (sp52.up hle53) hw hwl hv hvl (hcvv.le hle53)
theorem RegexSpells_m {xa ya va wa : Option Addr} {xc yc vc wc : Nat} {xs ys v w : List UInt8} {m : Mem} (hG : Glob m) (hx : CellsAt m xa (u8s xs)) (hy : CellsAt m ya (u8s ys)) (hv : CellsAt m va (u8s v)) (hw : CellsAt m wa (u8s w)) :
    HC P eyotlaw9_RegexSpells.id #[.slice xa xs.length xc, .slice ya ys.length yc, .slice va v.length vc, .slice wa w.length wc] m (Fine m) := by
  refine eyotlaw9_RegexSpells.ok _ _ _ _ _ _ _ _ _ _ _ _ _ _ ?_
  refine begun_spec hG ?_
  intro m1 hle1
  dsimp only [Cont]
  refine UnB.mk ?_
  refine Br.f rfl ?_
  have yes : ∀ {xa xl xc ya yl yc va vl vc wa wl wc}, eyotlaw9_RegexSpells.k3 xa xl xc ya yl yc va vl vc wa wl wc true (Fine m) m1 := by
    intro xa xl xc ya yl yc va vl vc wa wl wc
    unfold eyotlaw9_RegexSpells.k3
    exact Br.t rfl ⟨rfl, hle1⟩
  have yes2 : ∀ {xa xl xc ya yl yc va vl vc wa wl wc}, eyotlaw9_RegexSpells.k2 xa xl xc ya yl yc va vl vc wa wl wc true (Fine m) m1 := by
    intro xa xl xc ya yl yc va vl vc wa wl wc
    unfold eyotlaw9_RegexSpells.k2
    exact Br.t rfl yes
  unfold eyotlaw9_RegexSpells.k1
  refine BrD (fun _ => yes2) (fun h1 => ?_)
  unfold eyotlaw9_RegexSpells.k2
  refine BrD (fun _ => yes) (fun h2 => ?_)
  by_cases h3 : (((v.length : Nat) : Int) > 6)
  · rw [decide_eq_true h3]; exact yes
  · rw [decide_eq_false h3]
    exact sp_k3 hle1 hx hy hv hw (by omega) (by omega) (by omega)
end Go.E.Rg
namespace Go.E
open Go.H Go.E.Rg
theorem RegexSpells_arg {W : World} {v w x y : Value} (hG : Glob (heapM W)) (h : Arg P W T_sl_uint8 v) (h2 : Arg P W T_sl_uint8 w) (h3 : Arg P W T_sl_uint8 x) (h4 : Arg P W T_sl_uint8 y) : HC P eyotlaw9_RegexSpells.id #[v, w, x, y] (heapM W) (Fine (heapM W)) := by
  obtain ⟨a, l, c, bs, rfl, hlc, hl2, _, hc⟩ := h.u8s (e := T_uint8) (by kernel_rfl) (by kernel_rfl)
  obtain ⟨a', l', c', bs', rfl, hlc', hl2', _, hc'⟩ := h2.u8s (e := T_uint8) (by kernel_rfl) (by kernel_rfl)
  obtain ⟨a3, l3, c3, bs3, rfl, hlc3, hl3, _, hc3⟩ := h3.u8s (e := T_uint8) (by kernel_rfl) (by kernel_rfl)
  obtain ⟨a4, l4, c4, bs4, rfl, hlc4, hl4, _, hc4⟩ := h4.u8s (e := T_uint8) (by kernel_rfl) (by kernel_rfl)
  have e : (bs.take l).length = l := by rw [List.length_take]; omega
  have e' : (bs'.take l').length = l' := by rw [List.length_take]; omega
  have e3 : (bs3.take l3).length = l3 := by rw [List.length_take]; omega
  have e4 : (bs4.take l4).length = l4 := by rw [List.length_take]; omega
  have := RegexSpells_m (xc := c) (yc := c') (vc := c3) (wc := c4) hG hc hc' hc3 hc4
  rw [e, e', e3, e4] at this
  exact this
end Go.E
