/- This project's own logic, printed forms and lemmas, as far as this claim needs them (part 3). -/
import Derived.Test.YtgjmmgjbfkodiaaDoorQRegexAll2
set_option linter.unusedVariables false
set_option maxRecDepth 100000
namespace Go.E
open Go.H
noncomputable section
/-! ### eyot/regex.from -/
namespace regex_from
noncomputable def fn : Func := Go.Proofs.Tryd.f46
noncomputable def body : Code := fn.body.getD .skip
def od : Nat → Ord := fun _ => .done
def tb : Nat → Tab := fun _ => (0, [], [])
def l1E (K : Option Addr → Nat → Nat → Nat → Nat → Option Addr → Nat → Nat → Option Addr → Nat → Nat → Int → Int → Mem → Prop) : Env → Mem → Prop := fun ρ m => UnS (ρ 2) fun x2a x2l x2c => UnPA (ρ 3) fun x3b x3o => UnS (ρ 7) fun x7a x7l x7c => UnS (ρ 46) fun x46a x46l x46c => UnI (ρ 47) .i64 fun x47 => UnI (ρ 48) .i64 fun x48 => K x2a x2l x2c x3b x3o x7a x7l x7c x46a x46l x46c x47 x48 m
def l1B  (K1 : Option Addr → Nat → Nat → Nat → Nat → Option Addr → Nat → Nat → Option Addr → Nat → Nat → Int → Int → Mem → Prop) (x2a : Option Addr) (x2l : Nat) (x2c : Nat) (x3b : Nat) (x3o : Nat) (x7a : Option Addr) (x7l : Nat) (x7c : Nat) (x46a : Option Addr) (x46l : Nat) (x46c : Nat) (x47 : Int) (x48 : Int) (R : Ending → Mem → Prop) (m : Mem) : Prop :=
 Br (decide (x48 < x47)) (
  IxS x46a x46l x48 1 fun x51b x51o =>
  LdV m x51b x51o fun v =>
  UnI v .u8 fun x52 =>
  IxS x2a x2l x48 1 fun x58b x58o =>
  LdV m x58b x58o fun v =>
  UnB v fun x59 =>
  Br x59 (
   LdV m x3b (x3o + 1) fun v =>
   UnI v .u64 fun x62_0 =>
   LdV m x3b ((x3o + 1) + 1) fun v =>
   UnI v .u64 fun x62_1 =>
   LdV m x3b ((x3o + 1) + 2) fun v =>
   UnI v .u64 fun x62_2 =>
   LdV m x3b ((x3o + 1) + 3) fun v =>
   UnI v .u64 fun x62_3 =>
   HC P class_Has.id #[.agg #[.int .u64 x62_0, .int .u64 x62_1, .int .u64 x62_2, .int .u64 x62_3], .int .u8 x52] m (Cont (fun v m1 =>
     UnB v fun x64 =>
     IxS x7a x7l (IntKind.i64.wrap (x48 + 1)) 1 fun x66b x66o =>
     St1 m1 x66b x66o (.bool x64) fun m2 =>
     K1 x2a x2l x2c x3b x3o x7a x7l x7c x46a x46l x46c x47 (IntKind.i64.wrap (x48 + 1)) m2) (panicR R))) (
   IxS x7a x7l (IntKind.i64.wrap (x48 + 1)) 1 fun x66b x66o =>
   St1 m x66b x66o (.bool false) fun m1 =>
   K1 x2a x2l x2c x3b x3o x7a x7l x7c x46a x46l x46c x47 (IntKind.i64.wrap (x48 + 1)) m1)) (
  R (.returned (.slice x7a x7l x7c)) m)
def l1  (x2a : Option Addr) (x2l : Nat) (x2c : Nat) (x3b : Nat) (x3o : Nat) (x7a : Option Addr) (x7l : Nat) (x7c : Nat) (x46a : Option Addr) (x46l : Nat) (x46c : Nat) (x47 : Int) (x48 : Int) (R : Ending → Mem → Prop) (m : Mem) : Prop :=
  ∃ (I : Nat → Option Addr → Nat → Nat → Nat → Nat → Option Addr → Nat → Nat → Option Addr → Nat → Nat → Int → Int → Mem → Prop) (N : Nat), I N x2a x2l x2c x3b x3o x7a x7l x7c x46a x46l x46c x47 x48 m ∧ ∀ N x2a x2l x2c x3b x3o x7a x7l x7c x46a x46l x46c x47 x48 m, I N x2a x2l x2c x3b x3o x7a x7l x7c x46a x46l x46c x47 x48 m → l1B  (fun x2a x2l x2c x3b x3o x7a x7l x7c x46a x46l x46c x47 x48 m => ∃ N1, N1 < N ∧ I N1 x2a x2l x2c x3b x3o x7a x7l x7c x46a x46l x46c x47 x48 m) x2a x2l x2c x3b x3o x7a x7l x7c x46a x46l x46c x47 x48 R m
noncomputable def l1A  (K1 : Option Addr → Nat → Nat → Nat → Nat → Option Addr → Nat → Nat → Option Addr → Nat → Nat → Int → Int → Mem → Prop) (R : Ending → Mem → Prop) : ACode := (.code (lP (bB (sR (cT (sR (bB (sR (sL (sR (sR (body))))))))))))
def l2E (K : Option Addr → Nat → Nat → Option Addr → Nat → Nat → Option Addr → Nat → Nat → Int → Int → Mem → Prop) : Env → Mem → Prop := fun ρ m => UnS (ρ 1) fun x1a x1l x1c => UnS (ρ 2) fun x2a x2l x2c => UnS (ρ 71) fun x71a x71l x71c => UnI (ρ 72) .i64 fun x72 => UnI (ρ 73) .i64 fun x73 => K x1a x1l x1c x2a x2l x2c x71a x71l x71c x72 x73 m
def l2B  (K2 : Option Addr → Nat → Nat → Option Addr → Nat → Nat → Option Addr → Nat → Nat → Int → Int → Mem → Prop) (x1a : Option Addr) (x1l : Nat) (x1c : Nat) (x2a : Option Addr) (x2l : Nat) (x2c : Nat) (x71a : Option Addr) (x71l : Nat) (x71c : Nat) (x72 : Int) (x73 : Int) (R : Ending → Mem → Prop) (m : Mem) : Prop :=
 Br (decide (x73 < x72)) (
  IxS x71a x71l x73 6 fun x75b x75o =>
  LdV m x75b x75o fun v =>
  UnI v .i64 fun x76_0 =>
  LdV m x75b (x75o + 1) fun v =>
  UnI v .u64 fun x76_1 =>
  LdV m x75b (x75o + 2) fun v =>
  UnI v .u64 fun x76_2 =>
  LdV m x75b (x75o + 3) fun v =>
  UnI v .u64 fun x76_3 =>
  LdV m x75b (x75o + 4) fun v =>
  UnI v .u64 fun x76_4 =>
  LdV m x75b (x75o + 5) fun v =>
  UnS v fun x76_5a x76_5l x76_5c =>
  NewC m #[.int .i64 0, .int .u64 0, .int .u64 0, .int .u64 0, .int .u64 0, .slice none 0 0] T_api_Rx fun b11 m1 =>
  St1 m1 b11 0 (.int .i64 x76_0) fun m2 =>
  St1 m2 b11 1 (.int .u64 x76_1) fun m3 =>
  St1 m3 b11 2 (.int .u64 x76_2) fun m4 =>
  St1 m4 b11 3 (.int .u64 x76_3) fun m5 =>
  St1 m5 b11 4 (.int .u64 x76_4) fun m6 =>
  St1 m6 b11 5 (.slice x76_5a x76_5l x76_5c) fun m7 =>
  LdV m7 b11 0 fun v =>
  UnI v .i64 fun x77_0 =>
  LdV m7 b11 1 fun v =>
  UnI v .u64 fun x77_1 =>
  LdV m7 b11 2 fun v =>
  UnI v .u64 fun x77_2 =>
  LdV m7 b11 3 fun v =>
  UnI v .u64 fun x77_3 =>
  LdV m7 b11 4 fun v =>
  UnI v .u64 fun x77_4 =>
  LdV m7 b11 5 fun v =>
  UnS v fun x77_5a x77_5l x77_5c =>
  HC P regex_from.id #[.agg #[.int .i64 x77_0, .int .u64 x77_1, .int .u64 x77_2, .int .u64 x77_3, .int .u64 x77_4, .slice x77_5a x77_5l x77_5c], .slice x1a x1l x1c, .slice x2a x2l x2c] m7 (Cont (fun v m8 =>
    UnS v fun x80a x80l x80c =>
    K2 x1a x1l x1c x80a x80l x80c x71a x71l x71c x72 (IntKind.i64.wrap (x73 + 1)) m8) (panicR R))) (
  R (.returned (.slice x2a x2l x2c)) m)
def l2  (x1a : Option Addr) (x1l : Nat) (x1c : Nat) (x2a : Option Addr) (x2l : Nat) (x2c : Nat) (x71a : Option Addr) (x71l : Nat) (x71c : Nat) (x72 : Int) (x73 : Int) (R : Ending → Mem → Prop) (m : Mem) : Prop :=
  ∃ (I : Nat → Option Addr → Nat → Nat → Option Addr → Nat → Nat → Option Addr → Nat → Nat → Int → Int → Mem → Prop) (N : Nat), I N x1a x1l x1c x2a x2l x2c x71a x71l x71c x72 x73 m ∧ ∀ N x1a x1l x1c x2a x2l x2c x71a x71l x71c x72 x73 m, I N x1a x1l x1c x2a x2l x2c x71a x71l x71c x72 x73 m → l2B  (fun x1a x1l x1c x2a x2l x2c x71a x71l x71c x72 x73 m => ∃ N1, N1 < N ∧ I N1 x1a x1l x1c x2a x2l x2c x71a x71l x71c x72 x73 m) x1a x1l x1c x2a x2l x2c x71a x71l x71c x72 x73 R m
noncomputable def l2A  (K2 : Option Addr → Nat → Nat → Option Addr → Nat → Nat → Option Addr → Nat → Nat → Int → Int → Mem → Prop) (R : Ending → Mem → Prop) : ACode := (.code (lP (bB (sR (sL (cT (sR (cE (sR (bB (sR (sL (sR (sR (body)))))))))))))))
def l3E (K : Option Addr → Nat → Nat → Option Addr → Nat → Nat → Option Addr → Nat → Nat → Option Addr → Nat → Nat → Int → Int → Mem → Prop) : Env → Mem → Prop := fun ρ m => UnS (ρ 1) fun x1a x1l x1c => UnS (ρ 2) fun x2a x2l x2c => UnS (ρ 7) fun x7a x7l x7c => UnS (ρ 86) fun x86a x86l x86c => UnI (ρ 87) .i64 fun x87 => UnI (ρ 88) .i64 fun x88 => K x1a x1l x1c x2a x2l x2c x7a x7l x7c x86a x86l x86c x87 x88 m
def l3B  (K3 : Option Addr → Nat → Nat → Option Addr → Nat → Nat → Option Addr → Nat → Nat → Option Addr → Nat → Nat → Int → Int → Mem → Prop) (x1a : Option Addr) (x1l : Nat) (x1c : Nat) (x2a : Option Addr) (x2l : Nat) (x2c : Nat) (x7a : Option Addr) (x7l : Nat) (x7c : Nat) (x86a : Option Addr) (x86l : Nat) (x86c : Nat) (x87 : Int) (x88 : Int) (R : Ending → Mem → Prop) (m : Mem) : Prop :=
 Br (decide (x88 < x87)) (
  IxS x86a x86l x88 6 fun x90b x90o =>
  LdV m x90b x90o fun v =>
  UnI v .i64 fun x91_0 =>
  LdV m x90b (x90o + 1) fun v =>
  UnI v .u64 fun x91_1 =>
  LdV m x90b (x90o + 2) fun v =>
  UnI v .u64 fun x91_2 =>
  LdV m x90b (x90o + 3) fun v =>
  UnI v .u64 fun x91_3 =>
  LdV m x90b (x90o + 4) fun v =>
  UnI v .u64 fun x91_4 =>
  LdV m x90b (x90o + 5) fun v =>
  UnS v fun x91_5a x91_5l x91_5c =>
  NewC m #[.int .i64 0, .int .u64 0, .int .u64 0, .int .u64 0, .int .u64 0, .slice none 0 0] T_api_Rx fun b13 m1 =>
  St1 m1 b13 0 (.int .i64 x91_0) fun m2 =>
  St1 m2 b13 1 (.int .u64 x91_1) fun m3 =>
  St1 m3 b13 2 (.int .u64 x91_2) fun m4 =>
  St1 m4 b13 3 (.int .u64 x91_3) fun m5 =>
  St1 m5 b13 4 (.int .u64 x91_4) fun m6 =>
  St1 m6 b13 5 (.slice x91_5a x91_5l x91_5c) fun m7 =>
  LdV m7 b13 0 fun v =>
  UnI v .i64 fun x93_0 =>
  LdV m7 b13 1 fun v =>
  UnI v .u64 fun x93_1 =>
  LdV m7 b13 2 fun v =>
  UnI v .u64 fun x93_2 =>
  LdV m7 b13 3 fun v =>
  UnI v .u64 fun x93_3 =>
  LdV m7 b13 4 fun v =>
  UnI v .u64 fun x93_4 =>
  LdV m7 b13 5 fun v =>
  UnS v fun x93_5a x93_5l x93_5c =>
  HC P regex_from.id #[.agg #[.int .i64 x93_0, .int .u64 x93_1, .int .u64 x93_2, .int .u64 x93_3, .int .u64 x93_4, .slice x93_5a x93_5l x93_5c], .slice x1a x1l x1c, .slice x2a x2l x2c] m7 (Cont (fun v m8 =>
    UnS v fun x96a x96l x96c =>
    HC P regex_join.id #[.slice x7a x7l x7c, .slice x96a x96l x96c] m8 (Cont (fun v m9 =>
      UnB v fun x97 =>
      K3 x1a x1l x1c x2a x2l x2c x7a x7l x7c x86a x86l x86c x87 (IntKind.i64.wrap (x88 + 1)) m9) (panicR R))) (panicR R))) (
  R (.returned (.slice x7a x7l x7c)) m)
def l3  (x1a : Option Addr) (x1l : Nat) (x1c : Nat) (x2a : Option Addr) (x2l : Nat) (x2c : Nat) (x7a : Option Addr) (x7l : Nat) (x7c : Nat) (x86a : Option Addr) (x86l : Nat) (x86c : Nat) (x87 : Int) (x88 : Int) (R : Ending → Mem → Prop) (m : Mem) : Prop :=
  ∃ (I : Nat → Option Addr → Nat → Nat → Option Addr → Nat → Nat → Option Addr → Nat → Nat → Option Addr → Nat → Nat → Int → Int → Mem → Prop) (N : Nat), I N x1a x1l x1c x2a x2l x2c x7a x7l x7c x86a x86l x86c x87 x88 m ∧ ∀ N x1a x1l x1c x2a x2l x2c x7a x7l x7c x86a x86l x86c x87 x88 m, I N x1a x1l x1c x2a x2l x2c x7a x7l x7c x86a x86l x86c x87 x88 m → l3B  (fun x1a x1l x1c x2a x2l x2c x7a x7l x7c x86a x86l x86c x87 x88 m => ∃ N1, N1 < N ∧ I N1 x1a x1l x1c x2a x2l x2c x7a x7l x7c x86a x86l x86c x87 x88 m) x1a x1l x1c x2a x2l x2c x7a x7l x7c x86a x86l x86c x87 x88 R m
noncomputable def l3A  (K3 : Option Addr → Nat → Nat → Option Addr → Nat → Nat → Option Addr → Nat → Nat → Option Addr → Nat → Nat → Int → Int → Mem → Prop) (R : Ending → Mem → Prop) : ACode := (.code (lP (bB (sR (cT (sR (cE (sR (cE (sR (bB (sR (sL (sR (sR (body))))))))))))))))
def l5E (K : Option Addr → Nat → Nat → Nat → Nat → Option Addr → Nat → Nat → Option Addr → Nat → Nat → Mem → Prop) : Env → Mem → Prop := fun ρ m => UnS (ρ 1) fun x1a x1l x1c => UnPA (ρ 3) fun x3b x3o => UnS (ρ 7) fun x7a x7l x7c => UnS (ρ 14) fun x14a x14l x14c => K x1a x1l x1c x3b x3o x7a x7l x7c x14a x14l x14c m
def l5B  (K5 : Option Addr → Nat → Nat → Nat → Nat → Option Addr → Nat → Nat → Option Addr → Nat → Nat → Mem → Prop) (x1a : Option Addr) (x1l : Nat) (x1c : Nat) (x3b : Nat) (x3o : Nat) (x7a : Option Addr) (x7l : Nat) (x7c : Nat) (x14a : Option Addr) (x14l : Nat) (x14c : Nat) (R : Ending → Mem → Prop) (m : Mem) : Prop :=
 HC P regex_join.id #[.slice x7a x7l x7c, .slice x14a x14l x14c] m (Cont (fun v m1 =>
   UnB v fun x36 =>
   Br x36 (
    LdV m1 x3b (x3o + 5) fun v =>
    UnS v fun x38a x38l x38c =>
    IxS x38a x38l 0 6 fun x39b x39o =>
    LdV m1 x39b x39o fun v =>
    UnI v .i64 fun x40_0 =>
    LdV m1 x39b (x39o + 1) fun v =>
    UnI v .u64 fun x40_1 =>
    LdV m1 x39b (x39o + 2) fun v =>
    UnI v .u64 fun x40_2 =>
    LdV m1 x39b (x39o + 3) fun v =>
    UnI v .u64 fun x40_3 =>
    LdV m1 x39b (x39o + 4) fun v =>
    UnI v .u64 fun x40_4 =>
    LdV m1 x39b (x39o + 5) fun v =>
    UnS v fun x40_5a x40_5l x40_5c =>
    HC P regex_from.id #[.agg #[.int .i64 x40_0, .int .u64 x40_1, .int .u64 x40_2, .int .u64 x40_3, .int .u64 x40_4, .slice x40_5a x40_5l x40_5c], .slice x1a x1l x1c, .slice x14a x14l x14c] m1 (Cont (fun v m2 =>
      UnS v fun x43a x43l x43c =>
      K5 x1a x1l x1c x3b x3o x7a x7l x7c x43a x43l x43c m2) (panicR R))) (
    R (.returned (.slice x7a x7l x7c)) m1)) (panicR R))
def l5  (x1a : Option Addr) (x1l : Nat) (x1c : Nat) (x3b : Nat) (x3o : Nat) (x7a : Option Addr) (x7l : Nat) (x7c : Nat) (x14a : Option Addr) (x14l : Nat) (x14c : Nat) (R : Ending → Mem → Prop) (m : Mem) : Prop :=
  ∃ (I : Nat → Option Addr → Nat → Nat → Nat → Nat → Option Addr → Nat → Nat → Option Addr → Nat → Nat → Mem → Prop) (N : Nat), I N x1a x1l x1c x3b x3o x7a x7l x7c x14a x14l x14c m ∧ ∀ N x1a x1l x1c x3b x3o x7a x7l x7c x14a x14l x14c m, I N x1a x1l x1c x3b x3o x7a x7l x7c x14a x14l x14c m → l5B  (fun x1a x1l x1c x3b x3o x7a x7l x7c x14a x14l x14c m => ∃ N1, N1 < N ∧ I N1 x1a x1l x1c x3b x3o x7a x7l x7c x14a x14l x14c m) x1a x1l x1c x3b x3o x7a x7l x7c x14a x14l x14c R m
noncomputable def l5A  (K5 : Option Addr → Nat → Nat → Nat → Nat → Option Addr → Nat → Nat → Option Addr → Nat → Nat → Mem → Prop) (R : Ending → Mem → Prop) : ACode := (.code (lP (bB (sR (sR (cE (sR (cE (sR (cE (sR (cE (sR (bB (sR (sL (sR (sR (body)))))))))))))))))))
def k4E (K : Option Addr → Nat → Nat → Option Addr → Nat → Nat → Nat → Nat → Option Addr → Nat → Nat → Mem → Prop) : Env → Mem → Prop := fun ρ m => UnS (ρ 1) fun x1a x1l x1c => UnS (ρ 2) fun x2a x2l x2c => UnPA (ρ 3) fun x3b x3o => UnS (ρ 7) fun x7a x7l x7c => K x1a x1l x1c x2a x2l x2c x3b x3o x7a x7l x7c m
def k4  (x1a : Option Addr) (x1l : Nat) (x1c : Nat) (x2a : Option Addr) (x2l : Nat) (x2c : Nat) (x3b : Nat) (x3o : Nat) (x7a : Option Addr) (x7l : Nat) (x7c : Nat) (R : Ending → Mem → Prop) (m : Mem) : Prop :=
 LdV m x3b (x3o + 5) fun v =>
 UnS v fun x28a x28l x28c =>
 IxS x28a x28l 0 6 fun x29b x29o =>
 LdV m x29b x29o fun v =>
 UnI v .i64 fun x30_0 =>
 LdV m x29b (x29o + 1) fun v =>
 UnI v .u64 fun x30_1 =>
 LdV m x29b (x29o + 2) fun v =>
 UnI v .u64 fun x30_2 =>
 LdV m x29b (x29o + 3) fun v =>
 UnI v .u64 fun x30_3 =>
 LdV m x29b (x29o + 4) fun v =>
 UnI v .u64 fun x30_4 =>
 LdV m x29b (x29o + 5) fun v =>
 UnS v fun x30_5a x30_5l x30_5c =>
 HC P regex_from.id #[.agg #[.int .i64 x30_0, .int .u64 x30_1, .int .u64 x30_2, .int .u64 x30_3, .int .u64 x30_4, .slice x30_5a x30_5l x30_5c], .slice x1a x1l x1c, .slice x2a x2l x2c] m (Cont (fun v m1 =>
   UnS v fun x33a x33l x33c =>
   l5  x1a x1l x1c x3b x3o x7a x7l x7c x33a x33l x33c R m1) (panicR R))
noncomputable def k4A  (R : Ending → Mem → Prop) : ACode := (.seq (.code (sL (sR (cE (sR (cE (sR (cE (sR (cE (sR (bB (sR (sL (sR (sR (body))))))))))))))))) (.block 1 (.cut (l5E fun x1a x1l x1c x3b x3o x7a x7l x7c x14a x14l x14c m => l5  x1a x1l x1c x3b x3o x7a x7l x7c x14a x14l x14c R m) (.loop (lP (bB (sR (sR (cE (sR (cE (sR (cE (sR (cE (sR (bB (sR (sL (sR (sR (body))))))))))))))))))))))
def e0 (a0_0 : Int) (a0_1 : Int) (a0_2 : Int) (a0_3 : Int) (a0_4 : Int) (a0_5a : Option Addr) (a0_5l : Nat) (a0_5c : Nat) (a1a : Option Addr) (a1l : Nat) (a1c : Nat) (a2a : Option Addr) (a2l : Nat) (a2c : Nat) (R : Ending → Mem → Prop) (m : Mem) : Prop :=
 NewC m #[.int .i64 a0_0, .int .u64 a0_1, .int .u64 a0_2, .int .u64 a0_3, .int .u64 a0_4, .slice a0_5a a0_5l a0_5c] T_api_Rx fun b3 m1 =>
 MkS P m1 T_sl_bool (.int .i64 (IntKind.i64.wrap (((a1l : Nat) : Int) + 1))) (.int .i64 (IntKind.i64.wrap (((a1l : Nat) : Int) + 1))) (fun w m2 =>
  UnS w fun x18a x18l x18c =>
  LdV m2 b3 0 fun v =>
  UnI v .i64 fun x20 =>
  Br (x20 == 1) (
   l1  a2a a2l a2c b3 0 x18a x18l x18c a1a a1l a1c ((a1l : Nat) : Int) 0 R m2) (
   Br (x20 == 2) (
    LdV m2 b3 5 fun v =>
    UnS v fun x71a x71l x71c =>
    l2  a1a a1l a1c a2a a2l a2c x71a x71l x71c ((x71l : Nat) : Int) 0 R m2) (
    Br (x20 == 3) (
     LdV m2 b3 5 fun v =>
     UnS v fun x86a x86l x86c =>
     l3  a1a a1l a1c a2a a2l a2c x18a x18l x18c x86a x86l x86c ((x86l : Nat) : Int) 0 R m2) (
     Br (x20 == 6) (
      HC P regex_join.id #[.slice x18a x18l x18c, .slice a2a a2l a2c] m2 (Cont (fun v m3 =>
        UnB v fun x103 =>
        LdV m3 b3 5 fun v =>
        UnS v fun x106a x106l x106c =>
        IxS x106a x106l 0 6 fun x107b x107o =>
        LdV m3 x107b x107o fun v =>
        UnI v .i64 fun x108_0 =>
        LdV m3 x107b (x107o + 1) fun v =>
        UnI v .u64 fun x108_1 =>
        LdV m3 x107b (x107o + 2) fun v =>
        UnI v .u64 fun x108_2 =>
        LdV m3 x107b (x107o + 3) fun v =>
        UnI v .u64 fun x108_3 =>
        LdV m3 x107b (x107o + 4) fun v =>
        UnI v .u64 fun x108_4 =>
        LdV m3 x107b (x107o + 5) fun v =>
        UnS v fun x108_5a x108_5l x108_5c =>
        HC P regex_from.id #[.agg #[.int .i64 x108_0, .int .u64 x108_1, .int .u64 x108_2, .int .u64 x108_3, .int .u64 x108_4, .slice x108_5a x108_5l x108_5c], .slice a1a a1l a1c, .slice a2a a2l a2c] m3 (Cont (fun v m4 =>
        UnS v fun x111a x111l x111c =>
        HC P regex_join.id #[.slice x18a x18l x18c, .slice x111a x111l x111c] m4 (Cont (fun v m5 =>
        UnB v fun x112 =>
        R (.returned (.slice x18a x18l x18c)) m5) (panicR R))) (panicR R))) (panicR R))) (
      LdV m2 b3 0 fun v =>
      UnI v .i64 fun x22 =>
      Br (x22 == 4) (
       HC P regex_join.id #[.slice x18a x18l x18c, .slice a2a a2l a2c] m2 (Cont (fun v m3 =>
        UnB v fun x26 =>
        k4  a1a a1l a1c a2a a2l a2c b3 0 x18a x18l x18c R m3) (panicR R))) (
       k4  a1a a1l a1c a2a a2l a2c b3 0 x18a x18l x18c R m2)))))) (panicR R)
noncomputable def e0A (R : Ending → Mem → Prop) : ACode := (.seq (.code (sL (body))) (.seq (.code (sL (sR (body)))) (.seq (.seq (.code (sL (sL (sR (sR (body)))))) (.block 0 (.seq (.code (sL (bB (sR (sL (sR (sR (body)))))))) (.cond (.tmp 44) (.seq (.code (sL (cT (sR (bB (sR (sL (sR (sR (body)))))))))) (.block 3 (.cut (l1E fun x2a x2l x2c x3b x3o x7a x7l x7c x46a x46l x46c x47 x48 m => l1  x2a x2l x2c x3b x3o x7a x7l x7c x46a x46l x46c x47 x48 R m) (.loop (lP (bB (sR (cT (sR (bB (sR (sL (sR (sR (body))))))))))))))) (.seq (.code (sL (cE (sR (bB (sR (sL (sR (sR (body)))))))))) (.cond (.tmp 68) (.seq (.seq (.code (sL (sL (cT (sR (cE (sR (bB (sR (sL (sR (sR (body))))))))))))) (.block 5 (.cut (l2E fun x1a x1l x1c x2a x2l x2c x71a x71l x71c x72 x73 m => l2  x1a x1l x1c x2a x2l x2c x71a x71l x71c x72 x73 R m) (.loop (lP (bB (sR (sL (cT (sR (cE (sR (bB (sR (sL (sR (sR (body)))))))))))))))))) (.code (sR (cT (sR (cE (sR (bB (sR (sL (sR (sR (body))))))))))))) (.seq (.code (sL (cE (sR (cE (sR (bB (sR (sL (sR (sR (body)))))))))))) (.cond (.tmp 83) (.seq (.code (sL (cT (sR (cE (sR (cE (sR (bB (sR (sL (sR (sR (body)))))))))))))) (.block 7 (.cut (l3E fun x1a x1l x1c x2a x2l x2c x7a x7l x7c x86a x86l x86c x87 x88 m => l3  x1a x1l x1c x2a x2l x2c x7a x7l x7c x86a x86l x86c x87 x88 R m) (.loop (lP (bB (sR (cT (sR (cE (sR (cE (sR (bB (sR (sL (sR (sR (body))))))))))))))))))) (.seq (.code (sL (cE (sR (cE (sR (cE (sR (bB (sR (sL (sR (sR (body)))))))))))))) (.cond (.tmp 99) (.code (cT (sR (cE (sR (cE (sR (cE (sR (bB (sR (sL (sR (sR (body))))))))))))))) (.seq (.code (sL (cE (sR (cE (sR (cE (sR (cE (sR (bB (sR (sL (sR (sR (body)))))))))))))))) (.cut (k4E fun x1a x1l x1c x2a x2l x2c x3b x3o x7a x7l x7c m => k4  x1a x1l x1c x2a x2l x2c x3b x3o x7a x7l x7c R m) (sR (cE (sR (cE (sR (cE (sR (cE (sR (bB (sR (sL (sR (sR (body))))))))))))))))))))))))))) (.code (sR (sR (sR (body))))))))
abbrev l1Q  (R : Ending → Mem → Prop) : Exit → Env → Mem → Prop := (blockQ 3 (blockQ 0 (thenQ (acpt P od (panicR R) (.code (sR (sR (sR (body))))) (bodyQ P fn R)) (bodyQ P fn R))))
abbrev l2Q  (R : Ending → Mem → Prop) : Exit → Env → Mem → Prop := (blockQ 5 (thenQ (acpt P od (panicR R) (.code (sR (cT (sR (cE (sR (bB (sR (sL (sR (sR (body)))))))))))) (blockQ 0 (thenQ (acpt P od (panicR R) (.code (sR (sR (sR (body))))) (bodyQ P fn R)) (bodyQ P fn R)))) (blockQ 0 (thenQ (acpt P od (panicR R) (.code (sR (sR (sR (body))))) (bodyQ P fn R)) (bodyQ P fn R)))))
abbrev l3Q  (R : Ending → Mem → Prop) : Exit → Env → Mem → Prop := (blockQ 7 (blockQ 0 (thenQ (acpt P od (panicR R) (.code (sR (sR (sR (body))))) (bodyQ P fn R)) (bodyQ P fn R))))
abbrev k4Q  (R : Ending → Mem → Prop) : Exit → Env → Mem → Prop := (blockQ 0 (thenQ (acpt P od (panicR R) (.code (sR (sR (sR (body))))) (bodyQ P fn R)) (bodyQ P fn R)))
abbrev l5Q  (R : Ending → Mem → Prop) : Exit → Env → Mem → Prop := (blockQ 1 (k4Q  R))
theorem l1_eq  (K1 : Option Addr → Nat → Nat → Nat → Nat → Option Addr → Nat → Nat → Option Addr → Nat → Nat → Int → Int → Mem → Prop) (R : Ending → Mem → Prop) (x2a : Option Addr) (x2l : Nat) (x2c : Nat) (x3b : Nat) (x3o : Nat) (x7a : Option Addr) (x7l : Nat) (x7c : Nat) (x46a : Option Addr) (x46l : Nat) (x46c : Nat) (x47 : Int) (x48 : Int) (ρ : Env) (m : Mem) : l1B  K1 x2a x2l x2c x3b x3o x7a x7l x7c x46a x46l x46c x47 x48 R m = acpt P od (panicR R) (l1A  K1 R) (thenQ (l1E K1) (l1Q  R)) (upd (upd (upd (upd (upd (upd ρ 48 (.int .i64 x48)) 47 (.int .i64 x47)) 46 (.slice x46a x46l x46c)) 7 (.slice x7a x7l x7c)) 3 (.pointer (some ⟨x3b, x3o, none⟩))) 2 (.slice x2a x2l x2c)) m := by kernel_rfl
theorem l1_er  (K1 : Option Addr → Nat → Nat → Nat → Nat → Option Addr → Nat → Nat → Option Addr → Nat → Nat → Int → Int → Mem → Prop) (R : Ending → Mem → Prop) : (l1A  K1 R).erase = lP (bB (sR (cT (sR (bB (sR (sL (sR (sR (body)))))))))) := by kernel_rfl
theorem l1_ok  (R : Ending → Mem → Prop) (ρ : Env) (m : Mem) (h : (l1E fun x2a x2l x2c x3b x3o x7a x7l x7c x46a x46l x46c x47 x48 m => l1  x2a x2l x2c x3b x3o x7a x7l x7c x46a x46l x46c x47 x48 R m) ρ m) : cpt P od (panicR R) (.loop (lP (bB (sR (cT (sR (bB (sR (sL (sR (sR (body)))))))))))) (l1Q  R) ρ m := by
  unfold l1E at h
  obtain ⟨x2a, x2l, x2c, e2, h⟩ := h.ex
  obtain ⟨x3b, x3o, e3, h⟩ := h.ex
  obtain ⟨x7a, x7l, x7c, e7, h⟩ := h.ex
  obtain ⟨x46a, x46l, x46c, e46, h⟩ := h.ex
  obtain ⟨x47, e47, h⟩ := h.ex
  obtain ⟨x48, e48, h⟩ := h.ex
  obtain ⟨I, N, h0, hs⟩ := h
  refine ⟨fun N => l1E (I N), N, (by show l1E (I N) ρ m; unfold l1E; rw [e2, e3, e7, e46, e47, e48]; exact h0), ?_⟩
  clear h0 e2 e3 e7 e46 e47 e48
  intro N ρ m h
  unfold l1E at h
  obtain ⟨x2a, x2l, x2c, e2, h⟩ := h.ex
  obtain ⟨x3b, x3o, e3, h⟩ := h.ex
  obtain ⟨x7a, x7l, x7c, e7, h⟩ := h.ex
  obtain ⟨x46a, x46l, x46c, e46, h⟩ := h.ex
  obtain ⟨x47, e47, h⟩ := h.ex
  obtain ⟨x48, e48, h⟩ := h.ex
  refine cpt_mono (P := P) (lP (bB (sR (cT (sR (bB (sR (sL (sR (sR (body))))))))))) (Q := thenQ (l1E fun x2a x2l x2c x3b x3o x7a x7l x7c x46a x46l x46c x47 x48 m => ∃ N1, N1 < N ∧ I N1 x2a x2l x2c x3b x3o x7a x7l x7c x46a x46l x46c x47 x48 m) (l1Q  R)) (fun e ρ m h => ?_) ρ m ?_
  · cases e with
    | normal =>
      have h : l1E (fun x2a x2l x2c x3b x3o x7a x7l x7c x46a x46l x46c x47 x48 m => ∃ N1, N1 < N ∧ I N1 x2a x2l x2c x3b x3o x7a x7l x7c x46a x46l x46c x47 x48 m) ρ m := h
      unfold l1E at h
      obtain ⟨x2a, x2l, x2c, e2, h⟩ := h.ex
      obtain ⟨x3b, x3o, e3, h⟩ := h.ex
      obtain ⟨x7a, x7l, x7c, e7, h⟩ := h.ex
      obtain ⟨x46a, x46l, x46c, e46, h⟩ := h.ex
      obtain ⟨x47, e47, h⟩ := h.ex
      obtain ⟨x48, e48, h⟩ := h.ex
      obtain ⟨N1, hlt, h⟩ := h
      exact ⟨N1, hlt, (by show l1E (I N1) ρ m; unfold l1E; rw [e2, e3, e7, e46, e47, e48]; exact h)⟩
    | _ => exact h
  have hh := hs N x2a x2l x2c x3b x3o x7a x7l x7c x46a x46l x46c x47 x48 m h
  generalize (fun x2a x2l x2c x3b x3o x7a x7l x7c x46a x46l x46c x47 x48 m => ∃ N1, N1 < N ∧ I N1 x2a x2l x2c x3b x3o x7a x7l x7c x46a x46l x46c x47 x48 m : Option Addr → Nat → Nat → Nat → Nat → Option Addr → Nat → Nat → Option Addr → Nat → Nat → Int → Int → Mem → Prop) = K1 at hh ⊢
  rw [← upd_self e2, ← upd_self e3, ← upd_self e7, ← upd_self e46, ← upd_self e47, ← upd_self e48]
  rw [← l1_er  K1 R]
  refine acpt_sound (P := P) (l1A  K1 R) _ _ _ True.intro ?_
  exact Eq.mp (l1_eq  K1 R x2a x2l x2c x3b x3o x7a x7l x7c x46a x46l x46c x47 x48 ρ m) hh
theorem l2_eq  (K2 : Option Addr → Nat → Nat → Option Addr → Nat → Nat → Option Addr → Nat → Nat → Int → Int → Mem → Prop) (R : Ending → Mem → Prop) (x1a : Option Addr) (x1l : Nat) (x1c : Nat) (x2a : Option Addr) (x2l : Nat) (x2c : Nat) (x71a : Option Addr) (x71l : Nat) (x71c : Nat) (x72 : Int) (x73 : Int) (ρ : Env) (m : Mem) : l2B  K2 x1a x1l x1c x2a x2l x2c x71a x71l x71c x72 x73 R m = acpt P od (panicR R) (l2A  K2 R) (thenQ (l2E K2) (l2Q  R)) (upd (upd (upd (upd (upd ρ 73 (.int .i64 x73)) 72 (.int .i64 x72)) 71 (.slice x71a x71l x71c)) 2 (.slice x2a x2l x2c)) 1 (.slice x1a x1l x1c)) m := by kernel_rfl
theorem l2_er  (K2 : Option Addr → Nat → Nat → Option Addr → Nat → Nat → Option Addr → Nat → Nat → Int → Int → Mem → Prop) (R : Ending → Mem → Prop) : (l2A  K2 R).erase = lP (bB (sR (sL (cT (sR (cE (sR (bB (sR (sL (sR (sR (body))))))))))))) := by kernel_rfl
theorem l2_ok  (R : Ending → Mem → Prop) (ρ : Env) (m : Mem) (h : (l2E fun x1a x1l x1c x2a x2l x2c x71a x71l x71c x72 x73 m => l2  x1a x1l x1c x2a x2l x2c x71a x71l x71c x72 x73 R m) ρ m) : cpt P od (panicR R) (.loop (lP (bB (sR (sL (cT (sR (cE (sR (bB (sR (sL (sR (sR (body))))))))))))))) (l2Q  R) ρ m := by
  unfold l2E at h
  obtain ⟨x1a, x1l, x1c, e1, h⟩ := h.ex
  obtain ⟨x2a, x2l, x2c, e2, h⟩ := h.ex
  obtain ⟨x71a, x71l, x71c, e71, h⟩ := h.ex
  obtain ⟨x72, e72, h⟩ := h.ex
  obtain ⟨x73, e73, h⟩ := h.ex
  obtain ⟨I, N, h0, hs⟩ := h
  refine ⟨fun N => l2E (I N), N, (by show l2E (I N) ρ m; unfold l2E; rw [e1, e2, e71, e72, e73]; exact h0), ?_⟩
  clear h0 e1 e2 e71 e72 e73
  intro N ρ m h
  unfold l2E at h
  obtain ⟨x1a, x1l, x1c, e1, h⟩ := h.ex
  obtain ⟨x2a, x2l, x2c, e2, h⟩ := h.ex
  obtain ⟨x71a, x71l, x71c, e71, h⟩ := h.ex
  obtain ⟨x72, e72, h⟩ := h.ex
  obtain ⟨x73, e73, h⟩ := h.ex
  refine cpt_mono (P := P) (lP (bB (sR (sL (cT (sR (cE (sR (bB (sR (sL (sR (sR (body)))))))))))))) (Q := thenQ (l2E fun x1a x1l x1c x2a x2l x2c x71a x71l x71c x72 x73 m => ∃ N1, N1 < N ∧ I N1 x1a x1l x1c x2a x2l x2c x71a x71l x71c x72 x73 m) (l2Q  R)) (fun e ρ m h => ?_) ρ m ?_
  · cases e with
    | normal =>
      have h : l2E (fun x1a x1l x1c x2a x2l x2c x71a x71l x71c x72 x73 m => ∃ N1, N1 < N ∧ I N1 x1a x1l x1c x2a x2l x2c x71a x71l x71c x72 x73 m) ρ m := h
      unfold l2E at h
      obtain ⟨x1a, x1l, x1c, e1, h⟩ := h.ex
      obtain ⟨x2a, x2l, x2c, e2, h⟩ := h.ex
      obtain ⟨x71a, x71l, x71c, e71, h⟩ := h.ex
      obtain ⟨x72, e72, h⟩ := h.ex
      obtain ⟨x73, e73, h⟩ := h.ex
      obtain ⟨N1, hlt, h⟩ := h
      exact ⟨N1, hlt, (by show l2E (I N1) ρ m; unfold l2E; rw [e1, e2, e71, e72, e73]; exact h)⟩
    | _ => exact h
  have hh := hs N x1a x1l x1c x2a x2l x2c x71a x71l x71c x72 x73 m h
  generalize (fun x1a x1l x1c x2a x2l x2c x71a x71l x71c x72 x73 m => ∃ N1, N1 < N ∧ I N1 x1a x1l x1c x2a x2l x2c x71a x71l x71c x72 x73 m : Option Addr → Nat → Nat → Option Addr → Nat → Nat → Option Addr → Nat → Nat → Int → Int → Mem → Prop) = K2 at hh ⊢
  rw [← upd_self e1, ← upd_self e2, ← upd_self e71, ← upd_self e72, ← upd_self e73]
  rw [← l2_er  K2 R]
  refine acpt_sound (P := P) (l2A  K2 R) _ _ _ True.intro ?_
  exact Eq.mp (l2_eq  K2 R x1a x1l x1c x2a x2l x2c x71a x71l x71c x72 x73 ρ m) hh
theorem l3_eq  (K3 : Option Addr → Nat → Nat → Option Addr → Nat → Nat → Option Addr → Nat → Nat → Option Addr → Nat → Nat → Int → Int → Mem → Prop) (R : Ending → Mem → Prop) (x1a : Option Addr) (x1l : Nat) (x1c : Nat) (x2a : Option Addr) (x2l : Nat) (x2c : Nat) (x7a : Option Addr) (x7l : Nat) (x7c : Nat) (x86a : Option Addr) (x86l : Nat) (x86c : Nat) (x87 : Int) (x88 : Int) (ρ : Env) (m : Mem) : l3B  K3 x1a x1l x1c x2a x2l x2c x7a x7l x7c x86a x86l x86c x87 x88 R m = acpt P od (panicR R) (l3A  K3 R) (thenQ (l3E K3) (l3Q  R)) (upd (upd (upd (upd (upd (upd ρ 88 (.int .i64 x88)) 87 (.int .i64 x87)) 86 (.slice x86a x86l x86c)) 7 (.slice x7a x7l x7c)) 2 (.slice x2a x2l x2c)) 1 (.slice x1a x1l x1c)) m := by kernel_rfl
theorem l3_er  (K3 : Option Addr → Nat → Nat → Option Addr → Nat → Nat → Option Addr → Nat → Nat → Option Addr → Nat → Nat → Int → Int → Mem → Prop) (R : Ending → Mem → Prop) : (l3A  K3 R).erase = lP (bB (sR (cT (sR (cE (sR (cE (sR (bB (sR (sL (sR (sR (body)))))))))))))) := by kernel_rfl
theorem l3_ok  (R : Ending → Mem → Prop) (ρ : Env) (m : Mem) (h : (l3E fun x1a x1l x1c x2a x2l x2c x7a x7l x7c x86a x86l x86c x87 x88 m => l3  x1a x1l x1c x2a x2l x2c x7a x7l x7c x86a x86l x86c x87 x88 R m) ρ m) : cpt P od (panicR R) (.loop (lP (bB (sR (cT (sR (cE (sR (cE (sR (bB (sR (sL (sR (sR (body)))))))))))))))) (l3Q  R) ρ m := by
  unfold l3E at h
  obtain ⟨x1a, x1l, x1c, e1, h⟩ := h.ex
  obtain ⟨x2a, x2l, x2c, e2, h⟩ := h.ex
  obtain ⟨x7a, x7l, x7c, e7, h⟩ := h.ex
  obtain ⟨x86a, x86l, x86c, e86, h⟩ := h.ex
  obtain ⟨x87, e87, h⟩ := h.ex
  obtain ⟨x88, e88, h⟩ := h.ex
  obtain ⟨I, N, h0, hs⟩ := h
  refine ⟨fun N => l3E (I N), N, (by show l3E (I N) ρ m; unfold l3E; rw [e1, e2, e7, e86, e87, e88]; exact h0), ?_⟩
  clear h0 e1 e2 e7 e86 e87 e88
  intro N ρ m h
  unfold l3E at h
  obtain ⟨x1a, x1l, x1c, e1, h⟩ := h.ex
  obtain ⟨x2a, x2l, x2c, e2, h⟩ := h.ex
  obtain ⟨x7a, x7l, x7c, e7, h⟩ := h.ex
  obtain ⟨x86a, x86l, x86c, e86, h⟩ := h.ex
  obtain ⟨x87, e87, h⟩ := h.ex
  obtain ⟨x88, e88, h⟩ := h.ex
  refine cpt_mono (P := P) (lP (bB (sR (cT (sR (cE (sR (cE (sR (bB (sR (sL (sR (sR (body))))))))))))))) (Q := thenQ (l3E fun x1a x1l x1c x2a x2l x2c x7a x7l x7c x86a x86l x86c x87 x88 m => ∃ N1, N1 < N ∧ I N1 x1a x1l x1c x2a x2l x2c x7a x7l x7c x86a x86l x86c x87 x88 m) (l3Q  R)) (fun e ρ m h => ?_) ρ m ?_
  · cases e with
    | normal =>
      have h : l3E (fun x1a x1l x1c x2a x2l x2c x7a x7l x7c x86a x86l x86c x87 x88 m => ∃ N1, N1 < N ∧ I N1 x1a x1l x1c x2a x2l x2c x7a x7l x7c x86a x86l x86c x87 x88 m) ρ m := h
      unfold l3E at h
      obtain ⟨x1a, x1l, x1c, e1, h⟩ := h.ex
      obtain ⟨x2a, x2l, x2c, e2, h⟩ := h.ex
      obtain ⟨x7a, x7l, x7c, e7, h⟩ := h.ex
      obtain ⟨x86a, x86l, x86c, e86, h⟩ := h.ex
      obtain ⟨x87, e87, h⟩ := h.ex
      obtain ⟨x88, e88, h⟩ := h.ex
      obtain ⟨N1, hlt, h⟩ := h
      exact ⟨N1, hlt, (by show l3E (I N1) ρ m; unfold l3E; rw [e1, e2, e7, e86, e87, e88]; exact h)⟩
    | _ => exact h
  have hh := hs N x1a x1l x1c x2a x2l x2c x7a x7l x7c x86a x86l x86c x87 x88 m h
  generalize (fun x1a x1l x1c x2a x2l x2c x7a x7l x7c x86a x86l x86c x87 x88 m => ∃ N1, N1 < N ∧ I N1 x1a x1l x1c x2a x2l x2c x7a x7l x7c x86a x86l x86c x87 x88 m : Option Addr → Nat → Nat → Option Addr → Nat → Nat → Option Addr → Nat → Nat → Option Addr → Nat → Nat → Int → Int → Mem → Prop) = K3 at hh ⊢
  rw [← upd_self e1, ← upd_self e2, ← upd_self e7, ← upd_self e86, ← upd_self e87, ← upd_self e88]
  rw [← l3_er  K3 R]
  refine acpt_sound (P := P) (l3A  K3 R) _ _ _ True.intro ?_
  exact Eq.mp (l3_eq  K3 R x1a x1l x1c x2a x2l x2c x7a x7l x7c x86a x86l x86c x87 x88 ρ m) hh
theorem l5_eq  (K5 : Option Addr → Nat → Nat → Nat → Nat → Option Addr → Nat → Nat → Option Addr → Nat → Nat → Mem → Prop) (R : Ending → Mem → Prop) (x1a : Option Addr) (x1l : Nat) (x1c : Nat) (x3b : Nat) (x3o : Nat) (x7a : Option Addr) (x7l : Nat) (x7c : Nat) (x14a : Option Addr) (x14l : Nat) (x14c : Nat) (ρ : Env) (m : Mem) : l5B  K5 x1a x1l x1c x3b x3o x7a x7l x7c x14a x14l x14c R m = acpt P od (panicR R) (l5A  K5 R) (thenQ (l5E K5) (l5Q  R)) (upd (upd (upd (upd ρ 14 (.slice x14a x14l x14c)) 7 (.slice x7a x7l x7c)) 3 (.pointer (some ⟨x3b, x3o, none⟩))) 1 (.slice x1a x1l x1c)) m := by kernel_rfl
theorem l5_er  (K5 : Option Addr → Nat → Nat → Nat → Nat → Option Addr → Nat → Nat → Option Addr → Nat → Nat → Mem → Prop) (R : Ending → Mem → Prop) : (l5A  K5 R).erase = lP (bB (sR (sR (cE (sR (cE (sR (cE (sR (cE (sR (bB (sR (sL (sR (sR (body))))))))))))))))) := by kernel_rfl
theorem l5_ok  (R : Ending → Mem → Prop) (ρ : Env) (m : Mem) (h : (l5E fun x1a x1l x1c x3b x3o x7a x7l x7c x14a x14l x14c m => l5  x1a x1l x1c x3b x3o x7a x7l x7c x14a x14l x14c R m) ρ m) : cpt P od (panicR R) (.loop (lP (bB (sR (sR (cE (sR (cE (sR (cE (sR (cE (sR (bB (sR (sL (sR (sR (body))))))))))))))))))) (l5Q  R) ρ m := by
  unfold l5E at h
  obtain ⟨x1a, x1l, x1c, e1, h⟩ := h.ex
  obtain ⟨x3b, x3o, e3, h⟩ := h.ex
  obtain ⟨x7a, x7l, x7c, e7, h⟩ := h.ex
  obtain ⟨x14a, x14l, x14c, e14, h⟩ := h.ex
  obtain ⟨I, N, h0, hs⟩ := h
  refine ⟨fun N => l5E (I N), N, (by show l5E (I N) ρ m; unfold l5E; rw [e1, e3, e7, e14]; exact h0), ?_⟩
  clear h0 e1 e3 e7 e14
  intro N ρ m h
  unfold l5E at h
  obtain ⟨x1a, x1l, x1c, e1, h⟩ := h.ex
  obtain ⟨x3b, x3o, e3, h⟩ := h.ex
  obtain ⟨x7a, x7l, x7c, e7, h⟩ := h.ex
  obtain ⟨x14a, x14l, x14c, e14, h⟩ := h.ex
  refine cpt_mono (P := P) (lP (bB (sR (sR (cE (sR (cE (sR (cE (sR (cE (sR (bB (sR (sL (sR (sR (body)))))))))))))))))) (Q := thenQ (l5E fun x1a x1l x1c x3b x3o x7a x7l x7c x14a x14l x14c m => ∃ N1, N1 < N ∧ I N1 x1a x1l x1c x3b x3o x7a x7l x7c x14a x14l x14c m) (l5Q  R)) (fun e ρ m h => ?_) ρ m ?_
  · cases e with
    | normal =>
      have h : l5E (fun x1a x1l x1c x3b x3o x7a x7l x7c x14a x14l x14c m => ∃ N1, N1 < N ∧ I N1 x1a x1l x1c x3b x3o x7a x7l x7c x14a x14l x14c m) ρ m := h
      unfold l5E at h
      obtain ⟨x1a, x1l, x1c, e1, h⟩ := h.ex
      obtain ⟨x3b, x3o, e3, h⟩ := h.ex
      obtain ⟨x7a, x7l, x7c, e7, h⟩ := h.ex
      obtain ⟨x14a, x14l, x14c, e14, h⟩ := h.ex
      obtain ⟨N1, hlt, h⟩ := h
      exact ⟨N1, hlt, (by show l5E (I N1) ρ m; unfold l5E; rw [e1, e3, e7, e14]; exact h)⟩
    | _ => exact h
  have hh := hs N x1a x1l x1c x3b x3o x7a x7l x7c x14a x14l x14c m h
  generalize (fun x1a x1l x1c x3b x3o x7a x7l x7c x14a x14l x14c m => ∃ N1, N1 < N ∧ I N1 x1a x1l x1c x3b x3o x7a x7l x7c x14a x14l x14c m : Option Addr → Nat → Nat → Nat → Nat → Option Addr → Nat → Nat → Option Addr → Nat → Nat → Mem → Prop) = K5 at hh ⊢
  rw [← upd_self e1, ← upd_self e3, ← upd_self e7, ← upd_self e14]
  rw [← l5_er  K5 R]
  refine acpt_sound (P := P) (l5A  K5 R) _ _ _ True.intro ?_
  exact Eq.mp (l5_eq  K5 R x1a x1l x1c x3b x3o x7a x7l x7c x14a x14l x14c ρ m) hh
theorem k4_eq  (R : Ending → Mem → Prop) (x1a : Option Addr) (x1l : Nat) (x1c : Nat) (x2a : Option Addr) (x2l : Nat) (x2c : Nat) (x3b : Nat) (x3o : Nat) (x7a : Option Addr) (x7l : Nat) (x7c : Nat) (ρ : Env) (m : Mem) : k4  x1a x1l x1c x2a x2l x2c x3b x3o x7a x7l x7c R m = acpt P od (panicR R) (k4A  R) (k4Q  R) (upd (upd (upd (upd ρ 7 (.slice x7a x7l x7c)) 3 (.pointer (some ⟨x3b, x3o, none⟩))) 2 (.slice x2a x2l x2c)) 1 (.slice x1a x1l x1c)) m := by kernel_rfl
theorem k4_er  (R : Ending → Mem → Prop) : (k4A  R).erase = sR (cE (sR (cE (sR (cE (sR (cE (sR (bB (sR (sL (sR (sR (body)))))))))))))) := by kernel_rfl
theorem k4_ok  (R : Ending → Mem → Prop) (ρ : Env) (m : Mem) (h : (k4E fun x1a x1l x1c x2a x2l x2c x3b x3o x7a x7l x7c m => k4  x1a x1l x1c x2a x2l x2c x3b x3o x7a x7l x7c R m) ρ m) : cpt P od (panicR R) (sR (cE (sR (cE (sR (cE (sR (cE (sR (bB (sR (sL (sR (sR (body))))))))))))))) (k4Q  R) ρ m := by
  unfold k4E at h
  obtain ⟨x1a, x1l, x1c, e1, h⟩ := h.ex
  obtain ⟨x2a, x2l, x2c, e2, h⟩ := h.ex
  obtain ⟨x3b, x3o, e3, h⟩ := h.ex
  obtain ⟨x7a, x7l, x7c, e7, h⟩ := h.ex
  rw [← upd_self e1, ← upd_self e2, ← upd_self e3, ← upd_self e7]
  rw [← k4_er  R]
  refine acpt_sound (P := P) (k4A  R) _ _ _ ⟨(fun ρ m h => l5_ok  R ρ m h), True.intro⟩ ?_
  exact Eq.mp (k4_eq  R x1a x1l x1c x2a x2l x2c x3b x3o x7a x7l x7c ρ m) h
theorem e0_eq (a0_0 : Int) (a0_1 : Int) (a0_2 : Int) (a0_3 : Int) (a0_4 : Int) (a0_5a : Option Addr) (a0_5l : Nat) (a0_5c : Nat) (a1a : Option Addr) (a1l : Nat) (a1c : Nat) (a2a : Option Addr) (a2l : Nat) (a2c : Nat) (R : Ending → Mem → Prop) (m : Mem) : e0 a0_0 a0_1 a0_2 a0_3 a0_4 a0_5a a0_5l a0_5c a1a a1l a1c a2a a2l a2c R m = acpt P od (panicR R) (e0A R) (bodyQ P fn R) (argE (#[.agg #[.int .i64 a0_0, .int .u64 a0_1, .int .u64 a0_2, .int .u64 a0_3, .int .u64 a0_4, .slice a0_5a a0_5l a0_5c], .slice a1a a1l a1c, .slice a2a a2l a2c] : Array Value).toList) m := by kernel_rfl
theorem ok (a0_0 : Int) (a0_1 : Int) (a0_2 : Int) (a0_3 : Int) (a0_4 : Int) (a0_5a : Option Addr) (a0_5l : Nat) (a0_5c : Nat) (a1a : Option Addr) (a1l : Nat) (a1c : Nat) (a2a : Option Addr) (a2l : Nat) (a2c : Nat) (R : Ending → Mem → Prop) (m : Mem) (h : e0 a0_0 a0_1 a0_2 a0_3 a0_4 a0_5a a0_5l a0_5c a1a a1l a1c a2a a2l a2c R m) : HC P id #[.agg #[.int .i64 a0_0, .int .u64 a0_1, .int .u64 a0_2, .int .u64 a0_3, .int .u64 a0_4, .slice a0_5a a0_5l a0_5c], .slice a1a a1l a1c, .slice a2a a2l a2c] m R := by
  refine HC_of (fn := fn) (c := body) (od := od) (tb := tb) Go.Proofs.Tryd.func46 (by kernel_rfl) (by kernel_rfl) follows (by kernel_rfl) (of_decide_eq_true (by kernel_rfl)) ?_
  have he : (e0A R).erase = body := by kernel_rfl
  rw [← he]
  refine acpt_sound (P := P) (e0A R) _ _ _ ⟨⟨⟨True.intro, ⟨⟨⟨⟨(fun ρ m h => l1_ok  R ρ m h), True.intro⟩, ⟨⟨⟨True.intro, ⟨(fun ρ m h => l2_ok  R ρ m h), True.intro⟩⟩, ⟨⟨⟨(fun ρ m h => l3_ok  R ρ m h), True.intro⟩, ⟨⟨True.intro, ⟨(fun ρ m h => k4_ok  R ρ m h), True.intro⟩⟩, True.intro⟩⟩, True.intro⟩⟩, True.intro⟩⟩, True.intro⟩, True.intro⟩⟩, True.intro⟩, True.intro⟩ ?_
  exact Eq.mp (e0_eq a0_0 a0_1 a0_2 a0_3 a0_4 a0_5a a0_5l a0_5c a1a a1l a1c a2a a2l a2c R m) h
end regex_from
end
end Go.E
set_option linter.unusedVariables false
set_option maxRecDepth 100000
namespace Go.E
open Go.H
noncomputable section
/-! ### eyot/eyotref8.spans -/
namespace eyotref8_spans
noncomputable def fn : Func := Go.Proofs.Tryd.f47
noncomputable def body : Code := fn.body.getD .skip
def od : Nat → Ord := fun | 8 => ordL [(0, 3), (1, 3), (2, 3), (3, 1), (4, 3), (5, 3), (6, 3), (7, 1), (8, 3), (9, 3), (10, 3), (11, 0), (12, 0), (13, 3), (14, 2)] .done | 21 => ordL [(0, 3), (1, 3), (2, 3), (3, 1), (4, 3), (5, 3), (6, 3), (7, 3), (8, 1), (9, 3), (10, 3), (11, 0), (12, 3), (13, 3), (14, 3), (15, 3), (16, 1), (17, 3), (18, 3), (19, 0), (20, 3), (21, 3), (22, 2)] .done | 47 => ordL [(0, 3), (1, 3), (2, 3), (3, 1), (4, 3), (5, 3), (6, 3), (7, 3), (8, 1), (9, 3), (10, 3), (11, 0), (12, 3), (13, 3), (14, 3), (15, 3), (16, 1), (17, 3), (18, 3), (19, 0), (20, 3), (21, 3), (22, 2)] .done | _ => .done
def tb : Nat → Tab := fun | 8 => (16384, [0, 0, 3, 7, 0, 16, 0, 64, 0, 0, 768, 1792, 4032, 8191, 16383], [(0, 64, 34), (0, 128, 35), (3, 25769803776, 36), (4, 34359738368, 37), (0, 128, 38), (16, 137438953472, 39), (0, 4, 40), (64, 549755813888, 41), (0, 2, 42), (0, 128, 43), (768, 6597069766656, 44), (1024, 8796093022208, 45), (2176, 18691697672192, 46), (8191, 343597383680, 47), (16383, 105553116266496, 0)]) | 21 => (4194304, [0, 0, 3, 7, 0, 0, 0, 96, 224, 0, 992, 2016, 4064, 8160, 8160, 32736, 65504, 8160, 262112, 524256, 1048544, 2097151, 4194303], [(0, 64, 76), (0, 1024, 77), (3, 113336795588871485128704, 78), (4, 151115727451828646838272, 79), (0, 2048, 80), (0, 64, 81), (0, 1024, 82), (96, 3626777458843887524118528, 83), (128, 4835703278458516698824704, 84), (0, 2048, 85), (768, 29014219670751100192948224, 86), (1024, 38685626227668133590597632, 87), (2048, 77371252455336267181195264, 88), (4096, 154742504910672534362391040, 89), (4096, 154742504910672534362391552, 90), (28672, 1083197534374707740536733696, 91), (36864, 1392682544196052809261514752, 92), (4096, 154742504910672534362392576, 93), (200704, 7582382740622954183757135872, 94), (266240, 10058262819193714733555384320, 95), (528384, 19961783133476756932748378112, 96), (2097151, 906694364710971881029632, 97), (4194303, 118842243771396506390315925504, 0)]) | 47 => (4194304, [0, 0, 3, 7, 0, 0, 0, 96, 224, 0, 992, 2016, 4064, 8160, 8160, 32736, 65504, 8160, 262112, 524256, 1048544, 2097151, 4194303], [(0, 64, 170), (0, 32768, 171), (3, 2244866514940266882360859903052210718191512386011136, 172), (4, 2993155353253689176481146537402947624255349848014848, 173), (0, 131072, 174), (0, 64, 175), (0, 32768, 176), (96, 71835728478088540235547516897670742982128396352356352, 177), (128, 95780971304118053647396689196894323976171195136475136, 178), (0, 131072, 179), (768, 574685827824708321884380135181365943857027170818850816, 180), (1024, 766247770432944429179173513575154591809369561091801088, 181), (2048, 1532495540865888858358347027150309183618739122183602176, 182), (4096, 3064991081731777716716694054300618367237478244367212544, 183), (4096, 3064991081731777716716694054300618367237478244367269888, 184), (28672, 21454937572122444017016858380104328570662347710570430464, 185), (36864, 27584919735585999450450246488705565305137304199304839168, 186), (4096, 3064991081731777716716694054300618367237478244367335424, 187), (200704, 150184563004857108119118008660730299994636433973993013248, 188), (266240, 199224420312565551586585113529540193870436085883868282880, 189), (528384, 395383849543399325456453533004779769373634693523369361408, 190), (2097151, 17958932119522135058886879224417685745532099088089088, 191), (4194303, 2353913150770005286438421033702874906038383291674012942336, 0)]) | _ => (0, [], [])
def l1E (K : Option Addr → Nat → Nat → Nat → Nat → Int → Option Addr → Nat → Nat → Int → Mem → Prop) : Env → Mem → Prop := fun ρ m => UnS (ρ 1) fun x1a x1l x1c => UnPA (ρ 2) fun x2b x2o => UnI (ρ 5) .i64 fun x5 => UnS (ρ 6) fun x6a x6l x6c => UnI (ρ 7) .i64 fun x7 => K x1a x1l x1c x2b x2o x5 x6a x6l x6c x7 m
def l1B  (K1 : Option Addr → Nat → Nat → Nat → Nat → Int → Option Addr → Nat → Nat → Int → Mem → Prop) (x1a : Option Addr) (x1l : Nat) (x1c : Nat) (x2b : Nat) (x2o : Nat) (x5 : Int) (x6a : Option Addr) (x6l : Nat) (x6c : Nat) (x7 : Int) (R : Ending → Mem → Prop) (m : Mem) : Prop :=
 Br (decide ((IntKind.i64.wrap (x7 + 1)) < x5)) (
  Sub m fun r1 =>
  IxS x6a x6l x7 1 fun x35b x35o =>
  LdV r1 x35b x35o fun v =>
  UnS v fun x36a x36l x36c =>
  LdV r1 x2b (x2o + 1) fun v =>
  UnI v .u64 fun x40_0 =>
  LdV r1 x2b ((x2o + 1) + 1) fun v =>
  UnI v .u64 fun x40_1 =>
  LdV r1 x2b ((x2o + 1) + 2) fun v =>
  UnI v .u64 fun x40_2 =>
  LdV r1 x2b ((x2o + 1) + 3) fun v =>
  UnI v .u64 fun x40_3 =>
  IxS x1a x1l x7 1 fun x43b x43o =>
  LdV m x43b x43o fun v =>
  UnI v .u8 fun x44 =>
  HC P eyotref8_Has.id #[.agg #[.int .u64 x40_0, .int .u64 x40_1, .int .u64 x40_2, .int .u64 x40_3], .int .u8 x44] m (Cont (fun v m2 =>
    UnB v fun x45 =>
    Lk r1 m2 fun r3 =>
    IxS x36a x36l (IntKind.i64.wrap (x7 + 1)) 1 fun x46b x46o =>
    St1 m2 x46b x46o (.bool x45) fun m4 =>
    K1 x1a x1l x1c x2b x2o x5 x6a x6l x6c (IntKind.i64.wrap (x7 + 1)) m4) (panicR R))) (
  R (.returned (.slice x6a x6l x6c)) m)
def l1  (x1a : Option Addr) (x1l : Nat) (x1c : Nat) (x2b : Nat) (x2o : Nat) (x5 : Int) (x6a : Option Addr) (x6l : Nat) (x6c : Nat) (x7 : Int) (R : Ending → Mem → Prop) (m : Mem) : Prop :=
  ∃ (I : Nat → Option Addr → Nat → Nat → Nat → Nat → Int → Option Addr → Nat → Nat → Int → Mem → Prop) (N : Nat), I N x1a x1l x1c x2b x2o x5 x6a x6l x6c x7 m ∧ ∀ N x1a x1l x1c x2b x2o x5 x6a x6l x6c x7 m, I N x1a x1l x1c x2b x2o x5 x6a x6l x6c x7 m → l1B  (fun x1a x1l x1c x2b x2o x5 x6a x6l x6c x7 m => ∃ N1, N1 < N ∧ I N1 x1a x1l x1c x2b x2o x5 x6a x6l x6c x7 m) x1a x1l x1c x2b x2o x5 x6a x6l x6c x7 R m
noncomputable def l1A  (K1 : Option Addr → Nat → Nat → Nat → Nat → Int → Option Addr → Nat → Nat → Int → Mem → Prop) (R : Ending → Mem → Prop) : ACode := (.code (lP (bB (sR (sL (cT (sR (bB (sR (sL (sR (sR (sR (body))))))))))))))
def l4E (K : Option Addr → Nat → Nat → Nat → Nat → Int → Option Addr → Nat → Nat → Int → Option Addr → Nat → Nat → Int → Int → Mem → Prop) : Env → Mem → Prop := fun ρ m => UnS (ρ 1) fun x1a x1l x1c => UnPA (ρ 2) fun x2b x2o => UnI (ρ 5) .i64 fun x5 => UnS (ρ 6) fun x6a x6l x6c => UnI (ρ 8) .i64 fun x8 => UnS (ρ 9) fun x9a x9l x9c => UnI (ρ 10) .i64 fun x10 => UnI (ρ 11) .i64 fun x11 => K x1a x1l x1c x2b x2o x5 x6a x6l x6c x8 x9a x9l x9c x10 x11 m
def l4B (K2 : Option Addr → Nat → Nat → Nat → Nat → Int → Option Addr → Nat → Nat → Int → Mem → Prop) (K3 : Option Addr → Nat → Nat → Nat → Nat → Int → Option Addr → Nat → Nat → Int → Option Addr → Nat → Nat → Int → Mem → Prop) (K4 : Option Addr → Nat → Nat → Nat → Nat → Int → Option Addr → Nat → Nat → Int → Option Addr → Nat → Nat → Int → Int → Mem → Prop) (x1a : Option Addr) (x1l : Nat) (x1c : Nat) (x2b : Nat) (x2o : Nat) (x5 : Int) (x6a : Option Addr) (x6l : Nat) (x6c : Nat) (x8 : Int) (x9a : Option Addr) (x9l : Nat) (x9c : Nat) (x10 : Int) (x11 : Int) (R : Ending → Mem → Prop) (m : Mem) : Prop :=
 Br (decide (x11 < x5)) (
  Sub m fun r1 =>
  IxS x6a x6l x10 1 fun x77b x77o =>
  LdV r1 x77b x77o fun v =>
  UnS v fun x78a x78l x78c =>
  IxS x6a x6l x10 1 fun x82b x82o =>
  LdV r1 x82b x82o fun v =>
  UnS v fun x83a x83l x83c =>
  IxS x83a x83l x11 1 fun x85b x85o =>
  LdV m x85b x85o fun v =>
  UnB v fun x86 =>
  Br x86 (
   IxS x78a x78l x11 1 fun x96b x96o =>
   St1 m x96b x96o (.bool true) fun m2 =>
   K4 x1a x1l x1c x2b x2o x5 x6a x6l x6c x8 x9a x9l x9c x10 (IntKind.i64.wrap (x11 + 1)) m2) (
   IxS x9a x9l x10 1 fun x90b x90o =>
   LdV r1 x90b x90o fun v =>
   UnS v fun x91a x91l x91c =>
   IxS x91a x91l x11 1 fun x93b x93o =>
   LdV m x93b x93o fun v =>
   UnB v fun x94 =>
   IxS x78a x78l x11 1 fun x96b x96o =>
   St1 m x96b x96o (.bool x94) fun m2 =>
   K4 x1a x1l x1c x2b x2o x5 x6a x6l x6c x8 x9a x9l x9c x10 (IntKind.i64.wrap (x11 + 1)) m2)) (
  K3 x1a x1l x1c x2b x2o x5 x6a x6l x6c x8 x9a x9l x9c (IntKind.i64.wrap (x10 + 1)) m)
def l4 (K2 : Option Addr → Nat → Nat → Nat → Nat → Int → Option Addr → Nat → Nat → Int → Mem → Prop) (K3 : Option Addr → Nat → Nat → Nat → Nat → Int → Option Addr → Nat → Nat → Int → Option Addr → Nat → Nat → Int → Mem → Prop) (x1a : Option Addr) (x1l : Nat) (x1c : Nat) (x2b : Nat) (x2o : Nat) (x5 : Int) (x6a : Option Addr) (x6l : Nat) (x6c : Nat) (x8 : Int) (x9a : Option Addr) (x9l : Nat) (x9c : Nat) (x10 : Int) (x11 : Int) (R : Ending → Mem → Prop) (m : Mem) : Prop :=
  ∃ (I : Nat → Option Addr → Nat → Nat → Nat → Nat → Int → Option Addr → Nat → Nat → Int → Option Addr → Nat → Nat → Int → Int → Mem → Prop) (N : Nat), I N x1a x1l x1c x2b x2o x5 x6a x6l x6c x8 x9a x9l x9c x10 x11 m ∧ ∀ N x1a x1l x1c x2b x2o x5 x6a x6l x6c x8 x9a x9l x9c x10 x11 m, I N x1a x1l x1c x2b x2o x5 x6a x6l x6c x8 x9a x9l x9c x10 x11 m → l4B K2 K3 (fun x1a x1l x1c x2b x2o x5 x6a x6l x6c x8 x9a x9l x9c x10 x11 m => ∃ N1, N1 < N ∧ I N1 x1a x1l x1c x2b x2o x5 x6a x6l x6c x8 x9a x9l x9c x10 x11 m) x1a x1l x1c x2b x2o x5 x6a x6l x6c x8 x9a x9l x9c x10 x11 R m
noncomputable def l4A (K2 : Option Addr → Nat → Nat → Nat → Nat → Int → Option Addr → Nat → Nat → Int → Mem → Prop) (K3 : Option Addr → Nat → Nat → Nat → Nat → Int → Option Addr → Nat → Nat → Int → Option Addr → Nat → Nat → Int → Mem → Prop) (K4 : Option Addr → Nat → Nat → Nat → Nat → Int → Option Addr → Nat → Nat → Int → Option Addr → Nat → Nat → Int → Int → Mem → Prop) (R : Ending → Mem → Prop) : ACode := (.code (lP (bB (sR (bB (sL (sR (lP (bB (sR (sR (bB (sL (sR (lP (bB (sR (sL (cT (sR (cE (sR (bB (sR (sL (sR (sR (sR (body)))))))))))))))))))))))))))))
def l3E (K : Option Addr → Nat → Nat → Nat → Nat → Int → Option Addr → Nat → Nat → Int → Option Addr → Nat → Nat → Int → Mem → Prop) : Env → Mem → Prop := fun ρ m => UnS (ρ 1) fun x1a x1l x1c => UnPA (ρ 2) fun x2b x2o => UnI (ρ 5) .i64 fun x5 => UnS (ρ 6) fun x6a x6l x6c => UnI (ρ 8) .i64 fun x8 => UnS (ρ 9) fun x9a x9l x9c => UnI (ρ 10) .i64 fun x10 => K x1a x1l x1c x2b x2o x5 x6a x6l x6c x8 x9a x9l x9c x10 m
def l3B (K2 : Option Addr → Nat → Nat → Nat → Nat → Int → Option Addr → Nat → Nat → Int → Mem → Prop) (K3 : Option Addr → Nat → Nat → Nat → Nat → Int → Option Addr → Nat → Nat → Int → Option Addr → Nat → Nat → Int → Mem → Prop) (x1a : Option Addr) (x1l : Nat) (x1c : Nat) (x2b : Nat) (x2o : Nat) (x5 : Int) (x6a : Option Addr) (x6l : Nat) (x6c : Nat) (x8 : Int) (x9a : Option Addr) (x9l : Nat) (x9c : Nat) (x10 : Int) (R : Ending → Mem → Prop) (m : Mem) : Prop :=
 Br (decide (x10 < x5)) (
  l4 K2 K3 x1a x1l x1c x2b x2o x5 x6a x6l x6c x8 x9a x9l x9c x10 x10 R m) (
  K2 x1a x1l x1c x2b x2o x5 x6a x6l x6c (IntKind.i64.wrap (x8 + 1)) m)
def l3 (K2 : Option Addr → Nat → Nat → Nat → Nat → Int → Option Addr → Nat → Nat → Int → Mem → Prop) (x1a : Option Addr) (x1l : Nat) (x1c : Nat) (x2b : Nat) (x2o : Nat) (x5 : Int) (x6a : Option Addr) (x6l : Nat) (x6c : Nat) (x8 : Int) (x9a : Option Addr) (x9l : Nat) (x9c : Nat) (x10 : Int) (R : Ending → Mem → Prop) (m : Mem) : Prop :=
  ∃ (I : Nat → Option Addr → Nat → Nat → Nat → Nat → Int → Option Addr → Nat → Nat → Int → Option Addr → Nat → Nat → Int → Mem → Prop) (N : Nat), I N x1a x1l x1c x2b x2o x5 x6a x6l x6c x8 x9a x9l x9c x10 m ∧ ∀ N x1a x1l x1c x2b x2o x5 x6a x6l x6c x8 x9a x9l x9c x10 m, I N x1a x1l x1c x2b x2o x5 x6a x6l x6c x8 x9a x9l x9c x10 m → l3B K2 (fun x1a x1l x1c x2b x2o x5 x6a x6l x6c x8 x9a x9l x9c x10 m => ∃ N1, N1 < N ∧ I N1 x1a x1l x1c x2b x2o x5 x6a x6l x6c x8 x9a x9l x9c x10 m) x1a x1l x1c x2b x2o x5 x6a x6l x6c x8 x9a x9l x9c x10 R m
noncomputable def l3A (K2 : Option Addr → Nat → Nat → Nat → Nat → Int → Option Addr → Nat → Nat → Int → Mem → Prop) (K3 : Option Addr → Nat → Nat → Nat → Nat → Int → Option Addr → Nat → Nat → Int → Option Addr → Nat → Nat → Int → Mem → Prop) (R : Ending → Mem → Prop) : ACode := (.seq (.code (sL (lP (bB (sR (sR (bB (sL (sR (lP (bB (sR (sL (cT (sR (cE (sR (bB (sR (sL (sR (sR (sR (body)))))))))))))))))))))))) (.seq (.block 6 (.seq (.code (sL (bB (sL (sR (lP (bB (sR (sR (bB (sL (sR (lP (bB (sR (sL (cT (sR (cE (sR (bB (sR (sL (sR (sR (sR (body))))))))))))))))))))))))))) (.block 7 (.cut (l4E fun x1a x1l x1c x2b x2o x5 x6a x6l x6c x8 x9a x9l x9c x10 x11 m => l4 K2 K3 x1a x1l x1c x2b x2o x5 x6a x6l x6c x8 x9a x9l x9c x10 x11 R m) (.loop (lP (bB (sR (bB (sL (sR (lP (bB (sR (sR (bB (sL (sR (lP (bB (sR (sL (cT (sR (cE (sR (bB (sR (sL (sR (sR (sR (body))))))))))))))))))))))))))))))))) (.code (sR (sR (lP (bB (sR (sR (bB (sL (sR (lP (bB (sR (sL (cT (sR (cE (sR (bB (sR (sL (sR (sR (sR (body)))))))))))))))))))))))))))
def l2E (K : Option Addr → Nat → Nat → Nat → Nat → Int → Option Addr → Nat → Nat → Int → Mem → Prop) : Env → Mem → Prop := fun ρ m => UnS (ρ 1) fun x1a x1l x1c => UnPA (ρ 2) fun x2b x2o => UnI (ρ 5) .i64 fun x5 => UnS (ρ 6) fun x6a x6l x6c => UnI (ρ 8) .i64 fun x8 => K x1a x1l x1c x2b x2o x5 x6a x6l x6c x8 m
def l2B  (K2 : Option Addr → Nat → Nat → Nat → Nat → Int → Option Addr → Nat → Nat → Int → Mem → Prop) (x1a : Option Addr) (x1l : Nat) (x1c : Nat) (x2b : Nat) (x2o : Nat) (x5 : Int) (x6a : Option Addr) (x6l : Nat) (x6c : Nat) (x8 : Int) (R : Ending → Mem → Prop) (m : Mem) : Prop :=
 LdV m x2b (x2o + 5) fun v =>
 UnS v fun x52a x52l x52c =>
 Br (decide (x8 < ((x52l : Nat) : Int))) (
  LdV m x2b (x2o + 5) fun v =>
  UnS v fun x58a x58l x58c =>
  IxS x58a x58l x8 6 fun x60b x60o =>
  LdV m x60b x60o fun v =>
  UnI v .i64 fun x61_0 =>
  LdV m x60b (x60o + 1) fun v =>
  UnI v .u64 fun x61_1 =>
  LdV m x60b (x60o + 2) fun v =>
  UnI v .u64 fun x61_2 =>
  LdV m x60b (x60o + 3) fun v =>
  UnI v .u64 fun x61_3 =>
  LdV m x60b (x60o + 4) fun v =>
  UnI v .u64 fun x61_4 =>
  LdV m x60b (x60o + 5) fun v =>
  UnS v fun x61_5a x61_5l x61_5c =>
  HC P eyotref8_spans.id #[.agg #[.int .i64 x61_0, .int .u64 x61_1, .int .u64 x61_2, .int .u64 x61_3, .int .u64 x61_4, .slice x61_5a x61_5l x61_5c], .slice x1a x1l x1c] m (Cont (fun v m1 =>
    UnS v fun x63a x63l x63c =>
    l3 K2 x1a x1l x1c x2b x2o x5 x6a x6l x6c x8 x63a x63l x63c 0 R m1) (panicR R))) (
  R (.returned (.slice x6a x6l x6c)) m)
def l2  (x1a : Option Addr) (x1l : Nat) (x1c : Nat) (x2b : Nat) (x2o : Nat) (x5 : Int) (x6a : Option Addr) (x6l : Nat) (x6c : Nat) (x8 : Int) (R : Ending → Mem → Prop) (m : Mem) : Prop :=
  ∃ (I : Nat → Option Addr → Nat → Nat → Nat → Nat → Int → Option Addr → Nat → Nat → Int → Mem → Prop) (N : Nat), I N x1a x1l x1c x2b x2o x5 x6a x6l x6c x8 m ∧ ∀ N x1a x1l x1c x2b x2o x5 x6a x6l x6c x8 m, I N x1a x1l x1c x2b x2o x5 x6a x6l x6c x8 m → l2B  (fun x1a x1l x1c x2b x2o x5 x6a x6l x6c x8 m => ∃ N1, N1 < N ∧ I N1 x1a x1l x1c x2b x2o x5 x6a x6l x6c x8 m) x1a x1l x1c x2b x2o x5 x6a x6l x6c x8 R m
noncomputable def l2A  (K2 : Option Addr → Nat → Nat → Nat → Nat → Int → Option Addr → Nat → Nat → Int → Mem → Prop) (R : Ending → Mem → Prop) : ACode := (.seq (.code (sL (lP (bB (sR (sL (cT (sR (cE (sR (bB (sR (sL (sR (sR (sR (body))))))))))))))))) (.seq (.block 4 (.seq (.code (sL (bB (sL (sR (lP (bB (sR (sL (cT (sR (cE (sR (bB (sR (sL (sR (sR (sR (body)))))))))))))))))))) (.seq (.code (sL (sR (bB (sL (sR (lP (bB (sR (sL (cT (sR (cE (sR (bB (sR (sL (sR (sR (sR (body))))))))))))))))))))) (.block 5 (.cut (l3E fun x1a x1l x1c x2b x2o x5 x6a x6l x6c x8 x9a x9l x9c x10 m => l3 K2 x1a x1l x1c x2b x2o x5 x6a x6l x6c x8 x9a x9l x9c x10 R m) (.loop (lP (bB (sR (sR (bB (sL (sR (lP (bB (sR (sL (cT (sR (cE (sR (bB (sR (sL (sR (sR (sR (body)))))))))))))))))))))))))))) (.code (sR (sR (lP (bB (sR (sL (cT (sR (cE (sR (bB (sR (sL (sR (sR (sR (body))))))))))))))))))))
def l5E (K : Option Addr → Nat → Nat → Nat → Nat → Option Addr → Nat → Nat → Int → Mem → Prop) : Env → Mem → Prop := fun ρ m => UnS (ρ 1) fun x1a x1l x1c => UnPA (ρ 2) fun x2b x2o => UnS (ρ 6) fun x6a x6l x6c => UnI (ρ 12) .i64 fun x12 => K x1a x1l x1c x2b x2o x6a x6l x6c x12 m
def l5B  (K5 : Option Addr → Nat → Nat → Nat → Nat → Option Addr → Nat → Nat → Int → Mem → Prop) (x1a : Option Addr) (x1l : Nat) (x1c : Nat) (x2b : Nat) (x2o : Nat) (x6a : Option Addr) (x6l : Nat) (x6c : Nat) (x12 : Int) (R : Ending → Mem → Prop) (m : Mem) : Prop :=
 LdV m x2b (x2o + 5) fun v =>
 UnS v fun x104a x104l x104c =>
 Br (decide (x12 < ((x104l : Nat) : Int))) (
  LdV m x2b (x2o + 5) fun v =>
  UnS v fun x111a x111l x111c =>
  IxS x111a x111l x12 6 fun x113b x113o =>
  LdV m x113b x113o fun v =>
  UnI v .i64 fun x114_0 =>
  LdV m x113b (x113o + 1) fun v =>
  UnI v .u64 fun x114_1 =>
  LdV m x113b (x113o + 2) fun v =>
  UnI v .u64 fun x114_2 =>
  LdV m x113b (x113o + 3) fun v =>
  UnI v .u64 fun x114_3 =>
  LdV m x113b (x113o + 4) fun v =>
  UnI v .u64 fun x114_4 =>
  LdV m x113b (x113o + 5) fun v =>
  UnS v fun x114_5a x114_5l x114_5c =>
  HC P eyotref8_spans.id #[.agg #[.int .i64 x114_0, .int .u64 x114_1, .int .u64 x114_2, .int .u64 x114_3, .int .u64 x114_4, .slice x114_5a x114_5l x114_5c], .slice x1a x1l x1c] m (Cont (fun v m1 =>
    UnS v fun x116a x116l x116c =>
    HC P eyotref8_behind.id #[.slice x6a x6l x6c, .slice x116a x116l x116c] m1 (Cont (fun v m2 =>
      UnS v fun x117a x117l x117c =>
      K5 x1a x1l x1c x2b x2o x117a x117l x117c (IntKind.i64.wrap (x12 + 1)) m2) (panicR R))) (panicR R))) (
  R (.returned (.slice x6a x6l x6c)) m)
def l5  (x1a : Option Addr) (x1l : Nat) (x1c : Nat) (x2b : Nat) (x2o : Nat) (x6a : Option Addr) (x6l : Nat) (x6c : Nat) (x12 : Int) (R : Ending → Mem → Prop) (m : Mem) : Prop :=
  ∃ (I : Nat → Option Addr → Nat → Nat → Nat → Nat → Option Addr → Nat → Nat → Int → Mem → Prop) (N : Nat), I N x1a x1l x1c x2b x2o x6a x6l x6c x12 m ∧ ∀ N x1a x1l x1c x2b x2o x6a x6l x6c x12 m, I N x1a x1l x1c x2b x2o x6a x6l x6c x12 m → l5B  (fun x1a x1l x1c x2b x2o x6a x6l x6c x12 m => ∃ N1, N1 < N ∧ I N1 x1a x1l x1c x2b x2o x6a x6l x6c x12 m) x1a x1l x1c x2b x2o x6a x6l x6c x12 R m
noncomputable def l5A  (K5 : Option Addr → Nat → Nat → Nat → Nat → Option Addr → Nat → Nat → Int → Mem → Prop) (R : Ending → Mem → Prop) : ACode := (.code (lP (bB (sR (sL (sR (cT (sR (cE (sR (cE (sR (bB (sR (sL (sR (sR (sR (body)))))))))))))))))))
def l6E (K : Int → Option Addr → Nat → Nat → Int → Mem → Prop) : Env → Mem → Prop := fun ρ m => UnI (ρ 5) .i64 fun x5 => UnS (ρ 13) fun x13a x13l x13c => UnI (ρ 14) .i64 fun x14 => K x5 x13a x13l x13c x14 m
def l6B  (K6 : Int → Option Addr → Nat → Nat → Int → Mem → Prop) (x5 : Int) (x13a : Option Addr) (x13l : Nat) (x13c : Nat) (x14 : Int) (R : Ending → Mem → Prop) (m : Mem) : Prop :=
 Br (decide (x14 < x5)) (
  IxS x13a x13l x14 1 fun x135b x135o =>
  LdV m x135b x135o fun v =>
  UnS v fun x136a x136l x136c =>
  IxS x136a x136l x14 1 fun x138b x138o =>
  St1 m x138b x138o (.bool true) fun m1 =>
  K6 x5 x13a x13l x13c (IntKind.i64.wrap (x14 + 1)) m1) (
  R (.returned (.slice x13a x13l x13c)) m)
def l6  (x5 : Int) (x13a : Option Addr) (x13l : Nat) (x13c : Nat) (x14 : Int) (R : Ending → Mem → Prop) (m : Mem) : Prop :=
  ∃ (I : Nat → Int → Option Addr → Nat → Nat → Int → Mem → Prop) (N : Nat), I N x5 x13a x13l x13c x14 m ∧ ∀ N x5 x13a x13l x13c x14 m, I N x5 x13a x13l x13c x14 m → l6B  (fun x5 x13a x13l x13c x14 m => ∃ N1, N1 < N ∧ I N1 x5 x13a x13l x13c x14 m) x5 x13a x13l x13c x14 R m
noncomputable def l6A  (K6 : Int → Option Addr → Nat → Nat → Int → Mem → Prop) (R : Ending → Mem → Prop) : ACode := (.code (lP (bB (sR (sL (cT (sR (sL (sR (sR (sR (sR (sR (body))))))))))))))
def l9E (K : Nat → Nat → Int → Option Addr → Nat → Nat → Option Addr → Nat → Nat → Int → Int → Int → Mem → Prop) : Env → Mem → Prop := fun ρ m => UnPA (ρ 2) fun x2b x2o => UnI (ρ 5) .i64 fun x5 => UnS (ρ 6) fun x6a x6l x6c => UnS (ρ 13) fun x13a x13l x13c => UnI (ρ 15) .i64 fun x15 => UnI (ρ 16) .i64 fun x16 => UnI (ρ 17) .i64 fun x17 => K x2b x2o x5 x6a x6l x6c x13a x13l x13c x15 x16 x17 m
def l9B (K7 : Nat → Nat → Int → Option Addr → Nat → Nat → Option Addr → Nat → Nat → Int → Mem → Prop) (K8 : Nat → Nat → Int → Option Addr → Nat → Nat → Option Addr → Nat → Nat → Int → Int → Mem → Prop) (K9 : Nat → Nat → Int → Option Addr → Nat → Nat → Option Addr → Nat → Nat → Int → Int → Int → Mem → Prop) (x2b : Nat) (x2o : Nat) (x5 : Int) (x6a : Option Addr) (x6l : Nat) (x6c : Nat) (x13a : Option Addr) (x13l : Nat) (x13c : Nat) (x15 : Int) (x16 : Int) (x17 : Int) (R : Ending → Mem → Prop) (m : Mem) : Prop :=
 Br (decide (x17 < x5)) (
  IxS x6a x6l x15 1 fun x161b x161o =>
  LdV m x161b x161o fun v =>
  UnS v fun x162a x162l x162c =>
  IxS x162a x162l x16 1 fun x164b x164o =>
  LdV m x164b x164o fun v =>
  UnB v fun x165 =>
  Br x165 (
   Sub m fun r1 =>
   IxS x6a x6l x15 1 fun x171b x171o =>
   LdV r1 x171b x171o fun v =>
   UnS v fun x172a x172l x172c =>
   IxS x6a x6l x15 1 fun x176b x176o =>
   LdV r1 x176b x176o fun v =>
   UnS v fun x177a x177l x177c =>
   IxS x177a x177l x17 1 fun x179b x179o =>
   LdV m x179b x179o fun v =>
   UnB v fun x180 =>
   Br x180 (
    IxS x172a x172l x17 1 fun x190b x190o =>
    St1 m x190b x190o (.bool true) fun m2 =>
    K9 x2b x2o x5 x6a x6l x6c x13a x13l x13c x15 x16 (IntKind.i64.wrap (x17 + 1)) m2) (
    IxS x13a x13l x16 1 fun x184b x184o =>
    LdV r1 x184b x184o fun v =>
    UnS v fun x185a x185l x185c =>
    IxS x185a x185l x17 1 fun x187b x187o =>
    LdV m x187b x187o fun v =>
    UnB v fun x188 =>
    IxS x172a x172l x17 1 fun x190b x190o =>
    St1 m x190b x190o (.bool x188) fun m2 =>
    K9 x2b x2o x5 x6a x6l x6c x13a x13l x13c x15 x16 (IntKind.i64.wrap (x17 + 1)) m2)) (
   K8 x2b x2o x5 x6a x6l x6c x13a x13l x13c x15 (IntKind.i64.wrap (x16 + 1)) m)) (
  K8 x2b x2o x5 x6a x6l x6c x13a x13l x13c x15 (IntKind.i64.wrap (x16 + 1)) m)
def l9 (K7 : Nat → Nat → Int → Option Addr → Nat → Nat → Option Addr → Nat → Nat → Int → Mem → Prop) (K8 : Nat → Nat → Int → Option Addr → Nat → Nat → Option Addr → Nat → Nat → Int → Int → Mem → Prop) (x2b : Nat) (x2o : Nat) (x5 : Int) (x6a : Option Addr) (x6l : Nat) (x6c : Nat) (x13a : Option Addr) (x13l : Nat) (x13c : Nat) (x15 : Int) (x16 : Int) (x17 : Int) (R : Ending → Mem → Prop) (m : Mem) : Prop :=
  ∃ (I : Nat → Nat → Nat → Int → Option Addr → Nat → Nat → Option Addr → Nat → Nat → Int → Int → Int → Mem → Prop) (N : Nat), I N x2b x2o x5 x6a x6l x6c x13a x13l x13c x15 x16 x17 m ∧ ∀ N x2b x2o x5 x6a x6l x6c x13a x13l x13c x15 x16 x17 m, I N x2b x2o x5 x6a x6l x6c x13a x13l x13c x15 x16 x17 m → l9B K7 K8 (fun x2b x2o x5 x6a x6l x6c x13a x13l x13c x15 x16 x17 m => ∃ N1, N1 < N ∧ I N1 x2b x2o x5 x6a x6l x6c x13a x13l x13c x15 x16 x17 m) x2b x2o x5 x6a x6l x6c x13a x13l x13c x15 x16 x17 R m
noncomputable def l9A (K7 : Nat → Nat → Int → Option Addr → Nat → Nat → Option Addr → Nat → Nat → Int → Mem → Prop) (K8 : Nat → Nat → Int → Option Addr → Nat → Nat → Option Addr → Nat → Nat → Int → Int → Mem → Prop) (K9 : Nat → Nat → Int → Option Addr → Nat → Nat → Option Addr → Nat → Nat → Int → Int → Int → Mem → Prop) (R : Ending → Mem → Prop) : ACode := (.code (lP (bB (sR (bB (sL (sR (lP (bB (sR (bB (sL (sR (lP (bB (sR (sL (sR (sR (sR (sR (sR (sR (sR (body)))))))))))))))))))))))))
def l8E (K : Nat → Nat → Int → Option Addr → Nat → Nat → Option Addr → Nat → Nat → Int → Int → Mem → Prop) : Env → Mem → Prop := fun ρ m => UnPA (ρ 2) fun x2b x2o => UnI (ρ 5) .i64 fun x5 => UnS (ρ 6) fun x6a x6l x6c => UnS (ρ 13) fun x13a x13l x13c => UnI (ρ 15) .i64 fun x15 => UnI (ρ 16) .i64 fun x16 => K x2b x2o x5 x6a x6l x6c x13a x13l x13c x15 x16 m
def l8B (K7 : Nat → Nat → Int → Option Addr → Nat → Nat → Option Addr → Nat → Nat → Int → Mem → Prop) (K8 : Nat → Nat → Int → Option Addr → Nat → Nat → Option Addr → Nat → Nat → Int → Int → Mem → Prop) (x2b : Nat) (x2o : Nat) (x5 : Int) (x6a : Option Addr) (x6l : Nat) (x6c : Nat) (x13a : Option Addr) (x13l : Nat) (x13c : Nat) (x15 : Int) (x16 : Int) (R : Ending → Mem → Prop) (m : Mem) : Prop :=
 Br (decide (x16 < x5)) (
  l9 K7 K8 x2b x2o x5 x6a x6l x6c x13a x13l x13c x15 x16 (IntKind.i64.wrap (x16 + 1)) R m) (
  K7 x2b x2o x5 x6a x6l x6c x13a x13l x13c (IntKind.i64.wrap (x15 + 1)) m)
def l8 (K7 : Nat → Nat → Int → Option Addr → Nat → Nat → Option Addr → Nat → Nat → Int → Mem → Prop) (x2b : Nat) (x2o : Nat) (x5 : Int) (x6a : Option Addr) (x6l : Nat) (x6c : Nat) (x13a : Option Addr) (x13l : Nat) (x13c : Nat) (x15 : Int) (x16 : Int) (R : Ending → Mem → Prop) (m : Mem) : Prop :=
  ∃ (I : Nat → Nat → Nat → Int → Option Addr → Nat → Nat → Option Addr → Nat → Nat → Int → Int → Mem → Prop) (N : Nat), I N x2b x2o x5 x6a x6l x6c x13a x13l x13c x15 x16 m ∧ ∀ N x2b x2o x5 x6a x6l x6c x13a x13l x13c x15 x16 m, I N x2b x2o x5 x6a x6l x6c x13a x13l x13c x15 x16 m → l8B K7 (fun x2b x2o x5 x6a x6l x6c x13a x13l x13c x15 x16 m => ∃ N1, N1 < N ∧ I N1 x2b x2o x5 x6a x6l x6c x13a x13l x13c x15 x16 m) x2b x2o x5 x6a x6l x6c x13a x13l x13c x15 x16 R m
noncomputable def l8A (K7 : Nat → Nat → Int → Option Addr → Nat → Nat → Option Addr → Nat → Nat → Int → Mem → Prop) (K8 : Nat → Nat → Int → Option Addr → Nat → Nat → Option Addr → Nat → Nat → Int → Int → Mem → Prop) (R : Ending → Mem → Prop) : ACode := (.seq (.code (sL (lP (bB (sR (bB (sL (sR (lP (bB (sR (sL (sR (sR (sR (sR (sR (sR (sR (body)))))))))))))))))))) (.seq (.block 16 (.seq (.code (sL (bB (sL (sR (lP (bB (sR (bB (sL (sR (lP (bB (sR (sL (sR (sR (sR (sR (sR (sR (sR (body))))))))))))))))))))))) (.block 17 (.cut (l9E fun x2b x2o x5 x6a x6l x6c x13a x13l x13c x15 x16 x17 m => l9 K7 K8 x2b x2o x5 x6a x6l x6c x13a x13l x13c x15 x16 x17 R m) (.loop (lP (bB (sR (bB (sL (sR (lP (bB (sR (bB (sL (sR (lP (bB (sR (sL (sR (sR (sR (sR (sR (sR (sR (body))))))))))))))))))))))))))))) (.code (sR (sR (lP (bB (sR (bB (sL (sR (lP (bB (sR (sL (sR (sR (sR (sR (sR (sR (sR (body)))))))))))))))))))))))
def k10E (K : Nat → Nat → Option Addr → Nat → Nat → Option Addr → Nat → Nat → Mem → Prop) : Env → Mem → Prop := fun ρ m => UnPA (ρ 2) fun x2b x2o => UnS (ρ 6) fun x6a x6l x6c => UnS (ρ 13) fun x13a x13l x13c => K x2b x2o x6a x6l x6c x13a x13l x13c m
def k10  (x2b : Nat) (x2o : Nat) (x6a : Option Addr) (x6l : Nat) (x6c : Nat) (x13a : Option Addr) (x13l : Nat) (x13c : Nat) (R : Ending → Mem → Prop) (m : Mem) : Prop :=
 LdV m x2b x2o fun v =>
 UnI v .i64 fun x192 =>
 Br (x192 == 5) (
  HC P eyotref8_behind.id #[.slice x13a x13l x13c, .slice x6a x6l x6c] m (Cont (fun v m1 =>
    UnS v fun x196a x196l x196c =>
    R (.returned (.slice x196a x196l x196c)) m1) (panicR R))) (
  R (.returned (.slice x6a x6l x6c)) m)
noncomputable def k10A  (R : Ending → Mem → Prop) : ACode := (.code (sR (sR (sR (sR (sR (sR (sR (sR (body))))))))))
def l7E (K : Nat → Nat → Int → Option Addr → Nat → Nat → Option Addr → Nat → Nat → Int → Mem → Prop) : Env → Mem → Prop := fun ρ m => UnPA (ρ 2) fun x2b x2o => UnI (ρ 5) .i64 fun x5 => UnS (ρ 6) fun x6a x6l x6c => UnS (ρ 13) fun x13a x13l x13c => UnI (ρ 15) .i64 fun x15 => K x2b x2o x5 x6a x6l x6c x13a x13l x13c x15 m
def l7B  (K7 : Nat → Nat → Int → Option Addr → Nat → Nat → Option Addr → Nat → Nat → Int → Mem → Prop) (x2b : Nat) (x2o : Nat) (x5 : Int) (x6a : Option Addr) (x6l : Nat) (x6c : Nat) (x13a : Option Addr) (x13l : Nat) (x13c : Nat) (x15 : Int) (R : Ending → Mem → Prop) (m : Mem) : Prop :=
 Br (decide (x15 < x5)) (
  l8 K7 x2b x2o x5 x6a x6l x6c x13a x13l x13c x15 x15 R m) (
  k10  x2b x2o x6a x6l x6c x13a x13l x13c R m)
def l7  (x2b : Nat) (x2o : Nat) (x5 : Int) (x6a : Option Addr) (x6l : Nat) (x6c : Nat) (x13a : Option Addr) (x13l : Nat) (x13c : Nat) (x15 : Int) (R : Ending → Mem → Prop) (m : Mem) : Prop :=
  ∃ (I : Nat → Nat → Nat → Int → Option Addr → Nat → Nat → Option Addr → Nat → Nat → Int → Mem → Prop) (N : Nat), I N x2b x2o x5 x6a x6l x6c x13a x13l x13c x15 m ∧ ∀ N x2b x2o x5 x6a x6l x6c x13a x13l x13c x15 m, I N x2b x2o x5 x6a x6l x6c x13a x13l x13c x15 m → l7B  (fun x2b x2o x5 x6a x6l x6c x13a x13l x13c x15 m => ∃ N1, N1 < N ∧ I N1 x2b x2o x5 x6a x6l x6c x13a x13l x13c x15 m) x2b x2o x5 x6a x6l x6c x13a x13l x13c x15 R m
noncomputable def l7A  (K7 : Nat → Nat → Int → Option Addr → Nat → Nat → Option Addr → Nat → Nat → Int → Mem → Prop) (R : Ending → Mem → Prop) : ACode := (.seq (.code (sL (lP (bB (sR (sL (sR (sR (sR (sR (sR (sR (sR (body)))))))))))))) (.seq (.block 14 (.seq (.code (sL (bB (sL (sR (lP (bB (sR (sL (sR (sR (sR (sR (sR (sR (sR (body))))))))))))))))) (.block 15 (.cut (l8E fun x2b x2o x5 x6a x6l x6c x13a x13l x13c x15 x16 m => l8 K7 x2b x2o x5 x6a x6l x6c x13a x13l x13c x15 x16 R m) (.loop (lP (bB (sR (bB (sL (sR (lP (bB (sR (sL (sR (sR (sR (sR (sR (sR (sR (body))))))))))))))))))))))) (.code (sR (sR (lP (bB (sR (sL (sR (sR (sR (sR (sR (sR (sR (body)))))))))))))))))
def e0 (a0_0 : Int) (a0_1 : Int) (a0_2 : Int) (a0_3 : Int) (a0_4 : Int) (a0_5a : Option Addr) (a0_5l : Nat) (a0_5c : Nat) (a1a : Option Addr) (a1l : Nat) (a1c : Nat) (R : Ending → Mem → Prop) (m : Mem) : Prop :=
 NewC m #[.int .i64 a0_0, .int .u64 a0_1, .int .u64 a0_2, .int .u64 a0_3, .int .u64 a0_4, .slice a0_5a a0_5l a0_5c] T_api_Rx fun b2 m1 =>
 HC P eyotref8_table.id #[.int .i64 (IntKind.i64.wrap (((a1l : Nat) : Int) + 1))] m1 (Cont (fun v m2 =>
   UnS v fun x22a x22l x22c =>
   LdV m2 b2 0 fun v =>
   UnI v .i64 fun x24 =>
   Br (x24 == 1) (
    l1  a1a a1l a1c b2 0 (IntKind.i64.wrap (((a1l : Nat) : Int) + 1)) x22a x22l x22c 0 R m2) (
    Br (x24 == 3) (
     l2  a1a a1l a1c b2 0 (IntKind.i64.wrap (((a1l : Nat) : Int) + 1)) x22a x22l x22c 0 R m2) (
     Br (x24 == 2) (
      HC P eyotref8_same.id #[.int .i64 (IntKind.i64.wrap (((a1l : Nat) : Int) + 1))] m2 (Cont (fun v m3 =>
        UnS v fun x101a x101l x101c =>
        l5  a1a a1l a1c b2 0 x101a x101l x101c 0 R m3) (panicR R))) (
      LdV m2 b2 5 fun v =>
      UnS v fun x120a x120l x120c =>
      IxS x120a x120l 0 6 fun x121b x121o =>
      LdV m2 x121b x121o fun v =>
      UnI v .i64 fun x122_0 =>
      LdV m2 x121b (x121o + 1) fun v =>
      UnI v .u64 fun x122_1 =>
      LdV m2 x121b (x121o + 2) fun v =>
      UnI v .u64 fun x122_2 =>
      LdV m2 x121b (x121o + 3) fun v =>
      UnI v .u64 fun x122_3 =>
      LdV m2 x121b (x121o + 4) fun v =>
      UnI v .u64 fun x122_4 =>
      LdV m2 x121b (x121o + 5) fun v =>
      UnS v fun x122_5a x122_5l x122_5c =>
      HC P eyotref8_spans.id #[.agg #[.int .i64 x122_0, .int .u64 x122_1, .int .u64 x122_2, .int .u64 x122_3, .int .u64 x122_4, .slice x122_5a x122_5l x122_5c], .slice a1a a1l a1c] m2 (Cont (fun v m3 =>
        UnS v fun x124a x124l x124c =>
        LdV m3 b2 0 fun v =>
        UnI v .i64 fun x126 =>
        Br (x126 == 6) (
        l6  (IntKind.i64.wrap (((a1l : Nat) : Int) + 1)) x124a x124l x124c 0 R m3) (
        HC P eyotref8_same.id #[.int .i64 (IntKind.i64.wrap (((a1l : Nat) : Int) + 1))] m3 (Cont (fun v m4 =>
        UnS v fun x141a x141l x141c =>
        l7  b2 0 (IntKind.i64.wrap (((a1l : Nat) : Int) + 1)) x141a x141l x141c x124a x124l x124c 0 R m4) (panicR R)))) (panicR R)))))) (panicR R))
noncomputable def e0A (R : Ending → Mem → Prop) : ACode := (.seq (.code (sL (body))) (.seq (.code (sL (sR (body)))) (.seq (.code (sL (sR (sR (body))))) (.seq (.seq (.code (sL (sL (sR (sR (sR (body))))))) (.block 0 (.seq (.code (sL (bB (sR (sL (sR (sR (sR (body))))))))) (.cond (.tmp 25) (.seq (.seq (.code (sL (sL (cT (sR (bB (sR (sL (sR (sR (sR (body)))))))))))) (.block 1 (.cut (l1E fun x1a x1l x1c x2b x2o x5 x6a x6l x6c x7 m => l1  x1a x1l x1c x2b x2o x5 x6a x6l x6c x7 R m) (.loop (lP (bB (sR (sL (cT (sR (bB (sR (sL (sR (sR (sR (body))))))))))))))))) (.code (sR (cT (sR (bB (sR (sL (sR (sR (sR (body)))))))))))) (.seq (.code (sL (cE (sR (bB (sR (sL (sR (sR (sR (body))))))))))) (.cond (.tmp 48) (.seq (.seq (.code (sL (sL (cT (sR (cE (sR (bB (sR (sL (sR (sR (sR (body)))))))))))))) (.block 3 (.cut (l2E fun x1a x1l x1c x2b x2o x5 x6a x6l x6c x8 m => l2  x1a x1l x1c x2b x2o x5 x6a x6l x6c x8 R m) (.loop (lP (bB (sR (sL (cT (sR (cE (sR (bB (sR (sL (sR (sR (sR (body))))))))))))))))))) (.code (sR (cT (sR (cE (sR (bB (sR (sL (sR (sR (sR (body)))))))))))))) (.seq (.code (sL (cE (sR (cE (sR (bB (sR (sL (sR (sR (sR (body))))))))))))) (.cond (.tmp 98) (.seq (.code (sL (cT (sR (cE (sR (cE (sR (bB (sR (sL (sR (sR (sR (body))))))))))))))) (.seq (.seq (.code (sL (sL (sR (cT (sR (cE (sR (cE (sR (bB (sR (sL (sR (sR (sR (body))))))))))))))))) (.block 9 (.cut (l5E fun x1a x1l x1c x2b x2o x6a x6l x6c x12 m => l5  x1a x1l x1c x2b x2o x6a x6l x6c x12 R m) (.loop (lP (bB (sR (sL (sR (cT (sR (cE (sR (cE (sR (bB (sR (sL (sR (sR (sR (body)))))))))))))))))))))) (.code (sR (sR (cT (sR (cE (sR (cE (sR (bB (sR (sL (sR (sR (sR (body)))))))))))))))))) (.code (cE (sR (cE (sR (cE (sR (bB (sR (sL (sR (sR (sR (body)))))))))))))))))))))) (.seq (.code (sL (sR (sR (sR (sR (body))))))) (.seq (.seq (.code (sL (sL (sR (sR (sR (sR (sR (body))))))))) (.cond (.tmp 127) (.seq (.seq (.code (sL (sL (cT (sR (sL (sR (sR (sR (sR (sR (body)))))))))))) (.block 11 (.cut (l6E fun x5 x13a x13l x13c x14 m => l6  x5 x13a x13l x13c x14 R m) (.loop (lP (bB (sR (sL (cT (sR (sL (sR (sR (sR (sR (sR (body))))))))))))))))) (.code (sR (cT (sR (sL (sR (sR (sR (sR (sR (body)))))))))))) (.code (cE (sR (sL (sR (sR (sR (sR (sR (body)))))))))))) (.seq (.code (sL (sR (sR (sR (sR (sR (sR (body))))))))) (.seq (.seq (.code (sL (sL (sR (sR (sR (sR (sR (sR (sR (body))))))))))) (.block 13 (.cut (l7E fun x2b x2o x5 x6a x6l x6c x13a x13l x13c x15 m => l7  x2b x2o x5 x6a x6l x6c x13a x13l x13c x15 R m) (.loop (lP (bB (sR (sL (sR (sR (sR (sR (sR (sR (sR (body)))))))))))))))) (.cut (k10E fun x2b x2o x6a x6l x6c x13a x13l x13c m => k10  x2b x2o x6a x6l x6c x13a x13l x13c R m) (sR (sR (sR (sR (sR (sR (sR (sR (body))))))))))))))))))
abbrev k10Q  (R : Ending → Mem → Prop) : Exit → Env → Mem → Prop := (bodyQ P fn R)
abbrev l7Q  (R : Ending → Mem → Prop) : Exit → Env → Mem → Prop := (blockQ 13 (thenQ (acpt P od (panicR R) (.cut (k10E fun x2b x2o x6a x6l x6c x13a x13l x13c m => k10  x2b x2o x6a x6l x6c x13a x13l x13c R m) (sR (sR (sR (sR (sR (sR (sR (sR (body)))))))))) (bodyQ P fn R)) (bodyQ P fn R)))
abbrev l1Q  (R : Ending → Mem → Prop) : Exit → Env → Mem → Prop := (blockQ 1 (thenQ (acpt P od (panicR R) (.code (sR (cT (sR (bB (sR (sL (sR (sR (sR (body))))))))))) (blockQ 0 (thenQ (acpt P od (panicR R) (.seq (.code (sL (sR (sR (sR (sR (body))))))) (.seq (.seq (.code (sL (sL (sR (sR (sR (sR (sR (body))))))))) (.cond (.tmp 127) (.seq (.seq (.code (sL (sL (cT (sR (sL (sR (sR (sR (sR (sR (body)))))))))))) (.block 11 (.cut (l6E fun x5 x13a x13l x13c x14 m => l6  x5 x13a x13l x13c x14 R m) (.loop (lP (bB (sR (sL (cT (sR (sL (sR (sR (sR (sR (sR (body))))))))))))))))) (.code (sR (cT (sR (sL (sR (sR (sR (sR (sR (body)))))))))))) (.code (cE (sR (sL (sR (sR (sR (sR (sR (body)))))))))))) (.seq (.code (sL (sR (sR (sR (sR (sR (sR (body))))))))) (.seq (.seq (.code (sL (sL (sR (sR (sR (sR (sR (sR (sR (body))))))))))) (.block 13 (.cut (l7E fun x2b x2o x5 x6a x6l x6c x13a x13l x13c x15 m => l7  x2b x2o x5 x6a x6l x6c x13a x13l x13c x15 R m) (.loop (lP (bB (sR (sL (sR (sR (sR (sR (sR (sR (sR (body)))))))))))))))) (.cut (k10E fun x2b x2o x6a x6l x6c x13a x13l x13c m => k10  x2b x2o x6a x6l x6c x13a x13l x13c R m) (sR (sR (sR (sR (sR (sR (sR (sR (body)))))))))))))) (bodyQ P fn R)) (bodyQ P fn R)))) (blockQ 0 (thenQ (acpt P od (panicR R) (.seq (.code (sL (sR (sR (sR (sR (body))))))) (.seq (.seq (.code (sL (sL (sR (sR (sR (sR (sR (body))))))))) (.cond (.tmp 127) (.seq (.seq (.code (sL (sL (cT (sR (sL (sR (sR (sR (sR (sR (body)))))))))))) (.block 11 (.cut (l6E fun x5 x13a x13l x13c x14 m => l6  x5 x13a x13l x13c x14 R m) (.loop (lP (bB (sR (sL (cT (sR (sL (sR (sR (sR (sR (sR (body))))))))))))))))) (.code (sR (cT (sR (sL (sR (sR (sR (sR (sR (body)))))))))))) (.code (cE (sR (sL (sR (sR (sR (sR (sR (body)))))))))))) (.seq (.code (sL (sR (sR (sR (sR (sR (sR (body))))))))) (.seq (.seq (.code (sL (sL (sR (sR (sR (sR (sR (sR (sR (body))))))))))) (.block 13 (.cut (l7E fun x2b x2o x5 x6a x6l x6c x13a x13l x13c x15 m => l7  x2b x2o x5 x6a x6l x6c x13a x13l x13c x15 R m) (.loop (lP (bB (sR (sL (sR (sR (sR (sR (sR (sR (sR (body)))))))))))))))) (.cut (k10E fun x2b x2o x6a x6l x6c x13a x13l x13c m => k10  x2b x2o x6a x6l x6c x13a x13l x13c R m) (sR (sR (sR (sR (sR (sR (sR (sR (body)))))))))))))) (bodyQ P fn R)) (bodyQ P fn R)))))
abbrev l6Q  (R : Ending → Mem → Prop) : Exit → Env → Mem → Prop := (blockQ 11 (thenQ (acpt P od (panicR R) (.code (sR (cT (sR (sL (sR (sR (sR (sR (sR (body))))))))))) (thenQ (acpt P od (panicR R) (.seq (.code (sL (sR (sR (sR (sR (sR (sR (body))))))))) (.seq (.seq (.code (sL (sL (sR (sR (sR (sR (sR (sR (sR (body))))))))))) (.block 13 (.cut (l7E fun x2b x2o x5 x6a x6l x6c x13a x13l x13c x15 m => l7  x2b x2o x5 x6a x6l x6c x13a x13l x13c x15 R m) (.loop (lP (bB (sR (sL (sR (sR (sR (sR (sR (sR (sR (body)))))))))))))))) (.cut (k10E fun x2b x2o x6a x6l x6c x13a x13l x13c m => k10  x2b x2o x6a x6l x6c x13a x13l x13c R m) (sR (sR (sR (sR (sR (sR (sR (sR (body)))))))))))) (bodyQ P fn R)) (bodyQ P fn R))) (thenQ (acpt P od (panicR R) (.seq (.code (sL (sR (sR (sR (sR (sR (sR (body))))))))) (.seq (.seq (.code (sL (sL (sR (sR (sR (sR (sR (sR (sR (body))))))))))) (.block 13 (.cut (l7E fun x2b x2o x5 x6a x6l x6c x13a x13l x13c x15 m => l7  x2b x2o x5 x6a x6l x6c x13a x13l x13c x15 R m) (.loop (lP (bB (sR (sL (sR (sR (sR (sR (sR (sR (sR (body)))))))))))))))) (.cut (k10E fun x2b x2o x6a x6l x6c x13a x13l x13c m => k10  x2b x2o x6a x6l x6c x13a x13l x13c R m) (sR (sR (sR (sR (sR (sR (sR (sR (body)))))))))))) (bodyQ P fn R)) (bodyQ P fn R))))
abbrev l2Q  (R : Ending → Mem → Prop) : Exit → Env → Mem → Prop := (blockQ 3 (thenQ (acpt P od (panicR R) (.code (sR (cT (sR (cE (sR (bB (sR (sL (sR (sR (sR (body))))))))))))) (blockQ 0 (thenQ (acpt P od (panicR R) (.seq (.code (sL (sR (sR (sR (sR (body))))))) (.seq (.seq (.code (sL (sL (sR (sR (sR (sR (sR (body))))))))) (.cond (.tmp 127) (.seq (.seq (.code (sL (sL (cT (sR (sL (sR (sR (sR (sR (sR (body)))))))))))) (.block 11 (.cut (l6E fun x5 x13a x13l x13c x14 m => l6  x5 x13a x13l x13c x14 R m) (.loop (lP (bB (sR (sL (cT (sR (sL (sR (sR (sR (sR (sR (body))))))))))))))))) (.code (sR (cT (sR (sL (sR (sR (sR (sR (sR (body)))))))))))) (.code (cE (sR (sL (sR (sR (sR (sR (sR (body)))))))))))) (.seq (.code (sL (sR (sR (sR (sR (sR (sR (body))))))))) (.seq (.seq (.code (sL (sL (sR (sR (sR (sR (sR (sR (sR (body))))))))))) (.block 13 (.cut (l7E fun x2b x2o x5 x6a x6l x6c x13a x13l x13c x15 m => l7  x2b x2o x5 x6a x6l x6c x13a x13l x13c x15 R m) (.loop (lP (bB (sR (sL (sR (sR (sR (sR (sR (sR (sR (body)))))))))))))))) (.cut (k10E fun x2b x2o x6a x6l x6c x13a x13l x13c m => k10  x2b x2o x6a x6l x6c x13a x13l x13c R m) (sR (sR (sR (sR (sR (sR (sR (sR (body)))))))))))))) (bodyQ P fn R)) (bodyQ P fn R)))) (blockQ 0 (thenQ (acpt P od (panicR R) (.seq (.code (sL (sR (sR (sR (sR (body))))))) (.seq (.seq (.code (sL (sL (sR (sR (sR (sR (sR (body))))))))) (.cond (.tmp 127) (.seq (.seq (.code (sL (sL (cT (sR (sL (sR (sR (sR (sR (sR (body)))))))))))) (.block 11 (.cut (l6E fun x5 x13a x13l x13c x14 m => l6  x5 x13a x13l x13c x14 R m) (.loop (lP (bB (sR (sL (cT (sR (sL (sR (sR (sR (sR (sR (body))))))))))))))))) (.code (sR (cT (sR (sL (sR (sR (sR (sR (sR (body)))))))))))) (.code (cE (sR (sL (sR (sR (sR (sR (sR (body)))))))))))) (.seq (.code (sL (sR (sR (sR (sR (sR (sR (body))))))))) (.seq (.seq (.code (sL (sL (sR (sR (sR (sR (sR (sR (sR (body))))))))))) (.block 13 (.cut (l7E fun x2b x2o x5 x6a x6l x6c x13a x13l x13c x15 m => l7  x2b x2o x5 x6a x6l x6c x13a x13l x13c x15 R m) (.loop (lP (bB (sR (sL (sR (sR (sR (sR (sR (sR (sR (body)))))))))))))))) (.cut (k10E fun x2b x2o x6a x6l x6c x13a x13l x13c m => k10  x2b x2o x6a x6l x6c x13a x13l x13c R m) (sR (sR (sR (sR (sR (sR (sR (sR (body)))))))))))))) (bodyQ P fn R)) (bodyQ P fn R)))))
abbrev l5Q  (R : Ending → Mem → Prop) : Exit → Env → Mem → Prop := (blockQ 9 (thenQ (acpt P od (panicR R) (.code (sR (sR (cT (sR (cE (sR (cE (sR (bB (sR (sL (sR (sR (sR (body)))))))))))))))) (blockQ 0 (thenQ (acpt P od (panicR R) (.seq (.code (sL (sR (sR (sR (sR (body))))))) (.seq (.seq (.code (sL (sL (sR (sR (sR (sR (sR (body))))))))) (.cond (.tmp 127) (.seq (.seq (.code (sL (sL (cT (sR (sL (sR (sR (sR (sR (sR (body)))))))))))) (.block 11 (.cut (l6E fun x5 x13a x13l x13c x14 m => l6  x5 x13a x13l x13c x14 R m) (.loop (lP (bB (sR (sL (cT (sR (sL (sR (sR (sR (sR (sR (body))))))))))))))))) (.code (sR (cT (sR (sL (sR (sR (sR (sR (sR (body)))))))))))) (.code (cE (sR (sL (sR (sR (sR (sR (sR (body)))))))))))) (.seq (.code (sL (sR (sR (sR (sR (sR (sR (body))))))))) (.seq (.seq (.code (sL (sL (sR (sR (sR (sR (sR (sR (sR (body))))))))))) (.block 13 (.cut (l7E fun x2b x2o x5 x6a x6l x6c x13a x13l x13c x15 m => l7  x2b x2o x5 x6a x6l x6c x13a x13l x13c x15 R m) (.loop (lP (bB (sR (sL (sR (sR (sR (sR (sR (sR (sR (body)))))))))))))))) (.cut (k10E fun x2b x2o x6a x6l x6c x13a x13l x13c m => k10  x2b x2o x6a x6l x6c x13a x13l x13c R m) (sR (sR (sR (sR (sR (sR (sR (sR (body)))))))))))))) (bodyQ P fn R)) (bodyQ P fn R)))) (blockQ 0 (thenQ (acpt P od (panicR R) (.seq (.code (sL (sR (sR (sR (sR (body))))))) (.seq (.seq (.code (sL (sL (sR (sR (sR (sR (sR (body))))))))) (.cond (.tmp 127) (.seq (.seq (.code (sL (sL (cT (sR (sL (sR (sR (sR (sR (sR (body)))))))))))) (.block 11 (.cut (l6E fun x5 x13a x13l x13c x14 m => l6  x5 x13a x13l x13c x14 R m) (.loop (lP (bB (sR (sL (cT (sR (sL (sR (sR (sR (sR (sR (body))))))))))))))))) (.code (sR (cT (sR (sL (sR (sR (sR (sR (sR (body)))))))))))) (.code (cE (sR (sL (sR (sR (sR (sR (sR (body)))))))))))) (.seq (.code (sL (sR (sR (sR (sR (sR (sR (body))))))))) (.seq (.seq (.code (sL (sL (sR (sR (sR (sR (sR (sR (sR (body))))))))))) (.block 13 (.cut (l7E fun x2b x2o x5 x6a x6l x6c x13a x13l x13c x15 m => l7  x2b x2o x5 x6a x6l x6c x13a x13l x13c x15 R m) (.loop (lP (bB (sR (sL (sR (sR (sR (sR (sR (sR (sR (body)))))))))))))))) (.cut (k10E fun x2b x2o x6a x6l x6c x13a x13l x13c m => k10  x2b x2o x6a x6l x6c x13a x13l x13c R m) (sR (sR (sR (sR (sR (sR (sR (sR (body)))))))))))))) (bodyQ P fn R)) (bodyQ P fn R)))))
abbrev l8Q (K7 : Nat → Nat → Int → Option Addr → Nat → Nat → Option Addr → Nat → Nat → Int → Mem → Prop) (R : Ending → Mem → Prop) : Exit → Env → Mem → Prop := (blockQ 15 (blockQ 14 (thenQ (acpt P od (panicR R) (.code (sR (sR (lP (bB (sR (sL (sR (sR (sR (sR (sR (sR (sR (body))))))))))))))) (thenQ (l7E K7) (l7Q  R))) (thenQ (l7E K7) (l7Q  R)))))
abbrev l3Q (K2 : Option Addr → Nat → Nat → Nat → Nat → Int → Option Addr → Nat → Nat → Int → Mem → Prop) (R : Ending → Mem → Prop) : Exit → Env → Mem → Prop := (blockQ 5 (blockQ 4 (thenQ (acpt P od (panicR R) (.code (sR (sR (lP (bB (sR (sL (cT (sR (cE (sR (bB (sR (sL (sR (sR (sR (body)))))))))))))))))) (thenQ (l2E K2) (l2Q  R))) (thenQ (l2E K2) (l2Q  R)))))
abbrev l9Q (K7 : Nat → Nat → Int → Option Addr → Nat → Nat → Option Addr → Nat → Nat → Int → Mem → Prop) (K8 : Nat → Nat → Int → Option Addr → Nat → Nat → Option Addr → Nat → Nat → Int → Int → Mem → Prop) (R : Ending → Mem → Prop) : Exit → Env → Mem → Prop := (blockQ 17 (blockQ 16 (thenQ (acpt P od (panicR R) (.code (sR (sR (lP (bB (sR (bB (sL (sR (lP (bB (sR (sL (sR (sR (sR (sR (sR (sR (sR (body))))))))))))))))))))) (thenQ (l8E K8) (l8Q K7 R))) (thenQ (l8E K8) (l8Q K7 R)))))
abbrev l4Q (K2 : Option Addr → Nat → Nat → Nat → Nat → Int → Option Addr → Nat → Nat → Int → Mem → Prop) (K3 : Option Addr → Nat → Nat → Nat → Nat → Int → Option Addr → Nat → Nat → Int → Option Addr → Nat → Nat → Int → Mem → Prop) (R : Ending → Mem → Prop) : Exit → Env → Mem → Prop := (blockQ 7 (blockQ 6 (thenQ (acpt P od (panicR R) (.code (sR (sR (lP (bB (sR (sR (bB (sL (sR (lP (bB (sR (sL (cT (sR (cE (sR (bB (sR (sL (sR (sR (sR (body))))))))))))))))))))))))) (thenQ (l3E K3) (l3Q K2 R))) (thenQ (l3E K3) (l3Q K2 R)))))
theorem l1_eq  (K1 : Option Addr → Nat → Nat → Nat → Nat → Int → Option Addr → Nat → Nat → Int → Mem → Prop) (R : Ending → Mem → Prop) (x1a : Option Addr) (x1l : Nat) (x1c : Nat) (x2b : Nat) (x2o : Nat) (x5 : Int) (x6a : Option Addr) (x6l : Nat) (x6c : Nat) (x7 : Int) (ρ : Env) (m : Mem) : l1B  K1 x1a x1l x1c x2b x2o x5 x6a x6l x6c x7 R m = acpt P od (panicR R) (l1A  K1 R) (thenQ (l1E K1) (l1Q  R)) (upd (upd (upd (upd (upd ρ 7 (.int .i64 x7)) 6 (.slice x6a x6l x6c)) 5 (.int .i64 x5)) 2 (.pointer (some ⟨x2b, x2o, none⟩))) 1 (.slice x1a x1l x1c)) m := by kernel_rfl
theorem l1_er  (K1 : Option Addr → Nat → Nat → Nat → Nat → Int → Option Addr → Nat → Nat → Int → Mem → Prop) (R : Ending → Mem → Prop) : (l1A  K1 R).erase = lP (bB (sR (sL (cT (sR (bB (sR (sL (sR (sR (sR (body)))))))))))) := by kernel_rfl
theorem l1_ok  (R : Ending → Mem → Prop) (ρ : Env) (m : Mem) (h : (l1E fun x1a x1l x1c x2b x2o x5 x6a x6l x6c x7 m => l1  x1a x1l x1c x2b x2o x5 x6a x6l x6c x7 R m) ρ m) : cpt P od (panicR R) (.loop (lP (bB (sR (sL (cT (sR (bB (sR (sL (sR (sR (sR (body)))))))))))))) (l1Q  R) ρ m := by
  unfold l1E at h
  obtain ⟨x1a, x1l, x1c, e1, h⟩ := h.ex
  obtain ⟨x2b, x2o, e2, h⟩ := h.ex
  obtain ⟨x5, e5, h⟩ := h.ex
  obtain ⟨x6a, x6l, x6c, e6, h⟩ := h.ex
  obtain ⟨x7, e7, h⟩ := h.ex
  obtain ⟨I, N, h0, hs⟩ := h
  refine ⟨fun N => l1E (I N), N, (by show l1E (I N) ρ m; unfold l1E; rw [e1, e2, e5, e6, e7]; exact h0), ?_⟩
  clear h0 e1 e2 e5 e6 e7
  intro N ρ m h
  unfold l1E at h
  obtain ⟨x1a, x1l, x1c, e1, h⟩ := h.ex
  obtain ⟨x2b, x2o, e2, h⟩ := h.ex
  obtain ⟨x5, e5, h⟩ := h.ex
  obtain ⟨x6a, x6l, x6c, e6, h⟩ := h.ex
  obtain ⟨x7, e7, h⟩ := h.ex
  refine cpt_mono (P := P) (lP (bB (sR (sL (cT (sR (bB (sR (sL (sR (sR (sR (body))))))))))))) (Q := thenQ (l1E fun x1a x1l x1c x2b x2o x5 x6a x6l x6c x7 m => ∃ N1, N1 < N ∧ I N1 x1a x1l x1c x2b x2o x5 x6a x6l x6c x7 m) (l1Q  R)) (fun e ρ m h => ?_) ρ m ?_
  · cases e with
    | normal =>
      have h : l1E (fun x1a x1l x1c x2b x2o x5 x6a x6l x6c x7 m => ∃ N1, N1 < N ∧ I N1 x1a x1l x1c x2b x2o x5 x6a x6l x6c x7 m) ρ m := h
      unfold l1E at h
      obtain ⟨x1a, x1l, x1c, e1, h⟩ := h.ex
      obtain ⟨x2b, x2o, e2, h⟩ := h.ex
      obtain ⟨x5, e5, h⟩ := h.ex
      obtain ⟨x6a, x6l, x6c, e6, h⟩ := h.ex
      obtain ⟨x7, e7, h⟩ := h.ex
      obtain ⟨N1, hlt, h⟩ := h
      exact ⟨N1, hlt, (by show l1E (I N1) ρ m; unfold l1E; rw [e1, e2, e5, e6, e7]; exact h)⟩
    | _ => exact h
  have hh := hs N x1a x1l x1c x2b x2o x5 x6a x6l x6c x7 m h
  generalize (fun x1a x1l x1c x2b x2o x5 x6a x6l x6c x7 m => ∃ N1, N1 < N ∧ I N1 x1a x1l x1c x2b x2o x5 x6a x6l x6c x7 m : Option Addr → Nat → Nat → Nat → Nat → Int → Option Addr → Nat → Nat → Int → Mem → Prop) = K1 at hh ⊢
  rw [← upd_self e1, ← upd_self e2, ← upd_self e5, ← upd_self e6, ← upd_self e7]
  rw [← l1_er  K1 R]
  refine acpt_sound (P := P) (l1A  K1 R) _ _ _ True.intro ?_
  exact Eq.mp (l1_eq  K1 R x1a x1l x1c x2b x2o x5 x6a x6l x6c x7 ρ m) hh
theorem l4_eq (K2 : Option Addr → Nat → Nat → Nat → Nat → Int → Option Addr → Nat → Nat → Int → Mem → Prop) (K3 : Option Addr → Nat → Nat → Nat → Nat → Int → Option Addr → Nat → Nat → Int → Option Addr → Nat → Nat → Int → Mem → Prop) (K4 : Option Addr → Nat → Nat → Nat → Nat → Int → Option Addr → Nat → Nat → Int → Option Addr → Nat → Nat → Int → Int → Mem → Prop) (R : Ending → Mem → Prop) (x1a : Option Addr) (x1l : Nat) (x1c : Nat) (x2b : Nat) (x2o : Nat) (x5 : Int) (x6a : Option Addr) (x6l : Nat) (x6c : Nat) (x8 : Int) (x9a : Option Addr) (x9l : Nat) (x9c : Nat) (x10 : Int) (x11 : Int) (ρ : Env) (m : Mem) : l4B K2 K3 K4 x1a x1l x1c x2b x2o x5 x6a x6l x6c x8 x9a x9l x9c x10 x11 R m = acpt P od (panicR R) (l4A K2 K3 K4 R) (thenQ (l4E K4) (l4Q K2 K3 R)) (upd (upd (upd (upd (upd (upd (upd (upd ρ 11 (.int .i64 x11)) 10 (.int .i64 x10)) 9 (.slice x9a x9l x9c)) 8 (.int .i64 x8)) 6 (.slice x6a x6l x6c)) 5 (.int .i64 x5)) 2 (.pointer (some ⟨x2b, x2o, none⟩))) 1 (.slice x1a x1l x1c)) m := by kernel_rfl
theorem l4_er (K2 : Option Addr → Nat → Nat → Nat → Nat → Int → Option Addr → Nat → Nat → Int → Mem → Prop) (K3 : Option Addr → Nat → Nat → Nat → Nat → Int → Option Addr → Nat → Nat → Int → Option Addr → Nat → Nat → Int → Mem → Prop) (K4 : Option Addr → Nat → Nat → Nat → Nat → Int → Option Addr → Nat → Nat → Int → Option Addr → Nat → Nat → Int → Int → Mem → Prop) (R : Ending → Mem → Prop) : (l4A K2 K3 K4 R).erase = lP (bB (sR (bB (sL (sR (lP (bB (sR (sR (bB (sL (sR (lP (bB (sR (sL (cT (sR (cE (sR (bB (sR (sL (sR (sR (sR (body))))))))))))))))))))))))))) := by kernel_rfl
theorem l4_ok (K2 : Option Addr → Nat → Nat → Nat → Nat → Int → Option Addr → Nat → Nat → Int → Mem → Prop) (K3 : Option Addr → Nat → Nat → Nat → Nat → Int → Option Addr → Nat → Nat → Int → Option Addr → Nat → Nat → Int → Mem → Prop) (R : Ending → Mem → Prop) (ρ : Env) (m : Mem) (h : (l4E fun x1a x1l x1c x2b x2o x5 x6a x6l x6c x8 x9a x9l x9c x10 x11 m => l4 K2 K3 x1a x1l x1c x2b x2o x5 x6a x6l x6c x8 x9a x9l x9c x10 x11 R m) ρ m) : cpt P od (panicR R) (.loop (lP (bB (sR (bB (sL (sR (lP (bB (sR (sR (bB (sL (sR (lP (bB (sR (sL (cT (sR (cE (sR (bB (sR (sL (sR (sR (sR (body))))))))))))))))))))))))))))) (l4Q K2 K3 R) ρ m := by
  unfold l4E at h
  obtain ⟨x1a, x1l, x1c, e1, h⟩ := h.ex
  obtain ⟨x2b, x2o, e2, h⟩ := h.ex
  obtain ⟨x5, e5, h⟩ := h.ex
  obtain ⟨x6a, x6l, x6c, e6, h⟩ := h.ex
  obtain ⟨x8, e8, h⟩ := h.ex
  obtain ⟨x9a, x9l, x9c, e9, h⟩ := h.ex
  obtain ⟨x10, e10, h⟩ := h.ex
  obtain ⟨x11, e11, h⟩ := h.ex
  obtain ⟨I, N, h0, hs⟩ := h
  refine ⟨fun N => l4E (I N), N, (by show l4E (I N) ρ m; unfold l4E; rw [e1, e2, e5, e6, e8, e9, e10, e11]; exact h0), ?_⟩
  clear h0 e1 e2 e5 e6 e8 e9 e10 e11
  intro N ρ m h
  unfold l4E at h
  obtain ⟨x1a, x1l, x1c, e1, h⟩ := h.ex
  obtain ⟨x2b, x2o, e2, h⟩ := h.ex
  obtain ⟨x5, e5, h⟩ := h.ex
  obtain ⟨x6a, x6l, x6c, e6, h⟩ := h.ex
  obtain ⟨x8, e8, h⟩ := h.ex
  obtain ⟨x9a, x9l, x9c, e9, h⟩ := h.ex
  obtain ⟨x10, e10, h⟩ := h.ex
  obtain ⟨x11, e11, h⟩ := h.ex
  refine cpt_mono (P := P) (lP (bB (sR (bB (sL (sR (lP (bB (sR (sR (bB (sL (sR (lP (bB (sR (sL (cT (sR (cE (sR (bB (sR (sL (sR (sR (sR (body)))))))))))))))))))))))))))) (Q := thenQ (l4E fun x1a x1l x1c x2b x2o x5 x6a x6l x6c x8 x9a x9l x9c x10 x11 m => ∃ N1, N1 < N ∧ I N1 x1a x1l x1c x2b x2o x5 x6a x6l x6c x8 x9a x9l x9c x10 x11 m) (l4Q K2 K3 R)) (fun e ρ m h => ?_) ρ m ?_
  · cases e with
    | normal =>
      have h : l4E (fun x1a x1l x1c x2b x2o x5 x6a x6l x6c x8 x9a x9l x9c x10 x11 m => ∃ N1, N1 < N ∧ I N1 x1a x1l x1c x2b x2o x5 x6a x6l x6c x8 x9a x9l x9c x10 x11 m) ρ m := h
      unfold l4E at h
      obtain ⟨x1a, x1l, x1c, e1, h⟩ := h.ex
      obtain ⟨x2b, x2o, e2, h⟩ := h.ex
      obtain ⟨x5, e5, h⟩ := h.ex
      obtain ⟨x6a, x6l, x6c, e6, h⟩ := h.ex
      obtain ⟨x8, e8, h⟩ := h.ex
      obtain ⟨x9a, x9l, x9c, e9, h⟩ := h.ex
      obtain ⟨x10, e10, h⟩ := h.ex
      obtain ⟨x11, e11, h⟩ := h.ex
      obtain ⟨N1, hlt, h⟩ := h
      exact ⟨N1, hlt, (by show l4E (I N1) ρ m; unfold l4E; rw [e1, e2, e5, e6, e8, e9, e10, e11]; exact h)⟩
    | _ => exact h
  have hh := hs N x1a x1l x1c x2b x2o x5 x6a x6l x6c x8 x9a x9l x9c x10 x11 m h
  generalize (fun x1a x1l x1c x2b x2o x5 x6a x6l x6c x8 x9a x9l x9c x10 x11 m => ∃ N1, N1 < N ∧ I N1 x1a x1l x1c x2b x2o x5 x6a x6l x6c x8 x9a x9l x9c x10 x11 m : Option Addr → Nat → Nat → Nat → Nat → Int → Option Addr → Nat → Nat → Int → Option Addr → Nat → Nat → Int → Int → Mem → Prop) = K4 at hh ⊢
  rw [← upd_self e1, ← upd_self e2, ← upd_self e5, ← upd_self e6, ← upd_self e8, ← upd_self e9, ← upd_self e10, ← upd_self e11]
  rw [← l4_er K2 K3 K4 R]
  refine acpt_sound (P := P) (l4A K2 K3 K4 R) _ _ _ True.intro ?_
  exact Eq.mp (l4_eq K2 K3 K4 R x1a x1l x1c x2b x2o x5 x6a x6l x6c x8 x9a x9l x9c x10 x11 ρ m) hh
theorem l3_eq (K2 : Option Addr → Nat → Nat → Nat → Nat → Int → Option Addr → Nat → Nat → Int → Mem → Prop) (K3 : Option Addr → Nat → Nat → Nat → Nat → Int → Option Addr → Nat → Nat → Int → Option Addr → Nat → Nat → Int → Mem → Prop) (R : Ending → Mem → Prop) (x1a : Option Addr) (x1l : Nat) (x1c : Nat) (x2b : Nat) (x2o : Nat) (x5 : Int) (x6a : Option Addr) (x6l : Nat) (x6c : Nat) (x8 : Int) (x9a : Option Addr) (x9l : Nat) (x9c : Nat) (x10 : Int) (ρ : Env) (m : Mem) : l3B K2 K3 x1a x1l x1c x2b x2o x5 x6a x6l x6c x8 x9a x9l x9c x10 R m = acpt P od (panicR R) (l3A K2 K3 R) (thenQ (l3E K3) (l3Q K2 R)) (upd (upd (upd (upd (upd (upd (upd ρ 10 (.int .i64 x10)) 9 (.slice x9a x9l x9c)) 8 (.int .i64 x8)) 6 (.slice x6a x6l x6c)) 5 (.int .i64 x5)) 2 (.pointer (some ⟨x2b, x2o, none⟩))) 1 (.slice x1a x1l x1c)) m := by kernel_rfl
theorem l3_er (K2 : Option Addr → Nat → Nat → Nat → Nat → Int → Option Addr → Nat → Nat → Int → Mem → Prop) (K3 : Option Addr → Nat → Nat → Nat → Nat → Int → Option Addr → Nat → Nat → Int → Option Addr → Nat → Nat → Int → Mem → Prop) (R : Ending → Mem → Prop) : (l3A K2 K3 R).erase = lP (bB (sR (sR (bB (sL (sR (lP (bB (sR (sL (cT (sR (cE (sR (bB (sR (sL (sR (sR (sR (body))))))))))))))))))))) := by kernel_rfl
theorem l3_ok (K2 : Option Addr → Nat → Nat → Nat → Nat → Int → Option Addr → Nat → Nat → Int → Mem → Prop) (R : Ending → Mem → Prop) (ρ : Env) (m : Mem) (h : (l3E fun x1a x1l x1c x2b x2o x5 x6a x6l x6c x8 x9a x9l x9c x10 m => l3 K2 x1a x1l x1c x2b x2o x5 x6a x6l x6c x8 x9a x9l x9c x10 R m) ρ m) : cpt P od (panicR R) (.loop (lP (bB (sR (sR (bB (sL (sR (lP (bB (sR (sL (cT (sR (cE (sR (bB (sR (sL (sR (sR (sR (body))))))))))))))))))))))) (l3Q K2 R) ρ m := by
  unfold l3E at h
  obtain ⟨x1a, x1l, x1c, e1, h⟩ := h.ex
  obtain ⟨x2b, x2o, e2, h⟩ := h.ex
  obtain ⟨x5, e5, h⟩ := h.ex
  obtain ⟨x6a, x6l, x6c, e6, h⟩ := h.ex
  obtain ⟨x8, e8, h⟩ := h.ex
  obtain ⟨x9a, x9l, x9c, e9, h⟩ := h.ex
  obtain ⟨x10, e10, h⟩ := h.ex
  obtain ⟨I, N, h0, hs⟩ := h
  refine ⟨fun N => l3E (I N), N, (by show l3E (I N) ρ m; unfold l3E; rw [e1, e2, e5, e6, e8, e9, e10]; exact h0), ?_⟩
  clear h0 e1 e2 e5 e6 e8 e9 e10
  intro N ρ m h
  unfold l3E at h
  obtain ⟨x1a, x1l, x1c, e1, h⟩ := h.ex
  obtain ⟨x2b, x2o, e2, h⟩ := h.ex
  obtain ⟨x5, e5, h⟩ := h.ex
  obtain ⟨x6a, x6l, x6c, e6, h⟩ := h.ex
  obtain ⟨x8, e8, h⟩ := h.ex
  obtain ⟨x9a, x9l, x9c, e9, h⟩ := h.ex
  obtain ⟨x10, e10, h⟩ := h.ex
  refine cpt_mono (P := P) (lP (bB (sR (sR (bB (sL (sR (lP (bB (sR (sL (cT (sR (cE (sR (bB (sR (sL (sR (sR (sR (body)))))))))))))))))))))) (Q := thenQ (l3E fun x1a x1l x1c x2b x2o x5 x6a x6l x6c x8 x9a x9l x9c x10 m => ∃ N1, N1 < N ∧ I N1 x1a x1l x1c x2b x2o x5 x6a x6l x6c x8 x9a x9l x9c x10 m) (l3Q K2 R)) (fun e ρ m h => ?_) ρ m ?_
  · cases e with
    | normal =>
      have h : l3E (fun x1a x1l x1c x2b x2o x5 x6a x6l x6c x8 x9a x9l x9c x10 m => ∃ N1, N1 < N ∧ I N1 x1a x1l x1c x2b x2o x5 x6a x6l x6c x8 x9a x9l x9c x10 m) ρ m := h
      unfold l3E at h
      obtain ⟨x1a, x1l, x1c, e1, h⟩ := h.ex
      obtain ⟨x2b, x2o, e2, h⟩ := h.ex
      obtain ⟨x5, e5, h⟩ := h.ex
      obtain ⟨x6a, x6l, x6c, e6, h⟩ := h.ex
      obtain ⟨x8, e8, h⟩ := h.ex
      obtain ⟨x9a, x9l, x9c, e9, h⟩ := h.ex
      obtain ⟨x10, e10, h⟩ := h.ex
      obtain ⟨N1, hlt, h⟩ := h
      exact ⟨N1, hlt, (by show l3E (I N1) ρ m; unfold l3E; rw [e1, e2, e5, e6, e8, e9, e10]; exact h)⟩
    | _ => exact h
  have hh := hs N x1a x1l x1c x2b x2o x5 x6a x6l x6c x8 x9a x9l x9c x10 m h
  generalize (fun x1a x1l x1c x2b x2o x5 x6a x6l x6c x8 x9a x9l x9c x10 m => ∃ N1, N1 < N ∧ I N1 x1a x1l x1c x2b x2o x5 x6a x6l x6c x8 x9a x9l x9c x10 m : Option Addr → Nat → Nat → Nat → Nat → Int → Option Addr → Nat → Nat → Int → Option Addr → Nat → Nat → Int → Mem → Prop) = K3 at hh ⊢
  rw [← upd_self e1, ← upd_self e2, ← upd_self e5, ← upd_self e6, ← upd_self e8, ← upd_self e9, ← upd_self e10]
  rw [← l3_er K2 K3 R]
  refine acpt_sound (P := P) (l3A K2 K3 R) _ _ _ ⟨⟨True.intro, ⟨(fun ρ m h => l4_ok K2 K3 R ρ m h), True.intro⟩⟩, True.intro⟩ ?_
  exact Eq.mp (l3_eq K2 K3 R x1a x1l x1c x2b x2o x5 x6a x6l x6c x8 x9a x9l x9c x10 ρ m) hh
theorem l2_eq  (K2 : Option Addr → Nat → Nat → Nat → Nat → Int → Option Addr → Nat → Nat → Int → Mem → Prop) (R : Ending → Mem → Prop) (x1a : Option Addr) (x1l : Nat) (x1c : Nat) (x2b : Nat) (x2o : Nat) (x5 : Int) (x6a : Option Addr) (x6l : Nat) (x6c : Nat) (x8 : Int) (ρ : Env) (m : Mem) : l2B  K2 x1a x1l x1c x2b x2o x5 x6a x6l x6c x8 R m = acpt P od (panicR R) (l2A  K2 R) (thenQ (l2E K2) (l2Q  R)) (upd (upd (upd (upd (upd ρ 8 (.int .i64 x8)) 6 (.slice x6a x6l x6c)) 5 (.int .i64 x5)) 2 (.pointer (some ⟨x2b, x2o, none⟩))) 1 (.slice x1a x1l x1c)) m := by kernel_rfl
theorem l2_er  (K2 : Option Addr → Nat → Nat → Nat → Nat → Int → Option Addr → Nat → Nat → Int → Mem → Prop) (R : Ending → Mem → Prop) : (l2A  K2 R).erase = lP (bB (sR (sL (cT (sR (cE (sR (bB (sR (sL (sR (sR (sR (body)))))))))))))) := by kernel_rfl
theorem l2_ok  (R : Ending → Mem → Prop) (ρ : Env) (m : Mem) (h : (l2E fun x1a x1l x1c x2b x2o x5 x6a x6l x6c x8 m => l2  x1a x1l x1c x2b x2o x5 x6a x6l x6c x8 R m) ρ m) : cpt P od (panicR R) (.loop (lP (bB (sR (sL (cT (sR (cE (sR (bB (sR (sL (sR (sR (sR (body)))))))))))))))) (l2Q  R) ρ m := by
  unfold l2E at h
  obtain ⟨x1a, x1l, x1c, e1, h⟩ := h.ex
  obtain ⟨x2b, x2o, e2, h⟩ := h.ex
  obtain ⟨x5, e5, h⟩ := h.ex
  obtain ⟨x6a, x6l, x6c, e6, h⟩ := h.ex
  obtain ⟨x8, e8, h⟩ := h.ex
  obtain ⟨I, N, h0, hs⟩ := h
  refine ⟨fun N => l2E (I N), N, (by show l2E (I N) ρ m; unfold l2E; rw [e1, e2, e5, e6, e8]; exact h0), ?_⟩
  clear h0 e1 e2 e5 e6 e8
  intro N ρ m h
  unfold l2E at h
  obtain ⟨x1a, x1l, x1c, e1, h⟩ := h.ex
  obtain ⟨x2b, x2o, e2, h⟩ := h.ex
  obtain ⟨x5, e5, h⟩ := h.ex
  obtain ⟨x6a, x6l, x6c, e6, h⟩ := h.ex
  obtain ⟨x8, e8, h⟩ := h.ex
  refine cpt_mono (P := P) (lP (bB (sR (sL (cT (sR (cE (sR (bB (sR (sL (sR (sR (sR (body))))))))))))))) (Q := thenQ (l2E fun x1a x1l x1c x2b x2o x5 x6a x6l x6c x8 m => ∃ N1, N1 < N ∧ I N1 x1a x1l x1c x2b x2o x5 x6a x6l x6c x8 m) (l2Q  R)) (fun e ρ m h => ?_) ρ m ?_
  · cases e with
    | normal =>
      have h : l2E (fun x1a x1l x1c x2b x2o x5 x6a x6l x6c x8 m => ∃ N1, N1 < N ∧ I N1 x1a x1l x1c x2b x2o x5 x6a x6l x6c x8 m) ρ m := h
      unfold l2E at h
      obtain ⟨x1a, x1l, x1c, e1, h⟩ := h.ex
      obtain ⟨x2b, x2o, e2, h⟩ := h.ex
      obtain ⟨x5, e5, h⟩ := h.ex
      obtain ⟨x6a, x6l, x6c, e6, h⟩ := h.ex
      obtain ⟨x8, e8, h⟩ := h.ex
      obtain ⟨N1, hlt, h⟩ := h
      exact ⟨N1, hlt, (by show l2E (I N1) ρ m; unfold l2E; rw [e1, e2, e5, e6, e8]; exact h)⟩
    | _ => exact h
  have hh := hs N x1a x1l x1c x2b x2o x5 x6a x6l x6c x8 m h
  generalize (fun x1a x1l x1c x2b x2o x5 x6a x6l x6c x8 m => ∃ N1, N1 < N ∧ I N1 x1a x1l x1c x2b x2o x5 x6a x6l x6c x8 m : Option Addr → Nat → Nat → Nat → Nat → Int → Option Addr → Nat → Nat → Int → Mem → Prop) = K2 at hh ⊢
  rw [← upd_self e1, ← upd_self e2, ← upd_self e5, ← upd_self e6, ← upd_self e8]
  rw [← l2_er  K2 R]
  refine acpt_sound (P := P) (l2A  K2 R) _ _ _ ⟨⟨True.intro, ⟨⟨(fun ρ m h => l3_ok K2 R ρ m h), True.intro⟩, True.intro⟩⟩, True.intro⟩ ?_
  exact Eq.mp (l2_eq  K2 R x1a x1l x1c x2b x2o x5 x6a x6l x6c x8 ρ m) hh
theorem l5_eq  (K5 : Option Addr → Nat → Nat → Nat → Nat → Option Addr → Nat → Nat → Int → Mem → Prop) (R : Ending → Mem → Prop) (x1a : Option Addr) (x1l : Nat) (x1c : Nat) (x2b : Nat) (x2o : Nat) (x6a : Option Addr) (x6l : Nat) (x6c : Nat) (x12 : Int) (ρ : Env) (m : Mem) : l5B  K5 x1a x1l x1c x2b x2o x6a x6l x6c x12 R m = acpt P od (panicR R) (l5A  K5 R) (thenQ (l5E K5) (l5Q  R)) (upd (upd (upd (upd ρ 12 (.int .i64 x12)) 6 (.slice x6a x6l x6c)) 2 (.pointer (some ⟨x2b, x2o, none⟩))) 1 (.slice x1a x1l x1c)) m := by kernel_rfl
theorem l5_er  (K5 : Option Addr → Nat → Nat → Nat → Nat → Option Addr → Nat → Nat → Int → Mem → Prop) (R : Ending → Mem → Prop) : (l5A  K5 R).erase = lP (bB (sR (sL (sR (cT (sR (cE (sR (cE (sR (bB (sR (sL (sR (sR (sR (body))))))))))))))))) := by kernel_rfl
theorem l5_ok  (R : Ending → Mem → Prop) (ρ : Env) (m : Mem) (h : (l5E fun x1a x1l x1c x2b x2o x6a x6l x6c x12 m => l5  x1a x1l x1c x2b x2o x6a x6l x6c x12 R m) ρ m) : cpt P od (panicR R) (.loop (lP (bB (sR (sL (sR (cT (sR (cE (sR (cE (sR (bB (sR (sL (sR (sR (sR (body))))))))))))))))))) (l5Q  R) ρ m := by
  unfold l5E at h
  obtain ⟨x1a, x1l, x1c, e1, h⟩ := h.ex
  obtain ⟨x2b, x2o, e2, h⟩ := h.ex
  obtain ⟨x6a, x6l, x6c, e6, h⟩ := h.ex
  obtain ⟨x12, e12, h⟩ := h.ex
  obtain ⟨I, N, h0, hs⟩ := h
  refine ⟨fun N => l5E (I N), N, (by show l5E (I N) ρ m; unfold l5E; rw [e1, e2, e6, e12]; exact h0), ?_⟩
  clear h0 e1 e2 e6 e12
  intro N ρ m h
  unfold l5E at h
  obtain ⟨x1a, x1l, x1c, e1, h⟩ := h.ex
  obtain ⟨x2b, x2o, e2, h⟩ := h.ex
  obtain ⟨x6a, x6l, x6c, e6, h⟩ := h.ex
  obtain ⟨x12, e12, h⟩ := h.ex
  refine cpt_mono (P := P) (lP (bB (sR (sL (sR (cT (sR (cE (sR (cE (sR (bB (sR (sL (sR (sR (sR (body)))))))))))))))))) (Q := thenQ (l5E fun x1a x1l x1c x2b x2o x6a x6l x6c x12 m => ∃ N1, N1 < N ∧ I N1 x1a x1l x1c x2b x2o x6a x6l x6c x12 m) (l5Q  R)) (fun e ρ m h => ?_) ρ m ?_
  · cases e with
    | normal =>
      have h : l5E (fun x1a x1l x1c x2b x2o x6a x6l x6c x12 m => ∃ N1, N1 < N ∧ I N1 x1a x1l x1c x2b x2o x6a x6l x6c x12 m) ρ m := h
      unfold l5E at h
      obtain ⟨x1a, x1l, x1c, e1, h⟩ := h.ex
      obtain ⟨x2b, x2o, e2, h⟩ := h.ex
      obtain ⟨x6a, x6l, x6c, e6, h⟩ := h.ex
      obtain ⟨x12, e12, h⟩ := h.ex
      obtain ⟨N1, hlt, h⟩ := h
      exact ⟨N1, hlt, (by show l5E (I N1) ρ m; unfold l5E; rw [e1, e2, e6, e12]; exact h)⟩
    | _ => exact h
  have hh := hs N x1a x1l x1c x2b x2o x6a x6l x6c x12 m h
  generalize (fun x1a x1l x1c x2b x2o x6a x6l x6c x12 m => ∃ N1, N1 < N ∧ I N1 x1a x1l x1c x2b x2o x6a x6l x6c x12 m : Option Addr → Nat → Nat → Nat → Nat → Option Addr → Nat → Nat → Int → Mem → Prop) = K5 at hh ⊢
  rw [← upd_self e1, ← upd_self e2, ← upd_self e6, ← upd_self e12]
  rw [← l5_er  K5 R]
  refine acpt_sound (P := P) (l5A  K5 R) _ _ _ True.intro ?_
  exact Eq.mp (l5_eq  K5 R x1a x1l x1c x2b x2o x6a x6l x6c x12 ρ m) hh
theorem l6_eq  (K6 : Int → Option Addr → Nat → Nat → Int → Mem → Prop) (R : Ending → Mem → Prop) (x5 : Int) (x13a : Option Addr) (x13l : Nat) (x13c : Nat) (x14 : Int) (ρ : Env) (m : Mem) : l6B  K6 x5 x13a x13l x13c x14 R m = acpt P od (panicR R) (l6A  K6 R) (thenQ (l6E K6) (l6Q  R)) (upd (upd (upd ρ 14 (.int .i64 x14)) 13 (.slice x13a x13l x13c)) 5 (.int .i64 x5)) m := by kernel_rfl
theorem l6_er  (K6 : Int → Option Addr → Nat → Nat → Int → Mem → Prop) (R : Ending → Mem → Prop) : (l6A  K6 R).erase = lP (bB (sR (sL (cT (sR (sL (sR (sR (sR (sR (sR (body)))))))))))) := by kernel_rfl
theorem l6_ok  (R : Ending → Mem → Prop) (ρ : Env) (m : Mem) (h : (l6E fun x5 x13a x13l x13c x14 m => l6  x5 x13a x13l x13c x14 R m) ρ m) : cpt P od (panicR R) (.loop (lP (bB (sR (sL (cT (sR (sL (sR (sR (sR (sR (sR (body)))))))))))))) (l6Q  R) ρ m := by
  unfold l6E at h
  obtain ⟨x5, e5, h⟩ := h.ex
  obtain ⟨x13a, x13l, x13c, e13, h⟩ := h.ex
  obtain ⟨x14, e14, h⟩ := h.ex
  obtain ⟨I, N, h0, hs⟩ := h
  refine ⟨fun N => l6E (I N), N, (by show l6E (I N) ρ m; unfold l6E; rw [e5, e13, e14]; exact h0), ?_⟩
  clear h0 e5 e13 e14
  intro N ρ m h
  unfold l6E at h
  obtain ⟨x5, e5, h⟩ := h.ex
  obtain ⟨x13a, x13l, x13c, e13, h⟩ := h.ex
  obtain ⟨x14, e14, h⟩ := h.ex
  refine cpt_mono (P := P) (lP (bB (sR (sL (cT (sR (sL (sR (sR (sR (sR (sR (body))))))))))))) (Q := thenQ (l6E fun x5 x13a x13l x13c x14 m => ∃ N1, N1 < N ∧ I N1 x5 x13a x13l x13c x14 m) (l6Q  R)) (fun e ρ m h => ?_) ρ m ?_
  · cases e with
    | normal =>
      have h : l6E (fun x5 x13a x13l x13c x14 m => ∃ N1, N1 < N ∧ I N1 x5 x13a x13l x13c x14 m) ρ m := h
      unfold l6E at h
      obtain ⟨x5, e5, h⟩ := h.ex
      obtain ⟨x13a, x13l, x13c, e13, h⟩ := h.ex
      obtain ⟨x14, e14, h⟩ := h.ex
      obtain ⟨N1, hlt, h⟩ := h
      exact ⟨N1, hlt, (by show l6E (I N1) ρ m; unfold l6E; rw [e5, e13, e14]; exact h)⟩
    | _ => exact h
  have hh := hs N x5 x13a x13l x13c x14 m h
  generalize (fun x5 x13a x13l x13c x14 m => ∃ N1, N1 < N ∧ I N1 x5 x13a x13l x13c x14 m : Int → Option Addr → Nat → Nat → Int → Mem → Prop) = K6 at hh ⊢
  rw [← upd_self e5, ← upd_self e13, ← upd_self e14]
  rw [← l6_er  K6 R]
  refine acpt_sound (P := P) (l6A  K6 R) _ _ _ True.intro ?_
  exact Eq.mp (l6_eq  K6 R x5 x13a x13l x13c x14 ρ m) hh
theorem l9_eq (K7 : Nat → Nat → Int → Option Addr → Nat → Nat → Option Addr → Nat → Nat → Int → Mem → Prop) (K8 : Nat → Nat → Int → Option Addr → Nat → Nat → Option Addr → Nat → Nat → Int → Int → Mem → Prop) (K9 : Nat → Nat → Int → Option Addr → Nat → Nat → Option Addr → Nat → Nat → Int → Int → Int → Mem → Prop) (R : Ending → Mem → Prop) (x2b : Nat) (x2o : Nat) (x5 : Int) (x6a : Option Addr) (x6l : Nat) (x6c : Nat) (x13a : Option Addr) (x13l : Nat) (x13c : Nat) (x15 : Int) (x16 : Int) (x17 : Int) (ρ : Env) (m : Mem) : l9B K7 K8 K9 x2b x2o x5 x6a x6l x6c x13a x13l x13c x15 x16 x17 R m = acpt P od (panicR R) (l9A K7 K8 K9 R) (thenQ (l9E K9) (l9Q K7 K8 R)) (upd (upd (upd (upd (upd (upd (upd ρ 17 (.int .i64 x17)) 16 (.int .i64 x16)) 15 (.int .i64 x15)) 13 (.slice x13a x13l x13c)) 6 (.slice x6a x6l x6c)) 5 (.int .i64 x5)) 2 (.pointer (some ⟨x2b, x2o, none⟩))) m := by kernel_rfl
theorem l9_er (K7 : Nat → Nat → Int → Option Addr → Nat → Nat → Option Addr → Nat → Nat → Int → Mem → Prop) (K8 : Nat → Nat → Int → Option Addr → Nat → Nat → Option Addr → Nat → Nat → Int → Int → Mem → Prop) (K9 : Nat → Nat → Int → Option Addr → Nat → Nat → Option Addr → Nat → Nat → Int → Int → Int → Mem → Prop) (R : Ending → Mem → Prop) : (l9A K7 K8 K9 R).erase = lP (bB (sR (bB (sL (sR (lP (bB (sR (bB (sL (sR (lP (bB (sR (sL (sR (sR (sR (sR (sR (sR (sR (body))))))))))))))))))))))) := by kernel_rfl
theorem l9_ok (K7 : Nat → Nat → Int → Option Addr → Nat → Nat → Option Addr → Nat → Nat → Int → Mem → Prop) (K8 : Nat → Nat → Int → Option Addr → Nat → Nat → Option Addr → Nat → Nat → Int → Int → Mem → Prop) (R : Ending → Mem → Prop) (ρ : Env) (m : Mem) (h : (l9E fun x2b x2o x5 x6a x6l x6c x13a x13l x13c x15 x16 x17 m => l9 K7 K8 x2b x2o x5 x6a x6l x6c x13a x13l x13c x15 x16 x17 R m) ρ m) : cpt P od (panicR R) (.loop (lP (bB (sR (bB (sL (sR (lP (bB (sR (bB (sL (sR (lP (bB (sR (sL (sR (sR (sR (sR (sR (sR (sR (body))))))))))))))))))))))))) (l9Q K7 K8 R) ρ m := by
  unfold l9E at h
  obtain ⟨x2b, x2o, e2, h⟩ := h.ex
  obtain ⟨x5, e5, h⟩ := h.ex
  obtain ⟨x6a, x6l, x6c, e6, h⟩ := h.ex
  obtain ⟨x13a, x13l, x13c, e13, h⟩ := h.ex
  obtain ⟨x15, e15, h⟩ := h.ex
  obtain ⟨x16, e16, h⟩ := h.ex
  obtain ⟨x17, e17, h⟩ := h.ex
  obtain ⟨I, N, h0, hs⟩ := h
  refine ⟨fun N => l9E (I N), N, (by show l9E (I N) ρ m; unfold l9E; rw [e2, e5, e6, e13, e15, e16, e17]; exact h0), ?_⟩
  clear h0 e2 e5 e6 e13 e15 e16 e17
  intro N ρ m h
  unfold l9E at h
  obtain ⟨x2b, x2o, e2, h⟩ := h.ex
  obtain ⟨x5, e5, h⟩ := h.ex
  obtain ⟨x6a, x6l, x6c, e6, h⟩ := h.ex
  obtain ⟨x13a, x13l, x13c, e13, h⟩ := h.ex
  obtain ⟨x15, e15, h⟩ := h.ex
  obtain ⟨x16, e16, h⟩ := h.ex
  obtain ⟨x17, e17, h⟩ := h.ex
  refine cpt_mono (P := P) (lP (bB (sR (bB (sL (sR (lP (bB (sR (bB (sL (sR (lP (bB (sR (sL (sR (sR (sR (sR (sR (sR (sR (body)))))))))))))))))))))))) (Q := thenQ (l9E fun x2b x2o x5 x6a x6l x6c x13a x13l x13c x15 x16 x17 m => ∃ N1, N1 < N ∧ I N1 x2b x2o x5 x6a x6l x6c x13a x13l x13c x15 x16 x17 m) (l9Q K7 K8 R)) (fun e ρ m h => ?_) ρ m ?_
  · cases e with
    | normal =>
      have h : l9E (fun x2b x2o x5 x6a x6l x6c x13a x13l x13c x15 x16 x17 m => ∃ N1, N1 < N ∧ I N1 x2b x2o x5 x6a x6l x6c x13a x13l x13c x15 x16 x17 m) ρ m := h
      unfold l9E at h
      obtain ⟨x2b, x2o, e2, h⟩ := h.ex
      obtain ⟨x5, e5, h⟩ := h.ex
      obtain ⟨x6a, x6l, x6c, e6, h⟩ := h.ex
      obtain ⟨x13a, x13l, x13c, e13, h⟩ := h.ex
      obtain ⟨x15, e15, h⟩ := h.ex
      obtain ⟨x16, e16, h⟩ := h.ex
      obtain ⟨x17, e17, h⟩ := h.ex
      obtain ⟨N1, hlt, h⟩ := h
      exact ⟨N1, hlt, (by show l9E (I N1) ρ m; unfold l9E; rw [e2, e5, e6, e13, e15, e16, e17]; exact h)⟩
    | _ => exact h
  have hh := hs N x2b x2o x5 x6a x6l x6c x13a x13l x13c x15 x16 x17 m h
  generalize (fun x2b x2o x5 x6a x6l x6c x13a x13l x13c x15 x16 x17 m => ∃ N1, N1 < N ∧ I N1 x2b x2o x5 x6a x6l x6c x13a x13l x13c x15 x16 x17 m : Nat → Nat → Int → Option Addr → Nat → Nat → Option Addr → Nat → Nat → Int → Int → Int → Mem → Prop) = K9 at hh ⊢
  rw [← upd_self e2, ← upd_self e5, ← upd_self e6, ← upd_self e13, ← upd_self e15, ← upd_self e16, ← upd_self e17]
  rw [← l9_er K7 K8 K9 R]
  refine acpt_sound (P := P) (l9A K7 K8 K9 R) _ _ _ True.intro ?_
  exact Eq.mp (l9_eq K7 K8 K9 R x2b x2o x5 x6a x6l x6c x13a x13l x13c x15 x16 x17 ρ m) hh
theorem l8_eq (K7 : Nat → Nat → Int → Option Addr → Nat → Nat → Option Addr → Nat → Nat → Int → Mem → Prop) (K8 : Nat → Nat → Int → Option Addr → Nat → Nat → Option Addr → Nat → Nat → Int → Int → Mem → Prop) (R : Ending → Mem → Prop) (x2b : Nat) (x2o : Nat) (x5 : Int) (x6a : Option Addr) (x6l : Nat) (x6c : Nat) (x13a : Option Addr) (x13l : Nat) (x13c : Nat) (x15 : Int) (x16 : Int) (ρ : Env) (m : Mem) : l8B K7 K8 x2b x2o x5 x6a x6l x6c x13a x13l x13c x15 x16 R m = acpt P od (panicR R) (l8A K7 K8 R) (thenQ (l8E K8) (l8Q K7 R)) (upd (upd (upd (upd (upd (upd ρ 16 (.int .i64 x16)) 15 (.int .i64 x15)) 13 (.slice x13a x13l x13c)) 6 (.slice x6a x6l x6c)) 5 (.int .i64 x5)) 2 (.pointer (some ⟨x2b, x2o, none⟩))) m := by kernel_rfl
theorem l8_er (K7 : Nat → Nat → Int → Option Addr → Nat → Nat → Option Addr → Nat → Nat → Int → Mem → Prop) (K8 : Nat → Nat → Int → Option Addr → Nat → Nat → Option Addr → Nat → Nat → Int → Int → Mem → Prop) (R : Ending → Mem → Prop) : (l8A K7 K8 R).erase = lP (bB (sR (bB (sL (sR (lP (bB (sR (sL (sR (sR (sR (sR (sR (sR (sR (body))))))))))))))))) := by kernel_rfl
theorem l8_ok (K7 : Nat → Nat → Int → Option Addr → Nat → Nat → Option Addr → Nat → Nat → Int → Mem → Prop) (R : Ending → Mem → Prop) (ρ : Env) (m : Mem) (h : (l8E fun x2b x2o x5 x6a x6l x6c x13a x13l x13c x15 x16 m => l8 K7 x2b x2o x5 x6a x6l x6c x13a x13l x13c x15 x16 R m) ρ m) : cpt P od (panicR R) (.loop (lP (bB (sR (bB (sL (sR (lP (bB (sR (sL (sR (sR (sR (sR (sR (sR (sR (body))))))))))))))))))) (l8Q K7 R) ρ m := by
  unfold l8E at h
  obtain ⟨x2b, x2o, e2, h⟩ := h.ex
  obtain ⟨x5, e5, h⟩ := h.ex
  obtain ⟨x6a, x6l, x6c, e6, h⟩ := h.ex
  obtain ⟨x13a, x13l, x13c, e13, h⟩ := h.ex
  obtain ⟨x15, e15, h⟩ := h.ex
  obtain ⟨x16, e16, h⟩ := h.ex
  obtain ⟨I, N, h0, hs⟩ := h
  refine ⟨fun N => l8E (I N), N, (by show l8E (I N) ρ m; unfold l8E; rw [e2, e5, e6, e13, e15, e16]; exact h0), ?_⟩
  clear h0 e2 e5 e6 e13 e15 e16
  intro N ρ m h
  unfold l8E at h
  obtain ⟨x2b, x2o, e2, h⟩ := h.ex
  obtain ⟨x5, e5, h⟩ := h.ex
  obtain ⟨x6a, x6l, x6c, e6, h⟩ := h.ex
  obtain ⟨x13a, x13l, x13c, e13, h⟩ := h.ex
  obtain ⟨x15, e15, h⟩ := h.ex
  obtain ⟨x16, e16, h⟩ := h.ex
  refine cpt_mono (P := P) (lP (bB (sR (bB (sL (sR (lP (bB (sR (sL (sR (sR (sR (sR (sR (sR (sR (body)))))))))))))))))) (Q := thenQ (l8E fun x2b x2o x5 x6a x6l x6c x13a x13l x13c x15 x16 m => ∃ N1, N1 < N ∧ I N1 x2b x2o x5 x6a x6l x6c x13a x13l x13c x15 x16 m) (l8Q K7 R)) (fun e ρ m h => ?_) ρ m ?_
  · cases e with
    | normal =>
      have h : l8E (fun x2b x2o x5 x6a x6l x6c x13a x13l x13c x15 x16 m => ∃ N1, N1 < N ∧ I N1 x2b x2o x5 x6a x6l x6c x13a x13l x13c x15 x16 m) ρ m := h
      unfold l8E at h
      obtain ⟨x2b, x2o, e2, h⟩ := h.ex
      obtain ⟨x5, e5, h⟩ := h.ex
      obtain ⟨x6a, x6l, x6c, e6, h⟩ := h.ex
      obtain ⟨x13a, x13l, x13c, e13, h⟩ := h.ex
      obtain ⟨x15, e15, h⟩ := h.ex
      obtain ⟨x16, e16, h⟩ := h.ex
      obtain ⟨N1, hlt, h⟩ := h
      exact ⟨N1, hlt, (by show l8E (I N1) ρ m; unfold l8E; rw [e2, e5, e6, e13, e15, e16]; exact h)⟩
    | _ => exact h
  have hh := hs N x2b x2o x5 x6a x6l x6c x13a x13l x13c x15 x16 m h
  generalize (fun x2b x2o x5 x6a x6l x6c x13a x13l x13c x15 x16 m => ∃ N1, N1 < N ∧ I N1 x2b x2o x5 x6a x6l x6c x13a x13l x13c x15 x16 m : Nat → Nat → Int → Option Addr → Nat → Nat → Option Addr → Nat → Nat → Int → Int → Mem → Prop) = K8 at hh ⊢
  rw [← upd_self e2, ← upd_self e5, ← upd_self e6, ← upd_self e13, ← upd_self e15, ← upd_self e16]
  rw [← l8_er K7 K8 R]
  refine acpt_sound (P := P) (l8A K7 K8 R) _ _ _ ⟨⟨True.intro, ⟨(fun ρ m h => l9_ok K7 K8 R ρ m h), True.intro⟩⟩, True.intro⟩ ?_
  exact Eq.mp (l8_eq K7 K8 R x2b x2o x5 x6a x6l x6c x13a x13l x13c x15 x16 ρ m) hh
theorem k10_eq  (R : Ending → Mem → Prop) (x2b : Nat) (x2o : Nat) (x6a : Option Addr) (x6l : Nat) (x6c : Nat) (x13a : Option Addr) (x13l : Nat) (x13c : Nat) (ρ : Env) (m : Mem) : k10  x2b x2o x6a x6l x6c x13a x13l x13c R m = acpt P od (panicR R) (k10A  R) (k10Q  R) (upd (upd (upd ρ 13 (.slice x13a x13l x13c)) 6 (.slice x6a x6l x6c)) 2 (.pointer (some ⟨x2b, x2o, none⟩))) m := by kernel_rfl
theorem k10_er  (R : Ending → Mem → Prop) : (k10A  R).erase = sR (sR (sR (sR (sR (sR (sR (sR (body)))))))) := by kernel_rfl
theorem k10_ok  (R : Ending → Mem → Prop) (ρ : Env) (m : Mem) (h : (k10E fun x2b x2o x6a x6l x6c x13a x13l x13c m => k10  x2b x2o x6a x6l x6c x13a x13l x13c R m) ρ m) : cpt P od (panicR R) (sR (sR (sR (sR (sR (sR (sR (sR (body))))))))) (k10Q  R) ρ m := by
  unfold k10E at h
  obtain ⟨x2b, x2o, e2, h⟩ := h.ex
  obtain ⟨x6a, x6l, x6c, e6, h⟩ := h.ex
  obtain ⟨x13a, x13l, x13c, e13, h⟩ := h.ex
  rw [← upd_self e2, ← upd_self e6, ← upd_self e13]
  rw [← k10_er  R]
  refine acpt_sound (P := P) (k10A  R) _ _ _ True.intro ?_
  exact Eq.mp (k10_eq  R x2b x2o x6a x6l x6c x13a x13l x13c ρ m) h
theorem l7_eq  (K7 : Nat → Nat → Int → Option Addr → Nat → Nat → Option Addr → Nat → Nat → Int → Mem → Prop) (R : Ending → Mem → Prop) (x2b : Nat) (x2o : Nat) (x5 : Int) (x6a : Option Addr) (x6l : Nat) (x6c : Nat) (x13a : Option Addr) (x13l : Nat) (x13c : Nat) (x15 : Int) (ρ : Env) (m : Mem) : l7B  K7 x2b x2o x5 x6a x6l x6c x13a x13l x13c x15 R m = acpt P od (panicR R) (l7A  K7 R) (thenQ (l7E K7) (l7Q  R)) (upd (upd (upd (upd (upd ρ 15 (.int .i64 x15)) 13 (.slice x13a x13l x13c)) 6 (.slice x6a x6l x6c)) 5 (.int .i64 x5)) 2 (.pointer (some ⟨x2b, x2o, none⟩))) m := by kernel_rfl
theorem l7_er  (K7 : Nat → Nat → Int → Option Addr → Nat → Nat → Option Addr → Nat → Nat → Int → Mem → Prop) (R : Ending → Mem → Prop) : (l7A  K7 R).erase = lP (bB (sR (sL (sR (sR (sR (sR (sR (sR (sR (body))))))))))) := by kernel_rfl
theorem l7_ok  (R : Ending → Mem → Prop) (ρ : Env) (m : Mem) (h : (l7E fun x2b x2o x5 x6a x6l x6c x13a x13l x13c x15 m => l7  x2b x2o x5 x6a x6l x6c x13a x13l x13c x15 R m) ρ m) : cpt P od (panicR R) (.loop (lP (bB (sR (sL (sR (sR (sR (sR (sR (sR (sR (body))))))))))))) (l7Q  R) ρ m := by
  unfold l7E at h
  obtain ⟨x2b, x2o, e2, h⟩ := h.ex
  obtain ⟨x5, e5, h⟩ := h.ex
  obtain ⟨x6a, x6l, x6c, e6, h⟩ := h.ex
  obtain ⟨x13a, x13l, x13c, e13, h⟩ := h.ex
  obtain ⟨x15, e15, h⟩ := h.ex
  obtain ⟨I, N, h0, hs⟩ := h
  refine ⟨fun N => l7E (I N), N, (by show l7E (I N) ρ m; unfold l7E; rw [e2, e5, e6, e13, e15]; exact h0), ?_⟩
  clear h0 e2 e5 e6 e13 e15
  intro N ρ m h
  unfold l7E at h
  obtain ⟨x2b, x2o, e2, h⟩ := h.ex
  obtain ⟨x5, e5, h⟩ := h.ex
  obtain ⟨x6a, x6l, x6c, e6, h⟩ := h.ex
  obtain ⟨x13a, x13l, x13c, e13, h⟩ := h.ex
  obtain ⟨x15, e15, h⟩ := h.ex
  refine cpt_mono (P := P) (lP (bB (sR (sL (sR (sR (sR (sR (sR (sR (sR (body)))))))))))) (Q := thenQ (l7E fun x2b x2o x5 x6a x6l x6c x13a x13l x13c x15 m => ∃ N1, N1 < N ∧ I N1 x2b x2o x5 x6a x6l x6c x13a x13l x13c x15 m) (l7Q  R)) (fun e ρ m h => ?_) ρ m ?_
  · cases e with
    | normal =>
      have h : l7E (fun x2b x2o x5 x6a x6l x6c x13a x13l x13c x15 m => ∃ N1, N1 < N ∧ I N1 x2b x2o x5 x6a x6l x6c x13a x13l x13c x15 m) ρ m := h
      unfold l7E at h
      obtain ⟨x2b, x2o, e2, h⟩ := h.ex
      obtain ⟨x5, e5, h⟩ := h.ex
      obtain ⟨x6a, x6l, x6c, e6, h⟩ := h.ex
      obtain ⟨x13a, x13l, x13c, e13, h⟩ := h.ex
      obtain ⟨x15, e15, h⟩ := h.ex
      obtain ⟨N1, hlt, h⟩ := h
      exact ⟨N1, hlt, (by show l7E (I N1) ρ m; unfold l7E; rw [e2, e5, e6, e13, e15]; exact h)⟩
    | _ => exact h
  have hh := hs N x2b x2o x5 x6a x6l x6c x13a x13l x13c x15 m h
  generalize (fun x2b x2o x5 x6a x6l x6c x13a x13l x13c x15 m => ∃ N1, N1 < N ∧ I N1 x2b x2o x5 x6a x6l x6c x13a x13l x13c x15 m : Nat → Nat → Int → Option Addr → Nat → Nat → Option Addr → Nat → Nat → Int → Mem → Prop) = K7 at hh ⊢
  rw [← upd_self e2, ← upd_self e5, ← upd_self e6, ← upd_self e13, ← upd_self e15]
  rw [← l7_er  K7 R]
  refine acpt_sound (P := P) (l7A  K7 R) _ _ _ ⟨⟨True.intro, ⟨(fun ρ m h => l8_ok K7 R ρ m h), True.intro⟩⟩, True.intro⟩ ?_
  exact Eq.mp (l7_eq  K7 R x2b x2o x5 x6a x6l x6c x13a x13l x13c x15 ρ m) hh
theorem e0_eq (a0_0 : Int) (a0_1 : Int) (a0_2 : Int) (a0_3 : Int) (a0_4 : Int) (a0_5a : Option Addr) (a0_5l : Nat) (a0_5c : Nat) (a1a : Option Addr) (a1l : Nat) (a1c : Nat) (R : Ending → Mem → Prop) (m : Mem) : e0 a0_0 a0_1 a0_2 a0_3 a0_4 a0_5a a0_5l a0_5c a1a a1l a1c R m = acpt P od (panicR R) (e0A R) (bodyQ P fn R) (argE (#[.agg #[.int .i64 a0_0, .int .u64 a0_1, .int .u64 a0_2, .int .u64 a0_3, .int .u64 a0_4, .slice a0_5a a0_5l a0_5c], .slice a1a a1l a1c] : Array Value).toList) m := by kernel_rfl
theorem ok (a0_0 : Int) (a0_1 : Int) (a0_2 : Int) (a0_3 : Int) (a0_4 : Int) (a0_5a : Option Addr) (a0_5l : Nat) (a0_5c : Nat) (a1a : Option Addr) (a1l : Nat) (a1c : Nat) (R : Ending → Mem → Prop) (m : Mem) (h : e0 a0_0 a0_1 a0_2 a0_3 a0_4 a0_5a a0_5l a0_5c a1a a1l a1c R m) : HC P id #[.agg #[.int .i64 a0_0, .int .u64 a0_1, .int .u64 a0_2, .int .u64 a0_3, .int .u64 a0_4, .slice a0_5a a0_5l a0_5c], .slice a1a a1l a1c] m R := by
  refine HC_of (fn := fn) (c := body) (od := od) (tb := tb) Go.Proofs.Tryd.func47 (by kernel_rfl) (by kernel_rfl) follows (by kernel_rfl) (of_decide_eq_true (by kernel_rfl)) ?_
  have he : (e0A R).erase = body := by kernel_rfl
  rw [← he]
  refine acpt_sound (P := P) (e0A R) _ _ _ ⟨⟨⟨⟨⟨⟨⟨⟨(fun ρ m h => k10_ok  R ρ m h), ⟨(fun ρ m h => l7_ok  R ρ m h), True.intro⟩⟩, True.intro⟩, ⟨⟨⟨True.intro, ⟨(fun ρ m h => l6_ok  R ρ m h), True.intro⟩⟩, True.intro⟩, True.intro⟩⟩, True.intro⟩, ⟨⟨⟨⟨True.intro, ⟨(fun ρ m h => l1_ok  R ρ m h), True.intro⟩⟩, ⟨⟨⟨True.intro, ⟨(fun ρ m h => l2_ok  R ρ m h), True.intro⟩⟩, ⟨⟨⟨⟨True.intro, ⟨(fun ρ m h => l5_ok  R ρ m h), True.intro⟩⟩, True.intro⟩, True.intro⟩, True.intro⟩⟩, True.intro⟩⟩, True.intro⟩, True.intro⟩⟩, True.intro⟩, True.intro⟩, True.intro⟩ ?_
  exact Eq.mp (e0_eq a0_0 a0_1 a0_2 a0_3 a0_4 a0_5a a0_5l a0_5c a1a a1l a1c R m) h
end eyotref8_spans
end
end Go.E
set_option linter.unusedVariables false
set_option maxRecDepth 100000
namespace Go.E
open Go.H
noncomputable section
/-! ### (*eyot/regex.reader).cat -/
namespace regex_reader_cat
noncomputable def fn : Func := Go.Proofs.Tryd.f48
noncomputable def body : Code := fn.body.getD .skip
def od : Nat → Ord := fun _ => .done
def tb : Nat → Tab := fun _ => (0, [], [])
def l1E (K : Option Addr → Nat → Nat → Option Addr → Nat → Nat → Mem → Prop) : Env → Mem → Prop := fun ρ m => UnP (ρ 0) fun r_0 => UnPA (ρ 2) fun x2b x2o => UnS (ρ 3) fun l_3a l_3l l_3c => K r_0 x2b x2o l_3a l_3l l_3c m
def l1B  (K1 : Option Addr → Nat → Nat → Option Addr → Nat → Nat → Mem → Prop) (r_0 : Option Addr) (x2b : Nat) (x2o : Nat) (l_3a : Option Addr) (l_3l : Nat) (l_3c : Nat) (R : Ending → Mem → Prop) (m : Mem) : Prop :=
 NilC r_0 (fun x8b x8o =>
  LdV m x8b x8o fun v =>
  UnStr v fun x10 =>
  Br (decide ((x10.size : Int) > 0)) (
   HC P regex_reader_sees.id #[.pointer r_0, .int .u8 124] m (Cont (fun v m1 =>
     UnB v fun x15 =>
     Br (!x15) (
      HC P regex_reader_sees.id #[.pointer r_0, .int .u8 41] m1 (Cont (fun v m2 =>
        UnB v fun x20 =>
        Br (!x20) (
        HC P regex_reader_rep.id #[.pointer r_0] m2 (Cont (fun v m3 =>
        UnAgg v fun l =>
        UnCons l fun v l =>
        UnI v .i64 fun x25_0 =>
        UnCons l fun v l =>
        UnI v .u64 fun x25_1 =>
        UnCons l fun v l =>
        UnI v .u64 fun x25_2 =>
        UnCons l fun v l =>
        UnI v .u64 fun x25_3 =>
        UnCons l fun v l =>
        UnI v .u64 fun x25_4 =>
        UnCons l fun v l =>
        UnS v fun x25_5a x25_5l x25_5c =>
        UnNil l (
        NewC m3 #[.int .i64 x25_0, .int .u64 x25_1, .int .u64 x25_2, .int .u64 x25_3, .int .u64 x25_4, .slice x25_5a x25_5l x25_5c] T_api_Rx fun b26 m4 =>
        BiN P .append #[T_sl_api_Rx, T_sl_api_Rx] T_sl_api_Rx #[false, false] #[.slice l_3a l_3l l_3c, .slice (some ⟨b26, 0, none⟩) 1 1] m4 (fun w m5 =>
        UnS w fun x27a x27l x27c =>
        K1 r_0 x2b x2o x27a x27l x27c m5) (panicR R))) (panicR R))) (
        HC P regex_one.id #[.int .i64 2, .slice l_3a l_3l l_3c] m2 (Cont (fun v m3 =>
        UnAgg v fun l =>
        UnCons l fun v l =>
        UnI v .i64 fun x29_0 =>
        UnCons l fun v l =>
        UnI v .u64 fun x29_1 =>
        UnCons l fun v l =>
        UnI v .u64 fun x29_2 =>
        UnCons l fun v l =>
        UnI v .u64 fun x29_3 =>
        UnCons l fun v l =>
        UnI v .u64 fun x29_4 =>
        UnCons l fun v l =>
        UnS v fun x29_5a x29_5l x29_5c =>
        UnNil l (
        St1 m3 x2b x2o (.int .i64 x29_0) fun m4 =>
        St1 m4 x2b (x2o + 1) (.int .u64 x29_1) fun m5 =>
        St1 m5 x2b (x2o + 2) (.int .u64 x29_2) fun m6 =>
        St1 m6 x2b (x2o + 3) (.int .u64 x29_3) fun m7 =>
        St1 m7 x2b (x2o + 4) (.int .u64 x29_4) fun m8 =>
        St1 m8 x2b (x2o + 5) (.slice x29_5a x29_5l x29_5c) fun m9 =>
        LdV m9 x2b x2o fun v =>
        UnI v .i64 fun res0_0 =>
        LdV m9 x2b (x2o + 1) fun v =>
        UnI v .u64 fun res0_1 =>
        LdV m9 x2b (x2o + 2) fun v =>
        UnI v .u64 fun res0_2 =>
        LdV m9 x2b (x2o + 3) fun v =>
        UnI v .u64 fun res0_3 =>
        LdV m9 x2b (x2o + 4) fun v =>
        UnI v .u64 fun res0_4 =>
        LdV m9 x2b (x2o + 5) fun v =>
        UnS v fun res0_5a res0_5l res0_5c =>
        R (.returned (.agg #[.int .i64 res0_0, .int .u64 res0_1, .int .u64 res0_2, .int .u64 res0_3, .int .u64 res0_4, .slice res0_5a res0_5l res0_5c])) m9)) (panicR R)))) (panicR R))) (
      HC P regex_one.id #[.int .i64 2, .slice l_3a l_3l l_3c] m1 (Cont (fun v m2 =>
        UnAgg v fun l =>
        UnCons l fun v l =>
        UnI v .i64 fun x29_0 =>
        UnCons l fun v l =>
        UnI v .u64 fun x29_1 =>
        UnCons l fun v l =>
        UnI v .u64 fun x29_2 =>
        UnCons l fun v l =>
        UnI v .u64 fun x29_3 =>
        UnCons l fun v l =>
        UnI v .u64 fun x29_4 =>
        UnCons l fun v l =>
        UnS v fun x29_5a x29_5l x29_5c =>
        UnNil l (
        St1 m2 x2b x2o (.int .i64 x29_0) fun m3 =>
        St1 m3 x2b (x2o + 1) (.int .u64 x29_1) fun m4 =>
        St1 m4 x2b (x2o + 2) (.int .u64 x29_2) fun m5 =>
        St1 m5 x2b (x2o + 3) (.int .u64 x29_3) fun m6 =>
        St1 m6 x2b (x2o + 4) (.int .u64 x29_4) fun m7 =>
        St1 m7 x2b (x2o + 5) (.slice x29_5a x29_5l x29_5c) fun m8 =>
        LdV m8 x2b x2o fun v =>
        UnI v .i64 fun res0_0 =>
        LdV m8 x2b (x2o + 1) fun v =>
        UnI v .u64 fun res0_1 =>
        LdV m8 x2b (x2o + 2) fun v =>
        UnI v .u64 fun res0_2 =>
        LdV m8 x2b (x2o + 3) fun v =>
        UnI v .u64 fun res0_3 =>
        LdV m8 x2b (x2o + 4) fun v =>
        UnI v .u64 fun res0_4 =>
        LdV m8 x2b (x2o + 5) fun v =>
        UnS v fun res0_5a res0_5l res0_5c =>
        R (.returned (.agg #[.int .i64 res0_0, .int .u64 res0_1, .int .u64 res0_2, .int .u64 res0_3, .int .u64 res0_4, .slice res0_5a res0_5l res0_5c])) m8)) (panicR R)))) (panicR R))) (
   HC P regex_one.id #[.int .i64 2, .slice l_3a l_3l l_3c] m (Cont (fun v m1 =>
     UnAgg v fun l =>
     UnCons l fun v l =>
     UnI v .i64 fun x29_0 =>
     UnCons l fun v l =>
     UnI v .u64 fun x29_1 =>
     UnCons l fun v l =>
     UnI v .u64 fun x29_2 =>
     UnCons l fun v l =>
     UnI v .u64 fun x29_3 =>
     UnCons l fun v l =>
     UnI v .u64 fun x29_4 =>
     UnCons l fun v l =>
     UnS v fun x29_5a x29_5l x29_5c =>
     UnNil l (
      St1 m1 x2b x2o (.int .i64 x29_0) fun m2 =>
      St1 m2 x2b (x2o + 1) (.int .u64 x29_1) fun m3 =>
      St1 m3 x2b (x2o + 2) (.int .u64 x29_2) fun m4 =>
      St1 m4 x2b (x2o + 3) (.int .u64 x29_3) fun m5 =>
      St1 m5 x2b (x2o + 4) (.int .u64 x29_4) fun m6 =>
      St1 m6 x2b (x2o + 5) (.slice x29_5a x29_5l x29_5c) fun m7 =>
      LdV m7 x2b x2o fun v =>
      UnI v .i64 fun res0_0 =>
      LdV m7 x2b (x2o + 1) fun v =>
      UnI v .u64 fun res0_1 =>
      LdV m7 x2b (x2o + 2) fun v =>
      UnI v .u64 fun res0_2 =>
      LdV m7 x2b (x2o + 3) fun v =>
      UnI v .u64 fun res0_3 =>
      LdV m7 x2b (x2o + 4) fun v =>
      UnI v .u64 fun res0_4 =>
      LdV m7 x2b (x2o + 5) fun v =>
      UnS v fun res0_5a res0_5l res0_5c =>
      R (.returned (.agg #[.int .i64 res0_0, .int .u64 res0_1, .int .u64 res0_2, .int .u64 res0_3, .int .u64 res0_4, .slice res0_5a res0_5l res0_5c])) m7)) (panicR R)))) (R (.panicked (nilPanic P)) m)
def l1  (r_0 : Option Addr) (x2b : Nat) (x2o : Nat) (l_3a : Option Addr) (l_3l : Nat) (l_3c : Nat) (R : Ending → Mem → Prop) (m : Mem) : Prop :=
  ∃ (I : Nat → Option Addr → Nat → Nat → Option Addr → Nat → Nat → Mem → Prop) (N : Nat), I N r_0 x2b x2o l_3a l_3l l_3c m ∧ ∀ N r_0 x2b x2o l_3a l_3l l_3c m, I N r_0 x2b x2o l_3a l_3l l_3c m → l1B  (fun r_0 x2b x2o l_3a l_3l l_3c m => ∃ N1, N1 < N ∧ I N1 r_0 x2b x2o l_3a l_3l l_3c m) r_0 x2b x2o l_3a l_3l l_3c R m
noncomputable def l1A  (K1 : Option Addr → Nat → Nat → Option Addr → Nat → Nat → Mem → Prop) (R : Ending → Mem → Prop) : ACode := (.code (lP (bB (sL (sR (sR (body)))))))
def e0 (r_0 : Option Addr) (R : Ending → Mem → Prop) (m : Mem) : Prop :=
 NewC m #[.int .i64 0, .int .u64 0, .int .u64 0, .int .u64 0, .int .u64 0, .slice none 0 0] T_api_Rx fun b2 m1 =>
 HC P regex_reader_rep.id #[.pointer r_0] m1 (Cont (fun v m2 =>
   UnAgg v fun l =>
   UnCons l fun v l =>
   UnI v .i64 fun x5_0 =>
   UnCons l fun v l =>
   UnI v .u64 fun x5_1 =>
   UnCons l fun v l =>
   UnI v .u64 fun x5_2 =>
   UnCons l fun v l =>
   UnI v .u64 fun x5_3 =>
   UnCons l fun v l =>
   UnI v .u64 fun x5_4 =>
   UnCons l fun v l =>
   UnS v fun x5_5a x5_5l x5_5c =>
   UnNil l (
    NewC m2 #[.int .i64 x5_0, .int .u64 x5_1, .int .u64 x5_2, .int .u64 x5_3, .int .u64 x5_4, .slice x5_5a x5_5l x5_5c] T_api_Rx fun b6 m3 =>
    l1  r_0 b2 0 (some ⟨b6, 0, none⟩) 1 1 R m3)) (panicR R))
noncomputable def e0A (R : Ending → Mem → Prop) : ACode := (.seq (.code (sL (body))) (.seq (.code (sL (sR (body)))) (.seq (.block 0 (.cut (l1E fun r_0 x2b x2o l_3a l_3l l_3c m => l1  r_0 x2b x2o l_3a l_3l l_3c R m) (.loop (lP (bB (sL (sR (sR (body))))))))) (.code (sR (sR (sR (body))))))))
abbrev l1Q  (R : Ending → Mem → Prop) : Exit → Env → Mem → Prop := (blockQ 0 (thenQ (acpt P od (panicR R) (.code (sR (sR (sR (body))))) (bodyQ P fn R)) (bodyQ P fn R)))
theorem l1_eq  (K1 : Option Addr → Nat → Nat → Option Addr → Nat → Nat → Mem → Prop) (R : Ending → Mem → Prop) (r_0 : Option Addr) (x2b : Nat) (x2o : Nat) (l_3a : Option Addr) (l_3l : Nat) (l_3c : Nat) (ρ : Env) (m : Mem) : l1B  K1 r_0 x2b x2o l_3a l_3l l_3c R m = acpt P od (panicR R) (l1A  K1 R) (thenQ (l1E K1) (l1Q  R)) (upd (upd (upd ρ 3 (.slice l_3a l_3l l_3c)) 2 (.pointer (some ⟨x2b, x2o, none⟩))) 0 (.pointer r_0)) m := by kernel_rfl
theorem l1_er  (K1 : Option Addr → Nat → Nat → Option Addr → Nat → Nat → Mem → Prop) (R : Ending → Mem → Prop) : (l1A  K1 R).erase = lP (bB (sL (sR (sR (body))))) := by kernel_rfl
theorem l1_ok  (R : Ending → Mem → Prop) (ρ : Env) (m : Mem) (h : (l1E fun r_0 x2b x2o l_3a l_3l l_3c m => l1  r_0 x2b x2o l_3a l_3l l_3c R m) ρ m) : cpt P od (panicR R) (.loop (lP (bB (sL (sR (sR (body))))))) (l1Q  R) ρ m := by
  unfold l1E at h
  obtain ⟨r_0, e0, h⟩ := h.ex
  obtain ⟨x2b, x2o, e2, h⟩ := h.ex
  obtain ⟨l_3a, l_3l, l_3c, e3, h⟩ := h.ex
  obtain ⟨I, N, h0, hs⟩ := h
  refine ⟨fun N => l1E (I N), N, (by show l1E (I N) ρ m; unfold l1E; rw [e0, e2, e3]; exact h0), ?_⟩
  clear h0 e0 e2 e3
  intro N ρ m h
  unfold l1E at h
  obtain ⟨r_0, e0, h⟩ := h.ex
  obtain ⟨x2b, x2o, e2, h⟩ := h.ex
  obtain ⟨l_3a, l_3l, l_3c, e3, h⟩ := h.ex
  refine cpt_mono (P := P) (lP (bB (sL (sR (sR (body)))))) (Q := thenQ (l1E fun r_0 x2b x2o l_3a l_3l l_3c m => ∃ N1, N1 < N ∧ I N1 r_0 x2b x2o l_3a l_3l l_3c m) (l1Q  R)) (fun e ρ m h => ?_) ρ m ?_
  · cases e with
    | normal =>
      have h : l1E (fun r_0 x2b x2o l_3a l_3l l_3c m => ∃ N1, N1 < N ∧ I N1 r_0 x2b x2o l_3a l_3l l_3c m) ρ m := h
      unfold l1E at h
      obtain ⟨r_0, e0, h⟩ := h.ex
      obtain ⟨x2b, x2o, e2, h⟩ := h.ex
      obtain ⟨l_3a, l_3l, l_3c, e3, h⟩ := h.ex
      obtain ⟨N1, hlt, h⟩ := h
      exact ⟨N1, hlt, (by show l1E (I N1) ρ m; unfold l1E; rw [e0, e2, e3]; exact h)⟩
    | _ => exact h
  have hh := hs N r_0 x2b x2o l_3a l_3l l_3c m h
  generalize (fun r_0 x2b x2o l_3a l_3l l_3c m => ∃ N1, N1 < N ∧ I N1 r_0 x2b x2o l_3a l_3l l_3c m : Option Addr → Nat → Nat → Option Addr → Nat → Nat → Mem → Prop) = K1 at hh ⊢
  rw [← upd_self e0, ← upd_self e2, ← upd_self e3]
  rw [← l1_er  K1 R]
  refine acpt_sound (P := P) (l1A  K1 R) _ _ _ True.intro ?_
  exact Eq.mp (l1_eq  K1 R r_0 x2b x2o l_3a l_3l l_3c ρ m) hh
theorem e0_eq (r_0 : Option Addr) (R : Ending → Mem → Prop) (m : Mem) : e0 r_0 R m = acpt P od (panicR R) (e0A R) (bodyQ P fn R) (argE (#[.pointer r_0] : Array Value).toList) m := by kernel_rfl
theorem ok (r_0 : Option Addr) (R : Ending → Mem → Prop) (m : Mem) (h : e0 r_0 R m) : HC P id #[.pointer r_0] m R := by
  refine HC_of (fn := fn) (c := body) (od := od) (tb := tb) Go.Proofs.Tryd.func48 (by kernel_rfl) (by kernel_rfl) follows (by kernel_rfl) (of_decide_eq_true (by kernel_rfl)) ?_
  have he : (e0A R).erase = body := by kernel_rfl
  rw [← he]
  refine acpt_sound (P := P) (e0A R) _ _ _ ⟨⟨⟨True.intro, (fun ρ m h => l1_ok  R ρ m h)⟩, True.intro⟩, True.intro⟩ ?_
  exact Eq.mp (e0_eq r_0 R m) h
end regex_reader_cat
/-! ### (*eyot/regex.reader).sees -/
namespace regex_reader_sees
noncomputable def fn : Func := Go.Proofs.Tryd.f49
noncomputable def body : Code := fn.body.getD .skip
def od : Nat → Ord := fun _ => .done
def tb : Nat → Tab := fun _ => (0, [], [])
def e0 (r_0 : Option Addr) (c_1 : Int) (R : Ending → Mem → Prop) (m : Mem) : Prop :=
 NilC r_0 (fun x6b x6o =>
  LdV m x6b x6o fun v =>
  UnStr v fun x8 =>
  Br (decide ((x8.size : Int) > 0)) (
   NilC r_0 (fun x13b x13o =>
    LdV m x13b x13o fun v =>
    UnStr v fun x15 =>
    IxB x15 0 fun x16 =>
    R (.returned (.bool (x16 == c_1))) m) (R (.panicked (nilPanic P)) m)) (
   R (.returned (.bool false)) m)) (R (.panicked (nilPanic P)) m)
noncomputable def e0A (R : Ending → Mem → Prop) : ACode := (.code (body))
theorem e0_eq (r_0 : Option Addr) (c_1 : Int) (R : Ending → Mem → Prop) (m : Mem) : e0 r_0 c_1 R m = acpt P od (panicR R) (e0A R) (bodyQ P fn R) (argE (#[.pointer r_0, .int .u8 c_1] : Array Value).toList) m := by kernel_rfl
theorem ok (r_0 : Option Addr) (c_1 : Int) (R : Ending → Mem → Prop) (m : Mem) (h : e0 r_0 c_1 R m) : HC P id #[.pointer r_0, .int .u8 c_1] m R := by
  refine HC_of (fn := fn) (c := body) (od := od) (tb := tb) Go.Proofs.Tryd.func49 (by kernel_rfl) (by kernel_rfl) follows (by kernel_rfl) (of_decide_eq_true (by kernel_rfl)) ?_
  have he : (e0A R).erase = body := by kernel_rfl
  rw [← he]
  refine acpt_sound (P := P) (e0A R) _ _ _ True.intro ?_
  exact Eq.mp (e0_eq r_0 c_1 R m) h
end regex_reader_sees
/-! ### eyot/regex.one -/
namespace regex_one
noncomputable def fn : Func := Go.Proofs.Tryd.f50
noncomputable def body : Code := fn.body.getD .skip
def od : Nat → Ord := fun _ => .done
def tb : Nat → Tab := fun _ => (0, [], [])
def e0 (kind_0 : Int) (l_1a : Option Addr) (l_1l : Nat) (l_1c : Nat) (R : Ending → Mem → Prop) (m : Mem) : Prop :=
 NewC m #[.int .i64 0, .int .u64 0, .int .u64 0, .int .u64 0, .int .u64 0, .slice none 0 0] T_api_Rx fun b4 m1 =>
 Br (((l_1l : Nat) : Int) == 1) (
  IxS l_1a l_1l 0 6 fun x9b x9o =>
  LdV m1 x9b x9o fun v =>
  UnI v .i64 fun x10_0 =>
  LdV m1 x9b (x9o + 1) fun v =>
  UnI v .u64 fun x10_1 =>
  LdV m1 x9b (x9o + 2) fun v =>
  UnI v .u64 fun x10_2 =>
  LdV m1 x9b (x9o + 3) fun v =>
  UnI v .u64 fun x10_3 =>
  LdV m1 x9b (x9o + 4) fun v =>
  UnI v .u64 fun x10_4 =>
  LdV m1 x9b (x9o + 5) fun v =>
  UnS v fun x10_5a x10_5l x10_5c =>
  St1 m1 b4 0 (.int .i64 x10_0) fun m2 =>
  St1 m2 b4 1 (.int .u64 x10_1) fun m3 =>
  St1 m3 b4 2 (.int .u64 x10_2) fun m4 =>
  St1 m4 b4 3 (.int .u64 x10_3) fun m5 =>
  St1 m5 b4 4 (.int .u64 x10_4) fun m6 =>
  St1 m6 b4 5 (.slice x10_5a x10_5l x10_5c) fun m7 =>
  LdV m7 b4 0 fun v =>
  UnI v .i64 fun res0_0 =>
  LdV m7 b4 1 fun v =>
  UnI v .u64 fun res0_1 =>
  LdV m7 b4 2 fun v =>
  UnI v .u64 fun res0_2 =>
  LdV m7 b4 3 fun v =>
  UnI v .u64 fun res0_3 =>
  LdV m7 b4 4 fun v =>
  UnI v .u64 fun res0_4 =>
  LdV m7 b4 5 fun v =>
  UnS v fun res0_5a res0_5l res0_5c =>
  R (.returned (.agg #[.int .i64 res0_0, .int .u64 res0_1, .int .u64 res0_2, .int .u64 res0_3, .int .u64 res0_4, .slice res0_5a res0_5l res0_5c])) m7) (
  St1 m1 b4 0 (.int .i64 kind_0) fun m2 =>
  St1 m2 b4 1 (.int .u64 0) fun m3 =>
  St1 m3 b4 2 (.int .u64 0) fun m4 =>
  St1 m4 b4 3 (.int .u64 0) fun m5 =>
  St1 m5 b4 4 (.int .u64 0) fun m6 =>
  St1 m6 b4 5 (.slice l_1a l_1l l_1c) fun m7 =>
  LdV m7 b4 0 fun v =>
  UnI v .i64 fun res0_0 =>
  LdV m7 b4 1 fun v =>
  UnI v .u64 fun res0_1 =>
  LdV m7 b4 2 fun v =>
  UnI v .u64 fun res0_2 =>
  LdV m7 b4 3 fun v =>
  UnI v .u64 fun res0_3 =>
  LdV m7 b4 4 fun v =>
  UnI v .u64 fun res0_4 =>
  LdV m7 b4 5 fun v =>
  UnS v fun res0_5a res0_5l res0_5c =>
  R (.returned (.agg #[.int .i64 res0_0, .int .u64 res0_1, .int .u64 res0_2, .int .u64 res0_3, .int .u64 res0_4, .slice res0_5a res0_5l res0_5c])) m7)
noncomputable def e0A (R : Ending → Mem → Prop) : ACode := (.code (body))
theorem e0_eq (kind_0 : Int) (l_1a : Option Addr) (l_1l : Nat) (l_1c : Nat) (R : Ending → Mem → Prop) (m : Mem) : e0 kind_0 l_1a l_1l l_1c R m = acpt P od (panicR R) (e0A R) (bodyQ P fn R) (argE (#[.int .i64 kind_0, .slice l_1a l_1l l_1c] : Array Value).toList) m := by kernel_rfl
theorem ok (kind_0 : Int) (l_1a : Option Addr) (l_1l : Nat) (l_1c : Nat) (R : Ending → Mem → Prop) (m : Mem) (h : e0 kind_0 l_1a l_1l l_1c R m) : HC P id #[.int .i64 kind_0, .slice l_1a l_1l l_1c] m R := by
  refine HC_of (fn := fn) (c := body) (od := od) (tb := tb) Go.Proofs.Tryd.func50 (by kernel_rfl) (by kernel_rfl) follows (by kernel_rfl) (of_decide_eq_true (by kernel_rfl)) ?_
  have he : (e0A R).erase = body := by kernel_rfl
  rw [← he]
  refine acpt_sound (P := P) (e0A R) _ _ _ True.intro ?_
  exact Eq.mp (e0_eq kind_0 l_1a l_1l l_1c R m) h
end regex_one
/-! ### eyot/eyotref8.Empty -/
namespace eyotref8_Empty
noncomputable def fn : Func := Go.Proofs.Tryd.f53
noncomputable def body : Code := fn.body.getD .skip
def od : Nat → Ord := fun _ => .done
def tb : Nat → Tab := fun _ => (0, [], [])
def e0 (s_0_0 : Int) (s_0_1 : Int) (s_0_2 : Int) (s_0_3 : Int) (R : Ending → Mem → Prop) (m : Mem) : Prop :=
 NewC m #[.int .u64 s_0_0, .int .u64 s_0_1, .int .u64 s_0_2, .int .u64 s_0_3] T_api_Set fun b_s_1 m1 =>
 LdV m1 b_s_1 0 fun v =>
 UnI v .u64 fun x3_0 =>
 LdV m1 b_s_1 1 fun v =>
 UnI v .u64 fun x3_1 =>
 LdV m1 b_s_1 2 fun v =>
 UnI v .u64 fun x3_2 =>
 LdV m1 b_s_1 3 fun v =>
 UnI v .u64 fun x3_3 =>
 R (.returned (.bool (eqL [.int .u64 x3_0, .int .u64 x3_1, .int .u64 x3_2, .int .u64 x3_3] [.int .u64 0, .int .u64 0, .int .u64 0, .int .u64 0]))) m1
noncomputable def e0A (R : Ending → Mem → Prop) : ACode := (.code (body))
theorem e0_eq (s_0_0 : Int) (s_0_1 : Int) (s_0_2 : Int) (s_0_3 : Int) (R : Ending → Mem → Prop) (m : Mem) : e0 s_0_0 s_0_1 s_0_2 s_0_3 R m = acpt P od (panicR R) (e0A R) (bodyQ P fn R) (argE (#[.agg #[.int .u64 s_0_0, .int .u64 s_0_1, .int .u64 s_0_2, .int .u64 s_0_3]] : Array Value).toList) m := by kernel_rfl
theorem ok (s_0_0 : Int) (s_0_1 : Int) (s_0_2 : Int) (s_0_3 : Int) (R : Ending → Mem → Prop) (m : Mem) (h : e0 s_0_0 s_0_1 s_0_2 s_0_3 R m) : HC P id #[.agg #[.int .u64 s_0_0, .int .u64 s_0_1, .int .u64 s_0_2, .int .u64 s_0_3]] m R := by
  refine HC_of (fn := fn) (c := body) (od := od) (tb := tb) Go.Proofs.Tryd.func53 (by kernel_rfl) (by kernel_rfl) follows (by kernel_rfl) (of_decide_eq_true (by kernel_rfl)) ?_
  have he : (e0A R).erase = body := by kernel_rfl
  rw [← he]
  refine acpt_sound (P := P) (e0A R) _ _ _ True.intro ?_
  exact Eq.mp (e0_eq s_0_0 s_0_1 s_0_2 s_0_3 R m) h
end eyotref8_Empty
/-! ### eyot/eyotref8.Not -/
namespace eyotref8_Not
noncomputable def fn : Func := Go.Proofs.Tryd.f54
noncomputable def body : Code := fn.body.getD .skip
def od : Nat → Ord := fun _ => .done
def tb : Nat → Tab := fun _ => (0, [], [])
def l1E (K : Nat → Nat → Nat → Nat → Option Addr → Nat → Nat → Int → Mem → Prop) : Env → Mem → Prop := fun ρ m => UnPA (ρ 1) fun a_1b a_1o => UnPA (ρ 2) fun x2b x2o => UnS (ρ 3) fun l_3a l_3l l_3c => UnI (ρ 4) .i64 fun i_4 => K a_1b a_1o x2b x2o l_3a l_3l l_3c i_4 m
def l1B  (K1 : Nat → Nat → Nat → Nat → Option Addr → Nat → Nat → Int → Mem → Prop) (a_1b : Nat) (a_1o : Nat) (x2b : Nat) (x2o : Nat) (l_3a : Option Addr) (l_3l : Nat) (l_3c : Nat) (i_4 : Int) (R : Ending → Mem → Prop) (m : Mem) : Prop :=
 Br (decide (i_4 < 256)) (
  LdV m a_1b a_1o fun v =>
  UnI v .u64 fun x9_0 =>
  LdV m a_1b (a_1o + 1) fun v =>
  UnI v .u64 fun x9_1 =>
  LdV m a_1b (a_1o + 2) fun v =>
  UnI v .u64 fun x9_2 =>
  LdV m a_1b (a_1o + 3) fun v =>
  UnI v .u64 fun x9_3 =>
  HC P eyotref8_Has.id #[.agg #[.int .u64 x9_0, .int .u64 x9_1, .int .u64 x9_2, .int .u64 x9_3], .int .u8 (IntKind.u8.wrap i_4)] m (Cont (fun v m1 =>
    UnB v fun x12 =>
    Br (!x12) (
     NewC m1 #[.int .u8 (IntKind.u8.wrap i_4)] T_uint8 fun b17 m2 =>
     BiN P .append #[T_sl_uint8, T_sl_uint8] T_sl_uint8 #[false, false] #[.slice l_3a l_3l l_3c, .slice (some ⟨b17, 0, none⟩) 1 1] m2 (fun w m3 =>
      UnS w fun x18a x18l x18c =>
      K1 a_1b a_1o x2b x2o x18a x18l x18c (IntKind.i64.wrap (i_4 + 1)) m3) (panicR R)) (
     K1 a_1b a_1o x2b x2o l_3a l_3l l_3c (IntKind.i64.wrap (i_4 + 1)) m1)) (panicR R))) (
  HC P eyotref8_Of.id #[.slice l_3a l_3l l_3c] m (Cont (fun v m1 =>
    UnAgg v fun l =>
    UnCons l fun v l =>
    UnI v .u64 fun x20_0 =>
    UnCons l fun v l =>
    UnI v .u64 fun x20_1 =>
    UnCons l fun v l =>
    UnI v .u64 fun x20_2 =>
    UnCons l fun v l =>
    UnI v .u64 fun x20_3 =>
    UnNil l (
     St1 m1 x2b x2o (.int .u64 x20_0) fun m2 =>
     St1 m2 x2b (x2o + 1) (.int .u64 x20_1) fun m3 =>
     St1 m3 x2b (x2o + 2) (.int .u64 x20_2) fun m4 =>
     St1 m4 x2b (x2o + 3) (.int .u64 x20_3) fun m5 =>
     LdV m5 x2b x2o fun v =>
     UnI v .u64 fun res0_0 =>
     LdV m5 x2b (x2o + 1) fun v =>
     UnI v .u64 fun res0_1 =>
     LdV m5 x2b (x2o + 2) fun v =>
     UnI v .u64 fun res0_2 =>
     LdV m5 x2b (x2o + 3) fun v =>
     UnI v .u64 fun res0_3 =>
     R (.returned (.agg #[.int .u64 res0_0, .int .u64 res0_1, .int .u64 res0_2, .int .u64 res0_3])) m5)) (panicR R)))
def l1  (a_1b : Nat) (a_1o : Nat) (x2b : Nat) (x2o : Nat) (l_3a : Option Addr) (l_3l : Nat) (l_3c : Nat) (i_4 : Int) (R : Ending → Mem → Prop) (m : Mem) : Prop :=
  ∃ (I : Nat → Nat → Nat → Nat → Nat → Option Addr → Nat → Nat → Int → Mem → Prop) (N : Nat), I N a_1b a_1o x2b x2o l_3a l_3l l_3c i_4 m ∧ ∀ N a_1b a_1o x2b x2o l_3a l_3l l_3c i_4 m, I N a_1b a_1o x2b x2o l_3a l_3l l_3c i_4 m → l1B  (fun a_1b a_1o x2b x2o l_3a l_3l l_3c i_4 m => ∃ N1, N1 < N ∧ I N1 a_1b a_1o x2b x2o l_3a l_3l l_3c i_4 m) a_1b a_1o x2b x2o l_3a l_3l l_3c i_4 R m
noncomputable def l1A  (K1 : Nat → Nat → Nat → Nat → Option Addr → Nat → Nat → Int → Mem → Prop) (R : Ending → Mem → Prop) : ACode := (.code (lP (bB (sR (sL (sR (sR (body))))))))
def e0 (a_0_0 : Int) (a_0_1 : Int) (a_0_2 : Int) (a_0_3 : Int) (R : Ending → Mem → Prop) (m : Mem) : Prop :=
 NewC m #[.int .u64 a_0_0, .int .u64 a_0_1, .int .u64 a_0_2, .int .u64 a_0_3] T_api_Set fun b_a_1 m1 =>
 NewC m1 #[.int .u64 0, .int .u64 0, .int .u64 0, .int .u64 0] T_api_Set fun b2 m2 =>
 l1  b_a_1 0 b2 0 none 0 0 0 R m2
noncomputable def e0A (R : Ending → Mem → Prop) : ACode := (.seq (.code (sL (body))) (.seq (.code (sL (sR (body)))) (.seq (.seq (.code (sL (sL (sR (sR (body)))))) (.block 0 (.cut (l1E fun a_1b a_1o x2b x2o l_3a l_3l l_3c i_4 m => l1  a_1b a_1o x2b x2o l_3a l_3l l_3c i_4 R m) (.loop (lP (bB (sR (sL (sR (sR (body))))))))))) (.code (sR (sR (sR (body))))))))
abbrev l1Q  (R : Ending → Mem → Prop) : Exit → Env → Mem → Prop := (blockQ 0 (thenQ (acpt P od (panicR R) (.code (sR (sR (sR (body))))) (bodyQ P fn R)) (bodyQ P fn R)))
theorem l1_eq  (K1 : Nat → Nat → Nat → Nat → Option Addr → Nat → Nat → Int → Mem → Prop) (R : Ending → Mem → Prop) (a_1b : Nat) (a_1o : Nat) (x2b : Nat) (x2o : Nat) (l_3a : Option Addr) (l_3l : Nat) (l_3c : Nat) (i_4 : Int) (ρ : Env) (m : Mem) : l1B  K1 a_1b a_1o x2b x2o l_3a l_3l l_3c i_4 R m = acpt P od (panicR R) (l1A  K1 R) (thenQ (l1E K1) (l1Q  R)) (upd (upd (upd (upd ρ 4 (.int .i64 i_4)) 3 (.slice l_3a l_3l l_3c)) 2 (.pointer (some ⟨x2b, x2o, none⟩))) 1 (.pointer (some ⟨a_1b, a_1o, none⟩))) m := by kernel_rfl
theorem l1_er  (K1 : Nat → Nat → Nat → Nat → Option Addr → Nat → Nat → Int → Mem → Prop) (R : Ending → Mem → Prop) : (l1A  K1 R).erase = lP (bB (sR (sL (sR (sR (body)))))) := by kernel_rfl
theorem l1_ok  (R : Ending → Mem → Prop) (ρ : Env) (m : Mem) (h : (l1E fun a_1b a_1o x2b x2o l_3a l_3l l_3c i_4 m => l1  a_1b a_1o x2b x2o l_3a l_3l l_3c i_4 R m) ρ m) : cpt P od (panicR R) (.loop (lP (bB (sR (sL (sR (sR (body)))))))) (l1Q  R) ρ m := by
  unfold l1E at h
  obtain ⟨a_1b, a_1o, e1, h⟩ := h.ex
  obtain ⟨x2b, x2o, e2, h⟩ := h.ex
  obtain ⟨l_3a, l_3l, l_3c, e3, h⟩ := h.ex
  obtain ⟨i_4, e4, h⟩ := h.ex
  obtain ⟨I, N, h0, hs⟩ := h
  refine ⟨fun N => l1E (I N), N, (by show l1E (I N) ρ m; unfold l1E; rw [e1, e2, e3, e4]; exact h0), ?_⟩
  clear h0 e1 e2 e3 e4
  intro N ρ m h
  unfold l1E at h
  obtain ⟨a_1b, a_1o, e1, h⟩ := h.ex
  obtain ⟨x2b, x2o, e2, h⟩ := h.ex
  obtain ⟨l_3a, l_3l, l_3c, e3, h⟩ := h.ex
  obtain ⟨i_4, e4, h⟩ := h.ex
  refine cpt_mono (P := P) (lP (bB (sR (sL (sR (sR (body))))))) (Q := thenQ (l1E fun a_1b a_1o x2b x2o l_3a l_3l l_3c i_4 m => ∃ N1, N1 < N ∧ I N1 a_1b a_1o x2b x2o l_3a l_3l l_3c i_4 m) (l1Q  R)) (fun e ρ m h => ?_) ρ m ?_
  · cases e with
    | normal =>
      have h : l1E (fun a_1b a_1o x2b x2o l_3a l_3l l_3c i_4 m => ∃ N1, N1 < N ∧ I N1 a_1b a_1o x2b x2o l_3a l_3l l_3c i_4 m) ρ m := h
      unfold l1E at h
      obtain ⟨a_1b, a_1o, e1, h⟩ := h.ex
      obtain ⟨x2b, x2o, e2, h⟩ := h.ex
      obtain ⟨l_3a, l_3l, l_3c, e3, h⟩ := h.ex
      obtain ⟨i_4, e4, h⟩ := h.ex
      obtain ⟨N1, hlt, h⟩ := h
      exact ⟨N1, hlt, (by show l1E (I N1) ρ m; unfold l1E; rw [e1, e2, e3, e4]; exact h)⟩
    | _ => exact h
  have hh := hs N a_1b a_1o x2b x2o l_3a l_3l l_3c i_4 m h
  generalize (fun a_1b a_1o x2b x2o l_3a l_3l l_3c i_4 m => ∃ N1, N1 < N ∧ I N1 a_1b a_1o x2b x2o l_3a l_3l l_3c i_4 m : Nat → Nat → Nat → Nat → Option Addr → Nat → Nat → Int → Mem → Prop) = K1 at hh ⊢
  rw [← upd_self e1, ← upd_self e2, ← upd_self e3, ← upd_self e4]
  rw [← l1_er  K1 R]
  refine acpt_sound (P := P) (l1A  K1 R) _ _ _ True.intro ?_
  exact Eq.mp (l1_eq  K1 R a_1b a_1o x2b x2o l_3a l_3l l_3c i_4 ρ m) hh
theorem e0_eq (a_0_0 : Int) (a_0_1 : Int) (a_0_2 : Int) (a_0_3 : Int) (R : Ending → Mem → Prop) (m : Mem) : e0 a_0_0 a_0_1 a_0_2 a_0_3 R m = acpt P od (panicR R) (e0A R) (bodyQ P fn R) (argE (#[.agg #[.int .u64 a_0_0, .int .u64 a_0_1, .int .u64 a_0_2, .int .u64 a_0_3]] : Array Value).toList) m := by kernel_rfl
theorem ok (a_0_0 : Int) (a_0_1 : Int) (a_0_2 : Int) (a_0_3 : Int) (R : Ending → Mem → Prop) (m : Mem) (h : e0 a_0_0 a_0_1 a_0_2 a_0_3 R m) : HC P id #[.agg #[.int .u64 a_0_0, .int .u64 a_0_1, .int .u64 a_0_2, .int .u64 a_0_3]] m R := by
  refine HC_of (fn := fn) (c := body) (od := od) (tb := tb) Go.Proofs.Tryd.func54 (by kernel_rfl) (by kernel_rfl) follows (by kernel_rfl) (of_decide_eq_true (by kernel_rfl)) ?_
  have he : (e0A R).erase = body := by kernel_rfl
  rw [← he]
  refine acpt_sound (P := P) (e0A R) _ _ _ ⟨⟨⟨True.intro, ⟨(fun ρ m h => l1_ok  R ρ m h), True.intro⟩⟩, True.intro⟩, True.intro⟩ ?_
  exact Eq.mp (e0_eq a_0_0 a_0_1 a_0_2 a_0_3 R m) h
end eyotref8_Not
/-! ### eyot/class.runs -/
namespace class_runs
noncomputable def fn : Func := Go.Proofs.Tryd.f55
noncomputable def body : Code := fn.body.getD .skip
def od : Nat → Ord := fun _ => .done
def tb : Nat → Tab := fun _ => (0, [], [])
def k2E (K : Nat → Nat → Option Addr → Nat → Nat → Int → Int → Int → Bool → Mem → Prop) : Env → Mem → Prop := fun ρ m => UnPA (ρ 1) fun s_1b s_1o => UnS (ρ 3) fun out_3a out_3l out_3c => UnI (ρ 4) .i64 fun c_4 => UnI (ρ 5) .i64 fun k_5 => UnI (ρ 6) .i64 fun x6 => UnB (ρ 26) fun x26 => K s_1b s_1o out_3a out_3l out_3c c_4 k_5 x6 x26 m
def k2 (K1 : Nat → Nat → Option Addr → Nat → Nat → Int → Mem → Prop) (s_1b : Nat) (s_1o : Nat) (out_3a : Option Addr) (out_3l : Nat) (out_3c : Nat) (c_4 : Int) (k_5 : Int) (x6 : Int) (x26 : Bool) (R : Ending → Mem → Prop) (m : Mem) : Prop :=
 Br x26 (
  IxS out_3a out_3l k_5 2 fun x44b x44o =>
  0 ≤ (1 : Int) ∧ (1 : Int) < (2 : Nat) ∧ (
   St1 m x44b (x44o + (1 : Int).toNat * 1) (.int .u8 (IntKind.u8.wrap c_4)) fun m1 =>
   K1 s_1b s_1o out_3a out_3l out_3c (IntKind.i64.wrap (x6 + 1)) m1)) (
  NewC m #[.int .u8 (IntKind.u8.wrap c_4), .int .u8 (IntKind.u8.wrap c_4)] T_arr2_uint8 fun b18 m1 =>
  BiN P .append #[T_sl_arr2_uint8, T_sl_arr2_uint8] T_sl_arr2_uint8 #[false, false] #[.slice out_3a out_3l out_3c, .slice (some ⟨b18, 0, none⟩) 1 1] m1 (fun w m2 =>
   UnS w fun x19a x19l x19c =>
   K1 s_1b s_1o x19a x19l x19c (IntKind.i64.wrap (x6 + 1)) m2) (panicR R))
noncomputable def k2A (K1 : Nat → Nat → Option Addr → Nat → Nat → Int → Mem → Prop) (R : Ending → Mem → Prop) : ACode := (.code (sR (cE (sR (bB (sR (sR (bB (sL (sR (sR (lP (bB (sR (sL (sR (sR (body))))))))))))))))))
def l1E (K : Nat → Nat → Option Addr → Nat → Nat → Int → Mem → Prop) : Env → Mem → Prop := fun ρ m => UnPA (ρ 1) fun s_1b s_1o => UnS (ρ 3) fun out_3a out_3l out_3c => UnI (ρ 6) .i64 fun x6 => K s_1b s_1o out_3a out_3l out_3c x6 m
def l1B  (K1 : Nat → Nat → Option Addr → Nat → Nat → Int → Mem → Prop) (s_1b : Nat) (s_1o : Nat) (out_3a : Option Addr) (out_3l : Nat) (out_3c : Nat) (x6 : Int) (R : Ending → Mem → Prop) (m : Mem) : Prop :=
 Br (decide (x6 < 256)) (
  LdV m s_1b s_1o fun v =>
  UnI v .u64 fun x21_0 =>
  LdV m s_1b (s_1o + 1) fun v =>
  UnI v .u64 fun x21_1 =>
  LdV m s_1b (s_1o + 2) fun v =>
  UnI v .u64 fun x21_2 =>
  LdV m s_1b (s_1o + 3) fun v =>
  UnI v .u64 fun x21_3 =>
  HC P class_Has.id #[.agg #[.int .u64 x21_0, .int .u64 x21_1, .int .u64 x21_2, .int .u64 x21_3], .int .u8 (IntKind.u8.wrap x6)] m (Cont (fun v m1 =>
    UnB v fun x24 =>
    Br (!x24) (
     K1 s_1b s_1o out_3a out_3l out_3c (IntKind.i64.wrap (x6 + 1)) m1) (
     Br (decide ((IntKind.i64.wrap (((out_3l : Nat) : Int) - 1)) ≥ 0)) (
      IxS out_3a out_3l (IntKind.i64.wrap (((out_3l : Nat) : Int) - 1)) 2 fun x32b x32o =>
      0 ≤ (1 : Int) ∧ (1 : Int) < (2 : Nat) ∧ (
       LdV m1 x32b (x32o + (1 : Int).toNat * 1) fun v =>
       UnI v .u8 fun x34 =>
       k2 K1 s_1b s_1o out_3a out_3l out_3c x6 (IntKind.i64.wrap (((out_3l : Nat) : Int) - 1)) x6 ((IntKind.i64.wrap x34) == (IntKind.i64.wrap (x6 - 1))) R m1)) (
      k2 K1 s_1b s_1o out_3a out_3l out_3c x6 (IntKind.i64.wrap (((out_3l : Nat) : Int) - 1)) x6 false R m1))) (panicR R))) (
  R (.returned (.slice out_3a out_3l out_3c)) m)
def l1  (s_1b : Nat) (s_1o : Nat) (out_3a : Option Addr) (out_3l : Nat) (out_3c : Nat) (x6 : Int) (R : Ending → Mem → Prop) (m : Mem) : Prop :=
  ∃ (I : Nat → Nat → Nat → Option Addr → Nat → Nat → Int → Mem → Prop) (N : Nat), I N s_1b s_1o out_3a out_3l out_3c x6 m ∧ ∀ N s_1b s_1o out_3a out_3l out_3c x6 m, I N s_1b s_1o out_3a out_3l out_3c x6 m → l1B  (fun s_1b s_1o out_3a out_3l out_3c x6 m => ∃ N1, N1 < N ∧ I N1 s_1b s_1o out_3a out_3l out_3c x6 m) s_1b s_1o out_3a out_3l out_3c x6 R m
noncomputable def l1A  (K1 : Nat → Nat → Option Addr → Nat → Nat → Int → Mem → Prop) (R : Ending → Mem → Prop) : ACode := (.seq (.code (sL (lP (bB (sR (sL (sR (sR (body))))))))) (.seq (.code (sL (sR (lP (bB (sR (sL (sR (sR (body)))))))))) (.seq (.block 1 (.seq (.code (sL (bB (sL (sR (sR (lP (bB (sR (sL (sR (sR (body))))))))))))) (.seq (.code (sL (sR (bB (sL (sR (sR (lP (bB (sR (sL (sR (sR (body)))))))))))))) (.block 2 (.seq (.code (sL (bB (sR (sR (bB (sL (sR (sR (lP (bB (sR (sL (sR (sR (body)))))))))))))))) (.cond (.tmp 20) (.code (cT (sR (bB (sR (sR (bB (sL (sR (sR (lP (bB (sR (sL (sR (sR (body))))))))))))))))) (.seq (.code (sL (cE (sR (bB (sR (sR (bB (sL (sR (sR (lP (bB (sR (sL (sR (sR (body)))))))))))))))))) (.cut (k2E fun s_1b s_1o out_3a out_3l out_3c c_4 k_5 x6 x26 m => k2 K1 s_1b s_1o out_3a out_3l out_3c c_4 k_5 x6 x26 R m) (sR (cE (sR (bB (sR (sR (bB (sL (sR (sR (lP (bB (sR (sL (sR (sR (body))))))))))))))))))))))))) (.code (sR (sR (sR (lP (bB (sR (sL (sR (sR (body))))))))))))))
def e0 (s_0_0 : Int) (s_0_1 : Int) (s_0_2 : Int) (s_0_3 : Int) (R : Ending → Mem → Prop) (m : Mem) : Prop :=
 NewC m #[.int .u64 s_0_0, .int .u64 s_0_1, .int .u64 s_0_2, .int .u64 s_0_3] T_api_Set fun b_s_1 m1 =>
 l1  b_s_1 0 none 0 0 0 R m1
noncomputable def e0A (R : Ending → Mem → Prop) : ACode := (.seq (.code (sL (body))) (.seq (.code (sL (sR (body)))) (.seq (.seq (.code (sL (sL (sR (sR (body)))))) (.block 0 (.cut (l1E fun s_1b s_1o out_3a out_3l out_3c x6 m => l1  s_1b s_1o out_3a out_3l out_3c x6 R m) (.loop (lP (bB (sR (sL (sR (sR (body))))))))))) (.code (sR (sR (sR (body))))))))
abbrev l1Q  (R : Ending → Mem → Prop) : Exit → Env → Mem → Prop := (blockQ 0 (thenQ (acpt P od (panicR R) (.code (sR (sR (sR (body))))) (bodyQ P fn R)) (bodyQ P fn R)))
abbrev k2Q (K1 : Nat → Nat → Option Addr → Nat → Nat → Int → Mem → Prop) (R : Ending → Mem → Prop) : Exit → Env → Mem → Prop := (blockQ 2 (blockQ 1 (thenQ (acpt P od (panicR R) (.code (sR (sR (sR (lP (bB (sR (sL (sR (sR (body))))))))))) (thenQ (l1E K1) (l1Q  R))) (thenQ (l1E K1) (l1Q  R)))))
theorem k2_eq (K1 : Nat → Nat → Option Addr → Nat → Nat → Int → Mem → Prop) (R : Ending → Mem → Prop) (s_1b : Nat) (s_1o : Nat) (out_3a : Option Addr) (out_3l : Nat) (out_3c : Nat) (c_4 : Int) (k_5 : Int) (x6 : Int) (x26 : Bool) (ρ : Env) (m : Mem) : k2 K1 s_1b s_1o out_3a out_3l out_3c c_4 k_5 x6 x26 R m = acpt P od (panicR R) (k2A K1 R) (k2Q K1 R) (upd (upd (upd (upd (upd (upd ρ 26 (.bool x26)) 6 (.int .i64 x6)) 5 (.int .i64 k_5)) 4 (.int .i64 c_4)) 3 (.slice out_3a out_3l out_3c)) 1 (.pointer (some ⟨s_1b, s_1o, none⟩))) m := by kernel_rfl
theorem k2_er (K1 : Nat → Nat → Option Addr → Nat → Nat → Int → Mem → Prop) (R : Ending → Mem → Prop) : (k2A K1 R).erase = sR (cE (sR (bB (sR (sR (bB (sL (sR (sR (lP (bB (sR (sL (sR (sR (body)))))))))))))))) := by kernel_rfl
theorem k2_ok (K1 : Nat → Nat → Option Addr → Nat → Nat → Int → Mem → Prop) (R : Ending → Mem → Prop) (ρ : Env) (m : Mem) (h : (k2E fun s_1b s_1o out_3a out_3l out_3c c_4 k_5 x6 x26 m => k2 K1 s_1b s_1o out_3a out_3l out_3c c_4 k_5 x6 x26 R m) ρ m) : cpt P od (panicR R) (sR (cE (sR (bB (sR (sR (bB (sL (sR (sR (lP (bB (sR (sL (sR (sR (body))))))))))))))))) (k2Q K1 R) ρ m := by
  unfold k2E at h
  obtain ⟨s_1b, s_1o, e1, h⟩ := h.ex
  obtain ⟨out_3a, out_3l, out_3c, e3, h⟩ := h.ex
  obtain ⟨c_4, e4, h⟩ := h.ex
  obtain ⟨k_5, e5, h⟩ := h.ex
  obtain ⟨x6, e6, h⟩ := h.ex
  obtain ⟨x26, e26, h⟩ := h.ex
  rw [← upd_self e1, ← upd_self e3, ← upd_self e4, ← upd_self e5, ← upd_self e6, ← upd_self e26]
  rw [← k2_er K1 R]
  refine acpt_sound (P := P) (k2A K1 R) _ _ _ True.intro ?_
  exact Eq.mp (k2_eq K1 R s_1b s_1o out_3a out_3l out_3c c_4 k_5 x6 x26 ρ m) h
theorem l1_eq  (K1 : Nat → Nat → Option Addr → Nat → Nat → Int → Mem → Prop) (R : Ending → Mem → Prop) (s_1b : Nat) (s_1o : Nat) (out_3a : Option Addr) (out_3l : Nat) (out_3c : Nat) (x6 : Int) (ρ : Env) (m : Mem) : l1B  K1 s_1b s_1o out_3a out_3l out_3c x6 R m = acpt P od (panicR R) (l1A  K1 R) (thenQ (l1E K1) (l1Q  R)) (upd (upd (upd ρ 6 (.int .i64 x6)) 3 (.slice out_3a out_3l out_3c)) 1 (.pointer (some ⟨s_1b, s_1o, none⟩))) m := by kernel_rfl
theorem l1_er  (K1 : Nat → Nat → Option Addr → Nat → Nat → Int → Mem → Prop) (R : Ending → Mem → Prop) : (l1A  K1 R).erase = lP (bB (sR (sL (sR (sR (body)))))) := by kernel_rfl
theorem l1_ok  (R : Ending → Mem → Prop) (ρ : Env) (m : Mem) (h : (l1E fun s_1b s_1o out_3a out_3l out_3c x6 m => l1  s_1b s_1o out_3a out_3l out_3c x6 R m) ρ m) : cpt P od (panicR R) (.loop (lP (bB (sR (sL (sR (sR (body)))))))) (l1Q  R) ρ m := by
  unfold l1E at h
  obtain ⟨s_1b, s_1o, e1, h⟩ := h.ex
  obtain ⟨out_3a, out_3l, out_3c, e3, h⟩ := h.ex
  obtain ⟨x6, e6, h⟩ := h.ex
  obtain ⟨I, N, h0, hs⟩ := h
  refine ⟨fun N => l1E (I N), N, (by show l1E (I N) ρ m; unfold l1E; rw [e1, e3, e6]; exact h0), ?_⟩
  clear h0 e1 e3 e6
  intro N ρ m h
  unfold l1E at h
  obtain ⟨s_1b, s_1o, e1, h⟩ := h.ex
  obtain ⟨out_3a, out_3l, out_3c, e3, h⟩ := h.ex
  obtain ⟨x6, e6, h⟩ := h.ex
  refine cpt_mono (P := P) (lP (bB (sR (sL (sR (sR (body))))))) (Q := thenQ (l1E fun s_1b s_1o out_3a out_3l out_3c x6 m => ∃ N1, N1 < N ∧ I N1 s_1b s_1o out_3a out_3l out_3c x6 m) (l1Q  R)) (fun e ρ m h => ?_) ρ m ?_
  · cases e with
    | normal =>
      have h : l1E (fun s_1b s_1o out_3a out_3l out_3c x6 m => ∃ N1, N1 < N ∧ I N1 s_1b s_1o out_3a out_3l out_3c x6 m) ρ m := h
      unfold l1E at h
      obtain ⟨s_1b, s_1o, e1, h⟩ := h.ex
      obtain ⟨out_3a, out_3l, out_3c, e3, h⟩ := h.ex
      obtain ⟨x6, e6, h⟩ := h.ex
      obtain ⟨N1, hlt, h⟩ := h
      exact ⟨N1, hlt, (by show l1E (I N1) ρ m; unfold l1E; rw [e1, e3, e6]; exact h)⟩
    | _ => exact h
  have hh := hs N s_1b s_1o out_3a out_3l out_3c x6 m h
  generalize (fun s_1b s_1o out_3a out_3l out_3c x6 m => ∃ N1, N1 < N ∧ I N1 s_1b s_1o out_3a out_3l out_3c x6 m : Nat → Nat → Option Addr → Nat → Nat → Int → Mem → Prop) = K1 at hh ⊢
  rw [← upd_self e1, ← upd_self e3, ← upd_self e6]
  rw [← l1_er  K1 R]
  refine acpt_sound (P := P) (l1A  K1 R) _ _ _ ⟨⟨⟨True.intro, ⟨⟨⟨⟨True.intro, ⟨(fun ρ m h => k2_ok K1 R ρ m h), True.intro⟩⟩, True.intro⟩, True.intro⟩, True.intro⟩⟩, True.intro⟩, True.intro⟩ ?_
  exact Eq.mp (l1_eq  K1 R s_1b s_1o out_3a out_3l out_3c x6 ρ m) hh
theorem e0_eq (s_0_0 : Int) (s_0_1 : Int) (s_0_2 : Int) (s_0_3 : Int) (R : Ending → Mem → Prop) (m : Mem) : e0 s_0_0 s_0_1 s_0_2 s_0_3 R m = acpt P od (panicR R) (e0A R) (bodyQ P fn R) (argE (#[.agg #[.int .u64 s_0_0, .int .u64 s_0_1, .int .u64 s_0_2, .int .u64 s_0_3]] : Array Value).toList) m := by kernel_rfl
theorem ok (s_0_0 : Int) (s_0_1 : Int) (s_0_2 : Int) (s_0_3 : Int) (R : Ending → Mem → Prop) (m : Mem) (h : e0 s_0_0 s_0_1 s_0_2 s_0_3 R m) : HC P id #[.agg #[.int .u64 s_0_0, .int .u64 s_0_1, .int .u64 s_0_2, .int .u64 s_0_3]] m R := by
  refine HC_of (fn := fn) (c := body) (od := od) (tb := tb) Go.Proofs.Tryd.func55 (by kernel_rfl) (by kernel_rfl) follows (by kernel_rfl) (of_decide_eq_true (by kernel_rfl)) ?_
  have he : (e0A R).erase = body := by kernel_rfl
  rw [← he]
  refine acpt_sound (P := P) (e0A R) _ _ _ ⟨⟨⟨True.intro, ⟨(fun ρ m h => l1_ok  R ρ m h), True.intro⟩⟩, True.intro⟩, True.intro⟩ ?_
  exact Eq.mp (e0_eq s_0_0 s_0_1 s_0_2 s_0_3 R m) h
end class_runs
/-! ### eyot/class.Not -/
namespace class_Not
noncomputable def fn : Func := Go.Proofs.Tryd.f56
noncomputable def body : Code := fn.body.getD .skip
def od : Nat → Ord := fun _ => .done
def tb : Nat → Tab := fun _ => (0, [], [])
def e0 (a_0_0 : Int) (a_0_1 : Int) (a_0_2 : Int) (a_0_3 : Int) (R : Ending → Mem → Prop) (m : Mem) : Prop :=
 NewC m #[.int .u64 a_0_0, .int .u64 a_0_1, .int .u64 a_0_2, .int .u64 a_0_3] T_api_Set fun b_a_1 m1 =>
 NewC m1 #[.int .u64 0, .int .u64 0, .int .u64 0, .int .u64 0] T_api_Set fun b2 m2 =>
 LdV m2 b_a_1 0 fun v =>
 UnI v .u64 fun x3_0 =>
 LdV m2 b_a_1 1 fun v =>
 UnI v .u64 fun x3_1 =>
 LdV m2 b_a_1 2 fun v =>
 UnI v .u64 fun x3_2 =>
 LdV m2 b_a_1 3 fun v =>
 UnI v .u64 fun x3_3 =>
 LdV m2 b_a_1 0 fun v =>
 UnI v .u64 fun x4_0 =>
 LdV m2 b_a_1 1 fun v =>
 UnI v .u64 fun x4_1 =>
 LdV m2 b_a_1 2 fun v =>
 UnI v .u64 fun x4_2 =>
 LdV m2 b_a_1 3 fun v =>
 UnI v .u64 fun x4_3 =>
 HC P class_with.id #[.agg #[.int .u64 x3_0, .int .u64 x3_1, .int .u64 x3_2, .int .u64 x3_3], .agg #[.int .u64 x4_0, .int .u64 x4_1, .int .u64 x4_2, .int .u64 x4_3], .func (.func class_Not_1.id) #[] #[]] m2 (Cont (fun v m3 =>
   UnAgg v fun l =>
   UnCons l fun v l =>
   UnI v .u64 fun x5_0 =>
   UnCons l fun v l =>
   UnI v .u64 fun x5_1 =>
   UnCons l fun v l =>
   UnI v .u64 fun x5_2 =>
   UnCons l fun v l =>
   UnI v .u64 fun x5_3 =>
   UnNil l (
    St1 m3 b2 0 (.int .u64 x5_0) fun m4 =>
    St1 m4 b2 1 (.int .u64 x5_1) fun m5 =>
    St1 m5 b2 2 (.int .u64 x5_2) fun m6 =>
    St1 m6 b2 3 (.int .u64 x5_3) fun m7 =>
    LdV m7 b2 0 fun v =>
    UnI v .u64 fun res0_0 =>
    LdV m7 b2 1 fun v =>
    UnI v .u64 fun res0_1 =>
    LdV m7 b2 2 fun v =>
    UnI v .u64 fun res0_2 =>
    LdV m7 b2 3 fun v =>
    UnI v .u64 fun res0_3 =>
    R (.returned (.agg #[.int .u64 res0_0, .int .u64 res0_1, .int .u64 res0_2, .int .u64 res0_3])) m7)) (panicR R))
noncomputable def e0A (R : Ending → Mem → Prop) : ACode := (.code (body))
theorem e0_eq (a_0_0 : Int) (a_0_1 : Int) (a_0_2 : Int) (a_0_3 : Int) (R : Ending → Mem → Prop) (m : Mem) : e0 a_0_0 a_0_1 a_0_2 a_0_3 R m = acpt P od (panicR R) (e0A R) (bodyQ P fn R) (argE (#[.agg #[.int .u64 a_0_0, .int .u64 a_0_1, .int .u64 a_0_2, .int .u64 a_0_3]] : Array Value).toList) m := by kernel_rfl
theorem ok (a_0_0 : Int) (a_0_1 : Int) (a_0_2 : Int) (a_0_3 : Int) (R : Ending → Mem → Prop) (m : Mem) (h : e0 a_0_0 a_0_1 a_0_2 a_0_3 R m) : HC P id #[.agg #[.int .u64 a_0_0, .int .u64 a_0_1, .int .u64 a_0_2, .int .u64 a_0_3]] m R := by
  refine HC_of (fn := fn) (c := body) (od := od) (tb := tb) Go.Proofs.Tryd.func56 (by kernel_rfl) (by kernel_rfl) follows (by kernel_rfl) (of_decide_eq_true (by kernel_rfl)) ?_
  have he : (e0A R).erase = body := by kernel_rfl
  rw [← he]
  refine acpt_sound (P := P) (e0A R) _ _ _ True.intro ?_
  exact Eq.mp (e0_eq a_0_0 a_0_1 a_0_2 a_0_3 R m) h
end class_Not
/-! ### eyot/class.sign -/
namespace class_sign
noncomputable def fn : Func := Go.Proofs.Tryd.f57
noncomputable def body : Code := fn.body.getD .skip
def od : Nat → Ord := fun | 3 => ordL [(0, 3), (1, 3), (2, 3), (3, 3), (4, 3), (5, 3), (6, 3), (7, 3), (8, 3), (9, 3), (10, 3), (11, 3), (12, 3), (13, 3), (14, 3)] .done | _ => .done
def tb : Nat → Tab := fun | 3 => (0, [0, 1, 0, 4, 12, 31, 63, 0, 128, 0, 512, 1536, 3968, 8191, 16383], [(0, 1, 9), (1, 256, 10), (0, 1, 11), (4, 1024, 12), (8, 2048, 13), (18, 4608, 14), (32, 8192, 15), (0, 1, 16), (128, 32768, 17), (0, 1, 18), (512, 131072, 19), (1024, 262144, 20), (2304, 589824, 21), (4160, 1064960, 22), (16383, 2097152, 3)]) | _ => (0, [], [])
def k1E (K : Int → Bool → Mem → Prop) : Env → Mem → Prop := fun ρ m => UnI (ρ 0) .u8 fun c_0 => UnB (ρ 3) fun x3 => K c_0 x3 m
def k1  (c_0 : Int) (x3 : Bool) (R : Ending → Mem → Prop) (m : Mem) : Prop :=
 Br x3 (
  Sub m fun r1 =>
  SlB (ByteArray.mk #[48, 49, 50, 51, 52, 53, 54, 55, 56, 57, 97, 98, 99, 100, 101, 102]) (shrV .u8 c_0 4) (IntKind.u8.wrap ((shrV .u8 c_0 4) + 1)) fun x13 =>
  CatB (ByteArray.mk #[92, 120]) x13 (
   SlB (ByteArray.mk #[48, 49, 50, 51, 52, 53, 54, 55, 56, 57, 97, 98, 99, 100, 101, 102]) (bitsV .and .u8 c_0 15) (IntKind.u8.wrap ((bitsV .and .u8 c_0 15) + 1)) fun x20 =>
   CatB ((ByteArray.mk #[92, 120]) ++ x13) x20 (
    R (.returned (.string (((ByteArray.mk #[92, 120]) ++ x13) ++ x20))) m))) (
  HC P strings_IndexByte.id #[.string (ByteArray.mk #[92, 124, 42, 43, 63, 40, 41, 91, 93, 46, 94, 45]), .int .u8 c_0] m (Cont (fun v m1 =>
    UnI v .i64 fun x24 =>
    Br (decide (x24 ≥ 0)) (
     NewC m1 #[.int .u8 c_0] T_uint8 fun b27 m2 =>
     B2S m2 (some ⟨b27, 0, none⟩) 1 fun s28 =>
     CatB (ByteArray.mk #[92]) s28 (
      R (.returned (.string ((ByteArray.mk #[92]) ++ s28))) m2)) (
     NewC m1 #[.int .u8 c_0] T_uint8 fun b31 m2 =>
     B2S m2 (some ⟨b31, 0, none⟩) 1 fun s32 =>
     R (.returned (.string s32)) m2)) (panicR R)))
noncomputable def k1A  (R : Ending → Mem → Prop) : ACode := (.code (sR (bB (sL (sR (body))))))
def e0 (c_0 : Int) (R : Ending → Mem → Prop) (m : Mem) : Prop :=
 Br (decide (c_0 < 33)) (
  k1  c_0 true R m) (
  k1  c_0 (decide (c_0 > 126)) R m)
noncomputable def e0A (R : Ending → Mem → Prop) : ACode := (.seq (.code (sL (body))) (.seq (.block 0 (.seq (.code (sL (bB (sL (sR (body)))))) (.cut (k1E fun c_0 x3 m => k1  c_0 x3 R m) (sR (bB (sL (sR (body)))))))) (.code (sR (sR (body))))))
abbrev k1Q  (R : Ending → Mem → Prop) : Exit → Env → Mem → Prop := (blockQ 0 (thenQ (acpt P od (panicR R) (.code (sR (sR (body)))) (bodyQ P fn R)) (bodyQ P fn R)))
theorem k1_eq  (R : Ending → Mem → Prop) (c_0 : Int) (x3 : Bool) (ρ : Env) (m : Mem) : k1  c_0 x3 R m = acpt P od (panicR R) (k1A  R) (k1Q  R) (upd (upd ρ 3 (.bool x3)) 0 (.int .u8 c_0)) m := by kernel_rfl
theorem k1_er  (R : Ending → Mem → Prop) : (k1A  R).erase = sR (bB (sL (sR (body)))) := by kernel_rfl
theorem k1_ok  (R : Ending → Mem → Prop) (ρ : Env) (m : Mem) (h : (k1E fun c_0 x3 m => k1  c_0 x3 R m) ρ m) : cpt P od (panicR R) (sR (bB (sL (sR (body))))) (k1Q  R) ρ m := by
  unfold k1E at h
  obtain ⟨c_0, e0, h⟩ := h.ex
  obtain ⟨x3, e3, h⟩ := h.ex
  rw [← upd_self e0, ← upd_self e3]
  rw [← k1_er  R]
  refine acpt_sound (P := P) (k1A  R) _ _ _ True.intro ?_
  exact Eq.mp (k1_eq  R c_0 x3 ρ m) h
theorem e0_eq (c_0 : Int) (R : Ending → Mem → Prop) (m : Mem) : e0 c_0 R m = acpt P od (panicR R) (e0A R) (bodyQ P fn R) (argE (#[.int .u8 c_0] : Array Value).toList) m := by kernel_rfl
theorem ok (c_0 : Int) (R : Ending → Mem → Prop) (m : Mem) (h : e0 c_0 R m) : HC P id #[.int .u8 c_0] m R := by
  refine HC_of (fn := fn) (c := body) (od := od) (tb := tb) Go.Proofs.Tryd.func57 (by kernel_rfl) (by kernel_rfl) follows (by kernel_rfl) (of_decide_eq_true (by kernel_rfl)) ?_
  have he : (e0A R).erase = body := by kernel_rfl
  rw [← he]
  refine acpt_sound (P := P) (e0A R) _ _ _ ⟨⟨True.intro, ⟨(fun ρ m h => k1_ok  R ρ m h), True.intro⟩⟩, True.intro⟩ ?_
  exact Eq.mp (e0_eq c_0 R m) h
end class_sign
end
end Go.E
set_option linter.unusedVariables false
set_option maxRecDepth 100000
namespace Go.E
open Go.H
noncomputable section
/-! ### eyot/class.shown -/
namespace class_shown
noncomputable def fn : Func := Go.Proofs.Tryd.f58
noncomputable def body : Code := fn.body.getD .skip
def od : Nat → Ord := fun | 5 => ordL [(0, 3), (1, 1), (3, 3), (4, 1), (2, 0), (5, 2), (6, 3), (7, 3)] .done | 6 => ordL [(0, 3), (1, 1), (4, 3), (5, 1), (2, 0), (3, 3), (6, 2), (7, 3), (8, 3)] .done | _ => .done
def tb : Nat → Tab := fun | 5 => (32, [0, 1, 3, 0, 8, 31, 63, 127], [(0, 2, 16), (1, 32768, 17), (2, 65536, 18), (0, 2, 19), (8, 262144, 20), (20, 524288, 21), (36, 1179648, 22), (127, 2097152, 3)]) | 6 => (64, [0, 1, 3, 7, 0, 16, 55, 127, 255], [(0, 2, 23), (1, 4194304, 24), (2, 8388608, 25), (4, 16777216, 26), (0, 2, 27), (16, 67108864, 28), (36, 134217728, 29), (72, 301989888, 30), (255, 536870912, 3)]) | _ => (0, [], [])
def e0 (r_0_0 : Int) (r_0_1 : Int) (R : Ending → Mem → Prop) (m : Mem) : Prop :=
 NewC m #[.int .u8 r_0_0, .int .u8 r_0_1] T_arr2_uint8 fun b_r_1 m1 =>
 0 ≤ (1 : Int) ∧ (1 : Int) < (2 : Nat) ∧ (
  LdV m1 b_r_1 (0 + (1 : Int).toNat * 1) fun v =>
  UnI v .u8 fun x4 =>
  0 ≤ (0 : Int) ∧ (0 : Int) < (2 : Nat) ∧ (
   LdV m1 b_r_1 (0 + (0 : Int).toNat * 1) fun v =>
   UnI v .u8 fun x6 =>
   Br ((IntKind.u8.wrap (x4 - x6)) == 0) (
    0 ≤ (0 : Int) ∧ (0 : Int) < (2 : Nat) ∧ (
     LdV m1 b_r_1 (0 + (0 : Int).toNat * 1) fun v =>
     UnI v .u8 fun x11 =>
     HC P class_sign.id #[.int .u8 x11] m1 (Cont (fun v m2 =>
       UnStr v fun x12 =>
       R (.returned (.string x12)) m2) (panicR R)))) (
    Br ((IntKind.u8.wrap (x4 - x6)) == 1) (
     Sub m1 fun r2 =>
     0 ≤ (0 : Int) ∧ (0 : Int) < (2 : Nat) ∧ (
      LdV r2 b_r_1 (0 + (0 : Int).toNat * 1) fun v =>
      UnI v .u8 fun x16 =>
      0 ≤ (1 : Int) ∧ (1 : Int) < (2 : Nat) ∧ (
       LdV r2 b_r_1 (0 + (1 : Int).toNat * 1) fun v =>
       UnI v .u8 fun x19 =>
       HC P class_sign.id #[.int .u8 x16] m1 (Cont (fun v m3 =>
        UnStr v fun x17 =>
        Lk r2 m3 fun r4 =>
        HC P class_sign.id #[.int .u8 x19] m3 (Cont (fun v m5 =>
        UnStr v fun x20 =>
        CatB x17 x20 (
        R (.returned (.string (x17 ++ x20))) m5)) (panicR R))) (panicR R))))) (
     Sub m1 fun r2 =>
     0 ≤ (0 : Int) ∧ (0 : Int) < (2 : Nat) ∧ (
      LdV r2 b_r_1 (0 + (0 : Int).toNat * 1) fun v =>
      UnI v .u8 fun x23 =>
      0 ≤ (1 : Int) ∧ (1 : Int) < (2 : Nat) ∧ (
       LdV r2 b_r_1 (0 + (1 : Int).toNat * 1) fun v =>
       UnI v .u8 fun x27 =>
       HC P class_sign.id #[.int .u8 x23] m1 (Cont (fun v m3 =>
        UnStr v fun x24 =>
        Lk r2 m3 fun r4 =>
        CatB x24 (ByteArray.mk #[45]) (
        HC P class_sign.id #[.int .u8 x27] m3 (Cont (fun v m5 =>
        UnStr v fun x28 =>
        CatB (x24 ++ (ByteArray.mk #[45])) x28 (
        R (.returned (.string ((x24 ++ (ByteArray.mk #[45])) ++ x28))) m5)) (panicR R)))) (panicR R))))))))
noncomputable def e0A (R : Ending → Mem → Prop) : ACode := (.code (body))
theorem e0_eq (r_0_0 : Int) (r_0_1 : Int) (R : Ending → Mem → Prop) (m : Mem) : e0 r_0_0 r_0_1 R m = acpt P od (panicR R) (e0A R) (bodyQ P fn R) (argE (#[.agg #[.int .u8 r_0_0, .int .u8 r_0_1]] : Array Value).toList) m := by kernel_rfl
theorem ok (r_0_0 : Int) (r_0_1 : Int) (R : Ending → Mem → Prop) (m : Mem) (h : e0 r_0_0 r_0_1 R m) : HC P id #[.agg #[.int .u8 r_0_0, .int .u8 r_0_1]] m R := by
  refine HC_of (fn := fn) (c := body) (od := od) (tb := tb) Go.Proofs.Tryd.func58 (by kernel_rfl) (by kernel_rfl) follows (by kernel_rfl) (of_decide_eq_true (by kernel_rfl)) ?_
  have he : (e0A R).erase = body := by kernel_rfl
  rw [← he]
  refine acpt_sound (P := P) (e0A R) _ _ _ True.intro ?_
  exact Eq.mp (e0_eq r_0_0 r_0_1 R m) h
end class_shown
/-! ### eyot/eyotref8.list -/
namespace eyotref8_list
noncomputable def fn : Func := Go.Proofs.Tryd.f62
noncomputable def body : Code := fn.body.getD .skip
def od : Nat → Ord := fun _ => .done
def tb : Nat → Tab := fun _ => (0, [], [])
def l1E (K : Nat → Nat → Option Addr → Nat → Nat → Int → Mem → Prop) : Env → Mem → Prop := fun ρ m => UnPA (ρ 1) fun s_1b s_1o => UnS (ρ 3) fun l_3a l_3l l_3c => UnI (ρ 4) .i64 fun b_4 => K s_1b s_1o l_3a l_3l l_3c b_4 m
def l1B  (K1 : Nat → Nat → Option Addr → Nat → Nat → Int → Mem → Prop) (s_1b : Nat) (s_1o : Nat) (l_3a : Option Addr) (l_3l : Nat) (l_3c : Nat) (b_4 : Int) (R : Ending → Mem → Prop) (m : Mem) : Prop :=
 Br (decide (b_4 < 256)) (
  LdV m s_1b s_1o fun v =>
  UnI v .u64 fun x9_0 =>
  LdV m s_1b (s_1o + 1) fun v =>
  UnI v .u64 fun x9_1 =>
  LdV m s_1b (s_1o + 2) fun v =>
  UnI v .u64 fun x9_2 =>
  LdV m s_1b (s_1o + 3) fun v =>
  UnI v .u64 fun x9_3 =>
  HC P eyotref8_Has.id #[.agg #[.int .u64 x9_0, .int .u64 x9_1, .int .u64 x9_2, .int .u64 x9_3], .int .u8 (IntKind.u8.wrap b_4)] m (Cont (fun v m1 =>
    UnB v fun x12 =>
    Br x12 (
     NewC m1 #[.int .u8 (IntKind.u8.wrap b_4)] T_uint8 fun b16 m2 =>
     BiN P .append #[T_sl_uint8, T_sl_uint8] T_sl_uint8 #[false, false] #[.slice l_3a l_3l l_3c, .slice (some ⟨b16, 0, none⟩) 1 1] m2 (fun w m3 =>
      UnS w fun x17a x17l x17c =>
      K1 s_1b s_1o x17a x17l x17c (IntKind.i64.wrap (b_4 + 1)) m3) (panicR R)) (
     K1 s_1b s_1o l_3a l_3l l_3c (IntKind.i64.wrap (b_4 + 1)) m1)) (panicR R))) (
  R (.returned (.slice l_3a l_3l l_3c)) m)
def l1  (s_1b : Nat) (s_1o : Nat) (l_3a : Option Addr) (l_3l : Nat) (l_3c : Nat) (b_4 : Int) (R : Ending → Mem → Prop) (m : Mem) : Prop :=
  ∃ (I : Nat → Nat → Nat → Option Addr → Nat → Nat → Int → Mem → Prop) (N : Nat), I N s_1b s_1o l_3a l_3l l_3c b_4 m ∧ ∀ N s_1b s_1o l_3a l_3l l_3c b_4 m, I N s_1b s_1o l_3a l_3l l_3c b_4 m → l1B  (fun s_1b s_1o l_3a l_3l l_3c b_4 m => ∃ N1, N1 < N ∧ I N1 s_1b s_1o l_3a l_3l l_3c b_4 m) s_1b s_1o l_3a l_3l l_3c b_4 R m
noncomputable def l1A  (K1 : Nat → Nat → Option Addr → Nat → Nat → Int → Mem → Prop) (R : Ending → Mem → Prop) : ACode := (.code (lP (bB (sR (sL (sR (sR (body))))))))
def e0 (s_0_0 : Int) (s_0_1 : Int) (s_0_2 : Int) (s_0_3 : Int) (R : Ending → Mem → Prop) (m : Mem) : Prop :=
 NewC m #[.int .u64 s_0_0, .int .u64 s_0_1, .int .u64 s_0_2, .int .u64 s_0_3] T_api_Set fun b_s_1 m1 =>
 l1  b_s_1 0 none 0 0 0 R m1
noncomputable def e0A (R : Ending → Mem → Prop) : ACode := (.seq (.code (sL (body))) (.seq (.code (sL (sR (body)))) (.seq (.seq (.code (sL (sL (sR (sR (body)))))) (.block 0 (.cut (l1E fun s_1b s_1o l_3a l_3l l_3c b_4 m => l1  s_1b s_1o l_3a l_3l l_3c b_4 R m) (.loop (lP (bB (sR (sL (sR (sR (body))))))))))) (.code (sR (sR (sR (body))))))))
abbrev l1Q  (R : Ending → Mem → Prop) : Exit → Env → Mem → Prop := (blockQ 0 (thenQ (acpt P od (panicR R) (.code (sR (sR (sR (body))))) (bodyQ P fn R)) (bodyQ P fn R)))
theorem l1_eq  (K1 : Nat → Nat → Option Addr → Nat → Nat → Int → Mem → Prop) (R : Ending → Mem → Prop) (s_1b : Nat) (s_1o : Nat) (l_3a : Option Addr) (l_3l : Nat) (l_3c : Nat) (b_4 : Int) (ρ : Env) (m : Mem) : l1B  K1 s_1b s_1o l_3a l_3l l_3c b_4 R m = acpt P od (panicR R) (l1A  K1 R) (thenQ (l1E K1) (l1Q  R)) (upd (upd (upd ρ 4 (.int .i64 b_4)) 3 (.slice l_3a l_3l l_3c)) 1 (.pointer (some ⟨s_1b, s_1o, none⟩))) m := by kernel_rfl
theorem l1_er  (K1 : Nat → Nat → Option Addr → Nat → Nat → Int → Mem → Prop) (R : Ending → Mem → Prop) : (l1A  K1 R).erase = lP (bB (sR (sL (sR (sR (body)))))) := by kernel_rfl
theorem l1_ok  (R : Ending → Mem → Prop) (ρ : Env) (m : Mem) (h : (l1E fun s_1b s_1o l_3a l_3l l_3c b_4 m => l1  s_1b s_1o l_3a l_3l l_3c b_4 R m) ρ m) : cpt P od (panicR R) (.loop (lP (bB (sR (sL (sR (sR (body)))))))) (l1Q  R) ρ m := by
  unfold l1E at h
  obtain ⟨s_1b, s_1o, e1, h⟩ := h.ex
  obtain ⟨l_3a, l_3l, l_3c, e3, h⟩ := h.ex
  obtain ⟨b_4, e4, h⟩ := h.ex
  obtain ⟨I, N, h0, hs⟩ := h
  refine ⟨fun N => l1E (I N), N, (by show l1E (I N) ρ m; unfold l1E; rw [e1, e3, e4]; exact h0), ?_⟩
  clear h0 e1 e3 e4
  intro N ρ m h
  unfold l1E at h
  obtain ⟨s_1b, s_1o, e1, h⟩ := h.ex
  obtain ⟨l_3a, l_3l, l_3c, e3, h⟩ := h.ex
  obtain ⟨b_4, e4, h⟩ := h.ex
  refine cpt_mono (P := P) (lP (bB (sR (sL (sR (sR (body))))))) (Q := thenQ (l1E fun s_1b s_1o l_3a l_3l l_3c b_4 m => ∃ N1, N1 < N ∧ I N1 s_1b s_1o l_3a l_3l l_3c b_4 m) (l1Q  R)) (fun e ρ m h => ?_) ρ m ?_
  · cases e with
    | normal =>
      have h : l1E (fun s_1b s_1o l_3a l_3l l_3c b_4 m => ∃ N1, N1 < N ∧ I N1 s_1b s_1o l_3a l_3l l_3c b_4 m) ρ m := h
      unfold l1E at h
      obtain ⟨s_1b, s_1o, e1, h⟩ := h.ex
      obtain ⟨l_3a, l_3l, l_3c, e3, h⟩ := h.ex
      obtain ⟨b_4, e4, h⟩ := h.ex
      obtain ⟨N1, hlt, h⟩ := h
      exact ⟨N1, hlt, (by show l1E (I N1) ρ m; unfold l1E; rw [e1, e3, e4]; exact h)⟩
    | _ => exact h
  have hh := hs N s_1b s_1o l_3a l_3l l_3c b_4 m h
  generalize (fun s_1b s_1o l_3a l_3l l_3c b_4 m => ∃ N1, N1 < N ∧ I N1 s_1b s_1o l_3a l_3l l_3c b_4 m : Nat → Nat → Option Addr → Nat → Nat → Int → Mem → Prop) = K1 at hh ⊢
  rw [← upd_self e1, ← upd_self e3, ← upd_self e4]
  rw [← l1_er  K1 R]
  refine acpt_sound (P := P) (l1A  K1 R) _ _ _ True.intro ?_
  exact Eq.mp (l1_eq  K1 R s_1b s_1o l_3a l_3l l_3c b_4 ρ m) hh
theorem e0_eq (s_0_0 : Int) (s_0_1 : Int) (s_0_2 : Int) (s_0_3 : Int) (R : Ending → Mem → Prop) (m : Mem) : e0 s_0_0 s_0_1 s_0_2 s_0_3 R m = acpt P od (panicR R) (e0A R) (bodyQ P fn R) (argE (#[.agg #[.int .u64 s_0_0, .int .u64 s_0_1, .int .u64 s_0_2, .int .u64 s_0_3]] : Array Value).toList) m := by kernel_rfl
theorem ok (s_0_0 : Int) (s_0_1 : Int) (s_0_2 : Int) (s_0_3 : Int) (R : Ending → Mem → Prop) (m : Mem) (h : e0 s_0_0 s_0_1 s_0_2 s_0_3 R m) : HC P id #[.agg #[.int .u64 s_0_0, .int .u64 s_0_1, .int .u64 s_0_2, .int .u64 s_0_3]] m R := by
  refine HC_of (fn := fn) (c := body) (od := od) (tb := tb) Go.Proofs.Tryd.func62 (by kernel_rfl) (by kernel_rfl) follows (by kernel_rfl) (of_decide_eq_true (by kernel_rfl)) ?_
  have he : (e0A R).erase = body := by kernel_rfl
  rw [← he]
  refine acpt_sound (P := P) (e0A R) _ _ _ ⟨⟨⟨True.intro, ⟨(fun ρ m h => l1_ok  R ρ m h), True.intro⟩⟩, True.intro⟩, True.intro⟩ ?_
  exact Eq.mp (e0_eq s_0_0 s_0_1 s_0_2 s_0_3 R m) h
end eyotref8_list
/-! ### eyot/eyotref8.shown -/
namespace eyotref8_shown
noncomputable def fn : Func := Go.Proofs.Tryd.f63
noncomputable def body : Code := fn.body.getD .skip
def od : Nat → Ord := fun | 5 => ordL [(0, 3), (1, 3), (2, 3), (3, 3), (4, 3), (5, 3), (6, 2), (7, 2), (8, 3)] .done | _ => .done
def tb : Nat → Tab := fun | 5 => (192, [0, 1, 3, 0, 8, 24, 63, 127, 255], [(0, 1, 18), (1, 131072, 19), (2, 262144, 20), (0, 1, 21), (8, 1048576, 22), (16, 2097152, 23), (36, 4718592, 24), (64, 8388608, 25), (255, 16777216, 3)]) | _ => (0, [], [])
def k2E (K : Int → Mem → Prop) : Env → Mem → Prop := fun ρ m => UnI (ρ 0) .u8 fun c_0 => K c_0 m
def k2  (c_0 : Int) (R : Ending → Mem → Prop) (m : Mem) : Prop :=
 Sub m fun r1 =>
 IxB (ByteArray.mk #[48, 49, 50, 51, 52, 53, 54, 55, 56, 57, 97, 98, 99, 100, 101, 102]) (IntKind.u8.wrap (Int.tdiv c_0 16)) fun x19 =>
 IxB (ByteArray.mk #[48, 49, 50, 51, 52, 53, 54, 55, 56, 57, 97, 98, 99, 100, 101, 102]) (Int.tmod c_0 16) fun x22 =>
 NewC m #[.int .u8 92, .int .u8 120, .int .u8 x19, .int .u8 x22] T_uint8 fun b23 m2 =>
 B2S m2 (some ⟨b23, 0, none⟩) 4 fun s24 =>
 R (.returned (.string s24)) m2
noncomputable def k2A  (R : Ending → Mem → Prop) : ACode := (.code (sR (sR (sR (body)))))
def k1E (K : Int → Bool → Mem → Prop) : Env → Mem → Prop := fun ρ m => UnI (ρ 0) .u8 fun c_0 => UnB (ρ 13) fun x13 => K c_0 x13 m
def k1  (c_0 : Int) (x13 : Bool) (R : Ending → Mem → Prop) (m : Mem) : Prop :=
 Br x13 (
  NewC m #[.int .u8 c_0] T_uint8 fun b15 m1 =>
  B2S m1 (some ⟨b15, 0, none⟩) 1 fun s16 =>
  R (.returned (.string s16)) m1) (
  k2  c_0 R m)
noncomputable def k1A  (R : Ending → Mem → Prop) : ACode := (.code (sR (sL (sR (sR (body))))))
def e0 (c_0 : Int) (R : Ending → Mem → Prop) (m : Mem) : Prop :=
 HC P eyotref8_in.id #[.string (ByteArray.mk #[92, 124, 42, 43, 63, 40, 41, 91, 93, 46, 94, 45]), .int .u8 c_0] m (Cont (fun v m1 =>
   UnB v fun x4 =>
   Br x4 (
    NewC m1 #[.int .u8 92, .int .u8 c_0] T_uint8 fun b6 m2 =>
    B2S m2 (some ⟨b6, 0, none⟩) 2 fun s7 =>
    R (.returned (.string s7)) m2) (
    Br (decide (c_0 ≥ 33)) (
     k1  c_0 (decide (c_0 ≤ 126)) R m1) (
     k1  c_0 false R m1))) (panicR R))
noncomputable def e0A (R : Ending → Mem → Prop) : ACode := (.seq (.code (sL (body))) (.seq (.code (sL (sR (body)))) (.seq (.seq (.code (sL (sL (sR (sR (body)))))) (.cut (k1E fun c_0 x13 m => k1  c_0 x13 R m) (sR (sL (sR (sR (body))))))) (.cut (k2E fun c_0 m => k2  c_0 R m) (sR (sR (sR (body))))))))
abbrev k2Q  (R : Ending → Mem → Prop) : Exit → Env → Mem → Prop := (bodyQ P fn R)
abbrev k1Q  (R : Ending → Mem → Prop) : Exit → Env → Mem → Prop := (thenQ (acpt P od (panicR R) (.cut (k2E fun c_0 m => k2  c_0 R m) (sR (sR (sR (body))))) (bodyQ P fn R)) (bodyQ P fn R))
theorem k2_eq  (R : Ending → Mem → Prop) (c_0 : Int) (ρ : Env) (m : Mem) : k2  c_0 R m = acpt P od (panicR R) (k2A  R) (k2Q  R) (upd ρ 0 (.int .u8 c_0)) m := by kernel_rfl
theorem k2_er  (R : Ending → Mem → Prop) : (k2A  R).erase = sR (sR (sR (body))) := by kernel_rfl
theorem k2_ok  (R : Ending → Mem → Prop) (ρ : Env) (m : Mem) (h : (k2E fun c_0 m => k2  c_0 R m) ρ m) : cpt P od (panicR R) (sR (sR (sR (body)))) (k2Q  R) ρ m := by
  unfold k2E at h
  obtain ⟨c_0, e0, h⟩ := h.ex
  rw [← upd_self e0]
  rw [← k2_er  R]
  refine acpt_sound (P := P) (k2A  R) _ _ _ True.intro ?_
  exact Eq.mp (k2_eq  R c_0 ρ m) h
theorem k1_eq  (R : Ending → Mem → Prop) (c_0 : Int) (x13 : Bool) (ρ : Env) (m : Mem) : k1  c_0 x13 R m = acpt P od (panicR R) (k1A  R) (k1Q  R) (upd (upd ρ 13 (.bool x13)) 0 (.int .u8 c_0)) m := by kernel_rfl
theorem k1_er  (R : Ending → Mem → Prop) : (k1A  R).erase = sR (sL (sR (sR (body)))) := by kernel_rfl
theorem k1_ok  (R : Ending → Mem → Prop) (ρ : Env) (m : Mem) (h : (k1E fun c_0 x13 m => k1  c_0 x13 R m) ρ m) : cpt P od (panicR R) (sR (sL (sR (sR (body))))) (k1Q  R) ρ m := by
  unfold k1E at h
  obtain ⟨c_0, e0, h⟩ := h.ex
  obtain ⟨x13, e13, h⟩ := h.ex
  rw [← upd_self e0, ← upd_self e13]
  rw [← k1_er  R]
  refine acpt_sound (P := P) (k1A  R) _ _ _ True.intro ?_
  exact Eq.mp (k1_eq  R c_0 x13 ρ m) h
theorem e0_eq (c_0 : Int) (R : Ending → Mem → Prop) (m : Mem) : e0 c_0 R m = acpt P od (panicR R) (e0A R) (bodyQ P fn R) (argE (#[.int .u8 c_0] : Array Value).toList) m := by kernel_rfl
theorem ok (c_0 : Int) (R : Ending → Mem → Prop) (m : Mem) (h : e0 c_0 R m) : HC P id #[.int .u8 c_0] m R := by
  refine HC_of (fn := fn) (c := body) (od := od) (tb := tb) Go.Proofs.Tryd.func63 (by kernel_rfl) (by kernel_rfl) follows (by kernel_rfl) (of_decide_eq_true (by kernel_rfl)) ?_
  have he : (e0A R).erase = body := by kernel_rfl
  rw [← he]
  refine acpt_sound (P := P) (e0A R) _ _ _ ⟨⟨⟨(fun ρ m h => k2_ok  R ρ m h), ⟨(fun ρ m h => k1_ok  R ρ m h), True.intro⟩⟩, True.intro⟩, True.intro⟩ ?_
  exact Eq.mp (e0_eq c_0 R m) h
end eyotref8_shown
/-! ### eyot/class.Has -/
namespace class_Has
noncomputable def fn : Func := Go.Proofs.Tryd.f64
noncomputable def body : Code := fn.body.getD .skip
def od : Nat → Ord := fun _ => .done
def tb : Nat → Tab := fun _ => (0, [], [])
def e0 (s_0_0 : Int) (s_0_1 : Int) (s_0_2 : Int) (s_0_3 : Int) (b_1 : Int) (R : Ending → Mem → Prop) (m : Mem) : Prop :=
 NewC m #[.int .u64 s_0_0, .int .u64 s_0_1, .int .u64 s_0_2, .int .u64 s_0_3] T_api_Set fun b_s_2 m1 =>
 0 ≤ (IntKind.u8.wrap (Int.tdiv b_1 64) : Int) ∧ (IntKind.u8.wrap (Int.tdiv b_1 64) : Int) < (4 : Nat) ∧ (
  LdV m1 b_s_2 (0 + (IntKind.u8.wrap (Int.tdiv b_1 64) : Int).toNat * 1) fun v =>
  UnI v .u64 fun x8 =>
  NnI (Int.tmod b_1 64) (
   R (.returned (.bool ((bitsV .and .u64 (shrV .u64 x8 (Int.tmod b_1 64)) 1) == 1))) m1))
noncomputable def e0A (R : Ending → Mem → Prop) : ACode := (.code (body))
theorem e0_eq (s_0_0 : Int) (s_0_1 : Int) (s_0_2 : Int) (s_0_3 : Int) (b_1 : Int) (R : Ending → Mem → Prop) (m : Mem) : e0 s_0_0 s_0_1 s_0_2 s_0_3 b_1 R m = acpt P od (panicR R) (e0A R) (bodyQ P fn R) (argE (#[.agg #[.int .u64 s_0_0, .int .u64 s_0_1, .int .u64 s_0_2, .int .u64 s_0_3], .int .u8 b_1] : Array Value).toList) m := by kernel_rfl
theorem ok (s_0_0 : Int) (s_0_1 : Int) (s_0_2 : Int) (s_0_3 : Int) (b_1 : Int) (R : Ending → Mem → Prop) (m : Mem) (h : e0 s_0_0 s_0_1 s_0_2 s_0_3 b_1 R m) : HC P id #[.agg #[.int .u64 s_0_0, .int .u64 s_0_1, .int .u64 s_0_2, .int .u64 s_0_3], .int .u8 b_1] m R := by
  refine HC_of (fn := fn) (c := body) (od := od) (tb := tb) Go.Proofs.Tryd.func64 (by kernel_rfl) (by kernel_rfl) follows (by kernel_rfl) (of_decide_eq_true (by kernel_rfl)) ?_
  have he : (e0A R).erase = body := by kernel_rfl
  rw [← he]
  refine acpt_sound (P := P) (e0A R) _ _ _ True.intro ?_
  exact Eq.mp (e0_eq s_0_0 s_0_1 s_0_2 s_0_3 b_1 R m) h
end class_Has
/-! ### eyot/regex.join -/
namespace regex_join
noncomputable def fn : Func := Go.Proofs.Tryd.f65
noncomputable def body : Code := fn.body.getD .skip
def od : Nat → Ord := fun _ => .done
def tb : Nat → Tab := fun _ => (0, [], [])
def k2E (K : Option Addr → Nat → Nat → Bool → Int → Bool → Option Addr → Nat → Nat → Int → Int → Mem → Prop) : Env → Mem → Prop := fun ρ m => UnS (ρ 0) fun to_0a to_0l to_0c => UnB (ρ 5) fun turned_5 => UnI (ρ 6) .i64 fun i_6 => UnB (ρ 7) fun is_7 => UnS (ρ 8) fun x8a x8l x8c => UnI (ρ 9) .i64 fun x9 => UnI (ρ 10) .i64 fun x10 => K to_0a to_0l to_0c turned_5 i_6 is_7 x8a x8l x8c x9 x10 m
def k2 (K1 : Option Addr → Nat → Nat → Bool → Option Addr → Nat → Nat → Int → Int → Mem → Prop) (to_0a : Option Addr) (to_0l : Nat) (to_0c : Nat) (turned_5 : Bool) (i_6 : Int) (is_7 : Bool) (x8a : Option Addr) (x8l : Nat) (x8c : Nat) (x9 : Int) (x10 : Int) (R : Ending → Mem → Prop) (m : Mem) : Prop :=
 IxS to_0a to_0l i_6 1 fun x30b x30o =>
 LdV m x30b x30o fun v =>
 UnB v fun x31 =>
 Br x31 (
  IxS to_0a to_0l i_6 1 fun x35b x35o =>
  St1 m x35b x35o (.bool true) fun m1 =>
  K1 to_0a to_0l to_0c turned_5 x8a x8l x8c x9 (IntKind.i64.wrap (x10 + 1)) m1) (
  IxS to_0a to_0l i_6 1 fun x35b x35o =>
  St1 m x35b x35o (.bool is_7) fun m1 =>
  K1 to_0a to_0l to_0c turned_5 x8a x8l x8c x9 (IntKind.i64.wrap (x10 + 1)) m1)
noncomputable def k2A (K1 : Option Addr → Nat → Nat → Bool → Option Addr → Nat → Nat → Int → Int → Mem → Prop) (R : Ending → Mem → Prop) : ACode := (.code (sR (sR (bB (sL (sR (sR (lP (bB (sR (sL (sR (sR (body))))))))))))))
def l1E (K : Option Addr → Nat → Nat → Bool → Option Addr → Nat → Nat → Int → Int → Mem → Prop) : Env → Mem → Prop := fun ρ m => UnS (ρ 0) fun to_0a to_0l to_0c => UnB (ρ 5) fun turned_5 => UnS (ρ 8) fun x8a x8l x8c => UnI (ρ 9) .i64 fun x9 => UnI (ρ 10) .i64 fun x10 => K to_0a to_0l to_0c turned_5 x8a x8l x8c x9 x10 m
def l1B  (K1 : Option Addr → Nat → Nat → Bool → Option Addr → Nat → Nat → Int → Int → Mem → Prop) (to_0a : Option Addr) (to_0l : Nat) (to_0c : Nat) (turned_5 : Bool) (x8a : Option Addr) (x8l : Nat) (x8c : Nat) (x9 : Int) (x10 : Int) (R : Ending → Mem → Prop) (m : Mem) : Prop :=
 Br (decide (x10 < x9)) (
  IxS x8a x8l x10 1 fun x13b x13o =>
  LdV m x13b x13o fun v =>
  UnB v fun x14 =>
  Br turned_5 (
   k2 K1 to_0a to_0l to_0c true x10 x14 x8a x8l x8c x9 x10 R m) (
   Br x14 (
    IxS to_0a to_0l x10 1 fun x21b x21o =>
    LdV m x21b x21o fun v =>
    UnB v fun x22 =>
    k2 K1 to_0a to_0l to_0c (!x22) x10 x14 x8a x8l x8c x9 x10 R m) (
    k2 K1 to_0a to_0l to_0c false x10 x14 x8a x8l x8c x9 x10 R m))) (
  R (.returned (.bool turned_5)) m)
def l1  (to_0a : Option Addr) (to_0l : Nat) (to_0c : Nat) (turned_5 : Bool) (x8a : Option Addr) (x8l : Nat) (x8c : Nat) (x9 : Int) (x10 : Int) (R : Ending → Mem → Prop) (m : Mem) : Prop :=
  ∃ (I : Nat → Option Addr → Nat → Nat → Bool → Option Addr → Nat → Nat → Int → Int → Mem → Prop) (N : Nat), I N to_0a to_0l to_0c turned_5 x8a x8l x8c x9 x10 m ∧ ∀ N to_0a to_0l to_0c turned_5 x8a x8l x8c x9 x10 m, I N to_0a to_0l to_0c turned_5 x8a x8l x8c x9 x10 m → l1B  (fun to_0a to_0l to_0c turned_5 x8a x8l x8c x9 x10 m => ∃ N1, N1 < N ∧ I N1 to_0a to_0l to_0c turned_5 x8a x8l x8c x9 x10 m) to_0a to_0l to_0c turned_5 x8a x8l x8c x9 x10 R m
noncomputable def l1A  (K1 : Option Addr → Nat → Nat → Bool → Option Addr → Nat → Nat → Int → Int → Mem → Prop) (R : Ending → Mem → Prop) : ACode := (.seq (.code (sL (lP (bB (sR (sL (sR (sR (body))))))))) (.seq (.code (sL (sR (lP (bB (sR (sL (sR (sR (body)))))))))) (.seq (.block 1 (.seq (.code (sL (bB (sL (sR (sR (lP (bB (sR (sL (sR (sR (body))))))))))))) (.seq (.code (sL (sR (bB (sL (sR (sR (lP (bB (sR (sL (sR (sR (body)))))))))))))) (.cut (k2E fun to_0a to_0l to_0c turned_5 i_6 is_7 x8a x8l x8c x9 x10 m => k2 K1 to_0a to_0l to_0c turned_5 i_6 is_7 x8a x8l x8c x9 x10 R m) (sR (sR (bB (sL (sR (sR (lP (bB (sR (sL (sR (sR (body))))))))))))))))) (.code (sR (sR (sR (lP (bB (sR (sL (sR (sR (body))))))))))))))
def e0 (to_0a : Option Addr) (to_0l : Nat) (to_0c : Nat) (l_1a : Option Addr) (l_1l : Nat) (l_1c : Nat) (R : Ending → Mem → Prop) (m : Mem) : Prop :=
 l1  to_0a to_0l to_0c false l_1a l_1l l_1c ((l_1l : Nat) : Int) 0 R m
noncomputable def e0A (R : Ending → Mem → Prop) : ACode := (.seq (.code (sL (body))) (.seq (.code (sL (sR (body)))) (.seq (.seq (.code (sL (sL (sR (sR (body)))))) (.block 0 (.cut (l1E fun to_0a to_0l to_0c turned_5 x8a x8l x8c x9 x10 m => l1  to_0a to_0l to_0c turned_5 x8a x8l x8c x9 x10 R m) (.loop (lP (bB (sR (sL (sR (sR (body))))))))))) (.code (sR (sR (sR (body))))))))
abbrev l1Q  (R : Ending → Mem → Prop) : Exit → Env → Mem → Prop := (blockQ 0 (thenQ (acpt P od (panicR R) (.code (sR (sR (sR (body))))) (bodyQ P fn R)) (bodyQ P fn R)))
abbrev k2Q (K1 : Option Addr → Nat → Nat → Bool → Option Addr → Nat → Nat → Int → Int → Mem → Prop) (R : Ending → Mem → Prop) : Exit → Env → Mem → Prop := (blockQ 1 (thenQ (acpt P od (panicR R) (.code (sR (sR (sR (lP (bB (sR (sL (sR (sR (body))))))))))) (thenQ (l1E K1) (l1Q  R))) (thenQ (l1E K1) (l1Q  R))))
theorem k2_eq (K1 : Option Addr → Nat → Nat → Bool → Option Addr → Nat → Nat → Int → Int → Mem → Prop) (R : Ending → Mem → Prop) (to_0a : Option Addr) (to_0l : Nat) (to_0c : Nat) (turned_5 : Bool) (i_6 : Int) (is_7 : Bool) (x8a : Option Addr) (x8l : Nat) (x8c : Nat) (x9 : Int) (x10 : Int) (ρ : Env) (m : Mem) : k2 K1 to_0a to_0l to_0c turned_5 i_6 is_7 x8a x8l x8c x9 x10 R m = acpt P od (panicR R) (k2A K1 R) (k2Q K1 R) (upd (upd (upd (upd (upd (upd (upd ρ 10 (.int .i64 x10)) 9 (.int .i64 x9)) 8 (.slice x8a x8l x8c)) 7 (.bool is_7)) 6 (.int .i64 i_6)) 5 (.bool turned_5)) 0 (.slice to_0a to_0l to_0c)) m := by kernel_rfl
theorem k2_er (K1 : Option Addr → Nat → Nat → Bool → Option Addr → Nat → Nat → Int → Int → Mem → Prop) (R : Ending → Mem → Prop) : (k2A K1 R).erase = sR (sR (bB (sL (sR (sR (lP (bB (sR (sL (sR (sR (body)))))))))))) := by kernel_rfl
theorem k2_ok (K1 : Option Addr → Nat → Nat → Bool → Option Addr → Nat → Nat → Int → Int → Mem → Prop) (R : Ending → Mem → Prop) (ρ : Env) (m : Mem) (h : (k2E fun to_0a to_0l to_0c turned_5 i_6 is_7 x8a x8l x8c x9 x10 m => k2 K1 to_0a to_0l to_0c turned_5 i_6 is_7 x8a x8l x8c x9 x10 R m) ρ m) : cpt P od (panicR R) (sR (sR (bB (sL (sR (sR (lP (bB (sR (sL (sR (sR (body))))))))))))) (k2Q K1 R) ρ m := by
  unfold k2E at h
  obtain ⟨to_0a, to_0l, to_0c, e0, h⟩ := h.ex
  obtain ⟨turned_5, e5, h⟩ := h.ex
  obtain ⟨i_6, e6, h⟩ := h.ex
  obtain ⟨is_7, e7, h⟩ := h.ex
  obtain ⟨x8a, x8l, x8c, e8, h⟩ := h.ex
  obtain ⟨x9, e9, h⟩ := h.ex
  obtain ⟨x10, e10, h⟩ := h.ex
  rw [← upd_self e0, ← upd_self e5, ← upd_self e6, ← upd_self e7, ← upd_self e8, ← upd_self e9, ← upd_self e10]
  rw [← k2_er K1 R]
  refine acpt_sound (P := P) (k2A K1 R) _ _ _ True.intro ?_
  exact Eq.mp (k2_eq K1 R to_0a to_0l to_0c turned_5 i_6 is_7 x8a x8l x8c x9 x10 ρ m) h
theorem l1_eq  (K1 : Option Addr → Nat → Nat → Bool → Option Addr → Nat → Nat → Int → Int → Mem → Prop) (R : Ending → Mem → Prop) (to_0a : Option Addr) (to_0l : Nat) (to_0c : Nat) (turned_5 : Bool) (x8a : Option Addr) (x8l : Nat) (x8c : Nat) (x9 : Int) (x10 : Int) (ρ : Env) (m : Mem) : l1B  K1 to_0a to_0l to_0c turned_5 x8a x8l x8c x9 x10 R m = acpt P od (panicR R) (l1A  K1 R) (thenQ (l1E K1) (l1Q  R)) (upd (upd (upd (upd (upd ρ 10 (.int .i64 x10)) 9 (.int .i64 x9)) 8 (.slice x8a x8l x8c)) 5 (.bool turned_5)) 0 (.slice to_0a to_0l to_0c)) m := by kernel_rfl
theorem l1_er  (K1 : Option Addr → Nat → Nat → Bool → Option Addr → Nat → Nat → Int → Int → Mem → Prop) (R : Ending → Mem → Prop) : (l1A  K1 R).erase = lP (bB (sR (sL (sR (sR (body)))))) := by kernel_rfl
theorem l1_ok  (R : Ending → Mem → Prop) (ρ : Env) (m : Mem) (h : (l1E fun to_0a to_0l to_0c turned_5 x8a x8l x8c x9 x10 m => l1  to_0a to_0l to_0c turned_5 x8a x8l x8c x9 x10 R m) ρ m) : cpt P od (panicR R) (.loop (lP (bB (sR (sL (sR (sR (body)))))))) (l1Q  R) ρ m := by
  unfold l1E at h
  obtain ⟨to_0a, to_0l, to_0c, e0, h⟩ := h.ex
  obtain ⟨turned_5, e5, h⟩ := h.ex
  obtain ⟨x8a, x8l, x8c, e8, h⟩ := h.ex
  obtain ⟨x9, e9, h⟩ := h.ex
  obtain ⟨x10, e10, h⟩ := h.ex
  obtain ⟨I, N, h0, hs⟩ := h
  refine ⟨fun N => l1E (I N), N, (by show l1E (I N) ρ m; unfold l1E; rw [e0, e5, e8, e9, e10]; exact h0), ?_⟩
  clear h0 e0 e5 e8 e9 e10
  intro N ρ m h
  unfold l1E at h
  obtain ⟨to_0a, to_0l, to_0c, e0, h⟩ := h.ex
  obtain ⟨turned_5, e5, h⟩ := h.ex
  obtain ⟨x8a, x8l, x8c, e8, h⟩ := h.ex
  obtain ⟨x9, e9, h⟩ := h.ex
  obtain ⟨x10, e10, h⟩ := h.ex
  refine cpt_mono (P := P) (lP (bB (sR (sL (sR (sR (body))))))) (Q := thenQ (l1E fun to_0a to_0l to_0c turned_5 x8a x8l x8c x9 x10 m => ∃ N1, N1 < N ∧ I N1 to_0a to_0l to_0c turned_5 x8a x8l x8c x9 x10 m) (l1Q  R)) (fun e ρ m h => ?_) ρ m ?_
  · cases e with
    | normal =>
      have h : l1E (fun to_0a to_0l to_0c turned_5 x8a x8l x8c x9 x10 m => ∃ N1, N1 < N ∧ I N1 to_0a to_0l to_0c turned_5 x8a x8l x8c x9 x10 m) ρ m := h
      unfold l1E at h
      obtain ⟨to_0a, to_0l, to_0c, e0, h⟩ := h.ex
      obtain ⟨turned_5, e5, h⟩ := h.ex
      obtain ⟨x8a, x8l, x8c, e8, h⟩ := h.ex
      obtain ⟨x9, e9, h⟩ := h.ex
      obtain ⟨x10, e10, h⟩ := h.ex
      obtain ⟨N1, hlt, h⟩ := h
      exact ⟨N1, hlt, (by show l1E (I N1) ρ m; unfold l1E; rw [e0, e5, e8, e9, e10]; exact h)⟩
    | _ => exact h
  have hh := hs N to_0a to_0l to_0c turned_5 x8a x8l x8c x9 x10 m h
  generalize (fun to_0a to_0l to_0c turned_5 x8a x8l x8c x9 x10 m => ∃ N1, N1 < N ∧ I N1 to_0a to_0l to_0c turned_5 x8a x8l x8c x9 x10 m : Option Addr → Nat → Nat → Bool → Option Addr → Nat → Nat → Int → Int → Mem → Prop) = K1 at hh ⊢
  rw [← upd_self e0, ← upd_self e5, ← upd_self e8, ← upd_self e9, ← upd_self e10]
  rw [← l1_er  K1 R]
  refine acpt_sound (P := P) (l1A  K1 R) _ _ _ ⟨⟨⟨True.intro, ⟨⟨(fun ρ m h => k2_ok K1 R ρ m h), True.intro⟩, True.intro⟩⟩, True.intro⟩, True.intro⟩ ?_
  exact Eq.mp (l1_eq  K1 R to_0a to_0l to_0c turned_5 x8a x8l x8c x9 x10 ρ m) hh
theorem e0_eq (to_0a : Option Addr) (to_0l : Nat) (to_0c : Nat) (l_1a : Option Addr) (l_1l : Nat) (l_1c : Nat) (R : Ending → Mem → Prop) (m : Mem) : e0 to_0a to_0l to_0c l_1a l_1l l_1c R m = acpt P od (panicR R) (e0A R) (bodyQ P fn R) (argE (#[.slice to_0a to_0l to_0c, .slice l_1a l_1l l_1c] : Array Value).toList) m := by kernel_rfl
theorem ok (to_0a : Option Addr) (to_0l : Nat) (to_0c : Nat) (l_1a : Option Addr) (l_1l : Nat) (l_1c : Nat) (R : Ending → Mem → Prop) (m : Mem) (h : e0 to_0a to_0l to_0c l_1a l_1l l_1c R m) : HC P id #[.slice to_0a to_0l to_0c, .slice l_1a l_1l l_1c] m R := by
  refine HC_of (fn := fn) (c := body) (od := od) (tb := tb) Go.Proofs.Tryd.func65 (by kernel_rfl) (by kernel_rfl) follows (by kernel_rfl) (of_decide_eq_true (by kernel_rfl)) ?_
  have he : (e0A R).erase = body := by kernel_rfl
  rw [← he]
  refine acpt_sound (P := P) (e0A R) _ _ _ ⟨⟨⟨True.intro, ⟨(fun ρ m h => l1_ok  R ρ m h), True.intro⟩⟩, True.intro⟩, True.intro⟩ ?_
  exact Eq.mp (e0_eq to_0a to_0l to_0c l_1a l_1l l_1c R m) h
end regex_join
/-! ### eyot/eyotref8.table -/
namespace eyotref8_table
noncomputable def fn : Func := Go.Proofs.Tryd.f66
noncomputable def body : Code := fn.body.getD .skip
def od : Nat → Ord := fun _ => .done
def tb : Nat → Tab := fun _ => (0, [], [])
def l1E (K : Int → Option Addr → Nat → Nat → Int → Mem → Prop) : Env → Mem → Prop := fun ρ m => UnI (ρ 0) .i64 fun n_0 => UnS (ρ 3) fun t_3a t_3l t_3c => UnI (ρ 4) .i64 fun i_4 => K n_0 t_3a t_3l t_3c i_4 m
def l1B  (K1 : Int → Option Addr → Nat → Nat → Int → Mem → Prop) (n_0 : Int) (t_3a : Option Addr) (t_3l : Nat) (t_3c : Nat) (i_4 : Int) (R : Ending → Mem → Prop) (m : Mem) : Prop :=
 Br (decide (i_4 < n_0)) (
  MkS P m T_sl_bool (.int .i64 n_0) (.int .i64 n_0) (fun w m1 =>
   UnS w fun x15a x15l x15c =>
   IxS t_3a t_3l i_4 1 fun x16b x16o =>
   St1 m1 x16b x16o (.slice x15a x15l x15c) fun m2 =>
   K1 n_0 t_3a t_3l t_3c (IntKind.i64.wrap (i_4 + 1)) m2) (panicR R)) (
  R (.returned (.slice t_3a t_3l t_3c)) m)
def l1  (n_0 : Int) (t_3a : Option Addr) (t_3l : Nat) (t_3c : Nat) (i_4 : Int) (R : Ending → Mem → Prop) (m : Mem) : Prop :=
  ∃ (I : Nat → Int → Option Addr → Nat → Nat → Int → Mem → Prop) (N : Nat), I N n_0 t_3a t_3l t_3c i_4 m ∧ ∀ N n_0 t_3a t_3l t_3c i_4 m, I N n_0 t_3a t_3l t_3c i_4 m → l1B  (fun n_0 t_3a t_3l t_3c i_4 m => ∃ N1, N1 < N ∧ I N1 n_0 t_3a t_3l t_3c i_4 m) n_0 t_3a t_3l t_3c i_4 R m
noncomputable def l1A  (K1 : Int → Option Addr → Nat → Nat → Int → Mem → Prop) (R : Ending → Mem → Prop) : ACode := (.code (lP (bB (sR (sL (sR (sR (body))))))))
def e0 (n_0 : Int) (R : Ending → Mem → Prop) (m : Mem) : Prop :=
 MkS P m T_sl_sl_bool (.int .i64 n_0) (.int .i64 n_0) (fun w m1 =>
  UnS w fun x6a x6l x6c =>
  l1  n_0 x6a x6l x6c 0 R m1) (panicR R)
noncomputable def e0A (R : Ending → Mem → Prop) : ACode := (.seq (.code (sL (body))) (.seq (.code (sL (sR (body)))) (.seq (.seq (.code (sL (sL (sR (sR (body)))))) (.block 0 (.cut (l1E fun n_0 t_3a t_3l t_3c i_4 m => l1  n_0 t_3a t_3l t_3c i_4 R m) (.loop (lP (bB (sR (sL (sR (sR (body))))))))))) (.code (sR (sR (sR (body))))))))
abbrev l1Q  (R : Ending → Mem → Prop) : Exit → Env → Mem → Prop := (blockQ 0 (thenQ (acpt P od (panicR R) (.code (sR (sR (sR (body))))) (bodyQ P fn R)) (bodyQ P fn R)))
theorem l1_eq  (K1 : Int → Option Addr → Nat → Nat → Int → Mem → Prop) (R : Ending → Mem → Prop) (n_0 : Int) (t_3a : Option Addr) (t_3l : Nat) (t_3c : Nat) (i_4 : Int) (ρ : Env) (m : Mem) : l1B  K1 n_0 t_3a t_3l t_3c i_4 R m = acpt P od (panicR R) (l1A  K1 R) (thenQ (l1E K1) (l1Q  R)) (upd (upd (upd ρ 4 (.int .i64 i_4)) 3 (.slice t_3a t_3l t_3c)) 0 (.int .i64 n_0)) m := by kernel_rfl
theorem l1_er  (K1 : Int → Option Addr → Nat → Nat → Int → Mem → Prop) (R : Ending → Mem → Prop) : (l1A  K1 R).erase = lP (bB (sR (sL (sR (sR (body)))))) := by kernel_rfl
theorem l1_ok  (R : Ending → Mem → Prop) (ρ : Env) (m : Mem) (h : (l1E fun n_0 t_3a t_3l t_3c i_4 m => l1  n_0 t_3a t_3l t_3c i_4 R m) ρ m) : cpt P od (panicR R) (.loop (lP (bB (sR (sL (sR (sR (body)))))))) (l1Q  R) ρ m := by
  unfold l1E at h
  obtain ⟨n_0, e0, h⟩ := h.ex
  obtain ⟨t_3a, t_3l, t_3c, e3, h⟩ := h.ex
  obtain ⟨i_4, e4, h⟩ := h.ex
  obtain ⟨I, N, h0, hs⟩ := h
  refine ⟨fun N => l1E (I N), N, (by show l1E (I N) ρ m; unfold l1E; rw [e0, e3, e4]; exact h0), ?_⟩
  clear h0 e0 e3 e4
  intro N ρ m h
  unfold l1E at h
  obtain ⟨n_0, e0, h⟩ := h.ex
  obtain ⟨t_3a, t_3l, t_3c, e3, h⟩ := h.ex
  obtain ⟨i_4, e4, h⟩ := h.ex
  refine cpt_mono (P := P) (lP (bB (sR (sL (sR (sR (body))))))) (Q := thenQ (l1E fun n_0 t_3a t_3l t_3c i_4 m => ∃ N1, N1 < N ∧ I N1 n_0 t_3a t_3l t_3c i_4 m) (l1Q  R)) (fun e ρ m h => ?_) ρ m ?_
  · cases e with
    | normal =>
      have h : l1E (fun n_0 t_3a t_3l t_3c i_4 m => ∃ N1, N1 < N ∧ I N1 n_0 t_3a t_3l t_3c i_4 m) ρ m := h
      unfold l1E at h
      obtain ⟨n_0, e0, h⟩ := h.ex
      obtain ⟨t_3a, t_3l, t_3c, e3, h⟩ := h.ex
      obtain ⟨i_4, e4, h⟩ := h.ex
      obtain ⟨N1, hlt, h⟩ := h
      exact ⟨N1, hlt, (by show l1E (I N1) ρ m; unfold l1E; rw [e0, e3, e4]; exact h)⟩
    | _ => exact h
  have hh := hs N n_0 t_3a t_3l t_3c i_4 m h
  generalize (fun n_0 t_3a t_3l t_3c i_4 m => ∃ N1, N1 < N ∧ I N1 n_0 t_3a t_3l t_3c i_4 m : Int → Option Addr → Nat → Nat → Int → Mem → Prop) = K1 at hh ⊢
  rw [← upd_self e0, ← upd_self e3, ← upd_self e4]
  rw [← l1_er  K1 R]
  refine acpt_sound (P := P) (l1A  K1 R) _ _ _ True.intro ?_
  exact Eq.mp (l1_eq  K1 R n_0 t_3a t_3l t_3c i_4 ρ m) hh
theorem e0_eq (n_0 : Int) (R : Ending → Mem → Prop) (m : Mem) : e0 n_0 R m = acpt P od (panicR R) (e0A R) (bodyQ P fn R) (argE (#[.int .i64 n_0] : Array Value).toList) m := by kernel_rfl
theorem ok (n_0 : Int) (R : Ending → Mem → Prop) (m : Mem) (h : e0 n_0 R m) : HC P id #[.int .i64 n_0] m R := by
  refine HC_of (fn := fn) (c := body) (od := od) (tb := tb) Go.Proofs.Tryd.func66 (by kernel_rfl) (by kernel_rfl) follows (by kernel_rfl) (of_decide_eq_true (by kernel_rfl)) ?_
  have he : (e0A R).erase = body := by kernel_rfl
  rw [← he]
  refine acpt_sound (P := P) (e0A R) _ _ _ ⟨⟨⟨True.intro, ⟨(fun ρ m h => l1_ok  R ρ m h), True.intro⟩⟩, True.intro⟩, True.intro⟩ ?_
  exact Eq.mp (e0_eq n_0 R m) h
end eyotref8_table
/-! ### eyot/eyotref8.Has -/
namespace eyotref8_Has
noncomputable def fn : Func := Go.Proofs.Tryd.f67
noncomputable def body : Code := fn.body.getD .skip
def od : Nat → Ord := fun _ => .done
def tb : Nat → Tab := fun _ => (0, [], [])
def e0 (s_0_0 : Int) (s_0_1 : Int) (s_0_2 : Int) (s_0_3 : Int) (b_1 : Int) (R : Ending → Mem → Prop) (m : Mem) : Prop :=
 NewC m #[.int .u64 s_0_0, .int .u64 s_0_1, .int .u64 s_0_2, .int .u64 s_0_3] T_api_Set fun b_s_2 m1 =>
 0 ≤ (IntKind.u8.wrap (Int.tdiv b_1 64) : Int) ∧ (IntKind.u8.wrap (Int.tdiv b_1 64) : Int) < (4 : Nat) ∧ (
  LdV m1 b_s_2 (0 + (IntKind.u8.wrap (Int.tdiv b_1 64) : Int).toNat * 1) fun v =>
  UnI v .u64 fun x8 =>
  NnI (Int.tmod b_1 64) (
   R (.returned (.bool ((bitsV .and .u64 (shrV .u64 x8 (Int.tmod b_1 64)) 1) == 1))) m1))
noncomputable def e0A (R : Ending → Mem → Prop) : ACode := (.code (body))
theorem e0_eq (s_0_0 : Int) (s_0_1 : Int) (s_0_2 : Int) (s_0_3 : Int) (b_1 : Int) (R : Ending → Mem → Prop) (m : Mem) : e0 s_0_0 s_0_1 s_0_2 s_0_3 b_1 R m = acpt P od (panicR R) (e0A R) (bodyQ P fn R) (argE (#[.agg #[.int .u64 s_0_0, .int .u64 s_0_1, .int .u64 s_0_2, .int .u64 s_0_3], .int .u8 b_1] : Array Value).toList) m := by kernel_rfl
theorem ok (s_0_0 : Int) (s_0_1 : Int) (s_0_2 : Int) (s_0_3 : Int) (b_1 : Int) (R : Ending → Mem → Prop) (m : Mem) (h : e0 s_0_0 s_0_1 s_0_2 s_0_3 b_1 R m) : HC P id #[.agg #[.int .u64 s_0_0, .int .u64 s_0_1, .int .u64 s_0_2, .int .u64 s_0_3], .int .u8 b_1] m R := by
  refine HC_of (fn := fn) (c := body) (od := od) (tb := tb) Go.Proofs.Tryd.func67 (by kernel_rfl) (by kernel_rfl) follows (by kernel_rfl) (of_decide_eq_true (by kernel_rfl)) ?_
  have he : (e0A R).erase = body := by kernel_rfl
  rw [← he]
  refine acpt_sound (P := P) (e0A R) _ _ _ True.intro ?_
  exact Eq.mp (e0_eq s_0_0 s_0_1 s_0_2 s_0_3 b_1 R m) h
end eyotref8_Has
/-! ### eyot/eyotref8.same -/
namespace eyotref8_same
noncomputable def fn : Func := Go.Proofs.Tryd.f68
noncomputable def body : Code := fn.body.getD .skip
def od : Nat → Ord := fun _ => .done
def tb : Nat → Tab := fun _ => (0, [], [])
def l1E (K : Int → Option Addr → Nat → Nat → Int → Mem → Prop) : Env → Mem → Prop := fun ρ m => UnI (ρ 0) .i64 fun n_0 => UnS (ρ 3) fun t_3a t_3l t_3c => UnI (ρ 4) .i64 fun i_4 => K n_0 t_3a t_3l t_3c i_4 m
def l1B  (K1 : Int → Option Addr → Nat → Nat → Int → Mem → Prop) (n_0 : Int) (t_3a : Option Addr) (t_3l : Nat) (t_3c : Nat) (i_4 : Int) (R : Ending → Mem → Prop) (m : Mem) : Prop :=
 Br (decide (i_4 < n_0)) (
  IxS t_3a t_3l i_4 1 fun x14b x14o =>
  LdV m x14b x14o fun v =>
  UnS v fun x15a x15l x15c =>
  IxS x15a x15l i_4 1 fun x17b x17o =>
  St1 m x17b x17o (.bool true) fun m1 =>
  K1 n_0 t_3a t_3l t_3c (IntKind.i64.wrap (i_4 + 1)) m1) (
  R (.returned (.slice t_3a t_3l t_3c)) m)
def l1  (n_0 : Int) (t_3a : Option Addr) (t_3l : Nat) (t_3c : Nat) (i_4 : Int) (R : Ending → Mem → Prop) (m : Mem) : Prop :=
  ∃ (I : Nat → Int → Option Addr → Nat → Nat → Int → Mem → Prop) (N : Nat), I N n_0 t_3a t_3l t_3c i_4 m ∧ ∀ N n_0 t_3a t_3l t_3c i_4 m, I N n_0 t_3a t_3l t_3c i_4 m → l1B  (fun n_0 t_3a t_3l t_3c i_4 m => ∃ N1, N1 < N ∧ I N1 n_0 t_3a t_3l t_3c i_4 m) n_0 t_3a t_3l t_3c i_4 R m
noncomputable def l1A  (K1 : Int → Option Addr → Nat → Nat → Int → Mem → Prop) (R : Ending → Mem → Prop) : ACode := (.code (lP (bB (sR (sL (sR (sR (body))))))))
def e0 (n_0 : Int) (R : Ending → Mem → Prop) (m : Mem) : Prop :=
 HC P eyotref8_table.id #[.int .i64 n_0] m (Cont (fun v m1 =>
   UnS v fun x6a x6l x6c =>
   l1  n_0 x6a x6l x6c 0 R m1) (panicR R))
noncomputable def e0A (R : Ending → Mem → Prop) : ACode := (.seq (.code (sL (body))) (.seq (.code (sL (sR (body)))) (.seq (.seq (.code (sL (sL (sR (sR (body)))))) (.block 0 (.cut (l1E fun n_0 t_3a t_3l t_3c i_4 m => l1  n_0 t_3a t_3l t_3c i_4 R m) (.loop (lP (bB (sR (sL (sR (sR (body))))))))))) (.code (sR (sR (sR (body))))))))
abbrev l1Q  (R : Ending → Mem → Prop) : Exit → Env → Mem → Prop := (blockQ 0 (thenQ (acpt P od (panicR R) (.code (sR (sR (sR (body))))) (bodyQ P fn R)) (bodyQ P fn R)))
theorem l1_eq  (K1 : Int → Option Addr → Nat → Nat → Int → Mem → Prop) (R : Ending → Mem → Prop) (n_0 : Int) (t_3a : Option Addr) (t_3l : Nat) (t_3c : Nat) (i_4 : Int) (ρ : Env) (m : Mem) : l1B  K1 n_0 t_3a t_3l t_3c i_4 R m = acpt P od (panicR R) (l1A  K1 R) (thenQ (l1E K1) (l1Q  R)) (upd (upd (upd ρ 4 (.int .i64 i_4)) 3 (.slice t_3a t_3l t_3c)) 0 (.int .i64 n_0)) m := by kernel_rfl
theorem l1_er  (K1 : Int → Option Addr → Nat → Nat → Int → Mem → Prop) (R : Ending → Mem → Prop) : (l1A  K1 R).erase = lP (bB (sR (sL (sR (sR (body)))))) := by kernel_rfl
theorem l1_ok  (R : Ending → Mem → Prop) (ρ : Env) (m : Mem) (h : (l1E fun n_0 t_3a t_3l t_3c i_4 m => l1  n_0 t_3a t_3l t_3c i_4 R m) ρ m) : cpt P od (panicR R) (.loop (lP (bB (sR (sL (sR (sR (body)))))))) (l1Q  R) ρ m := by
  unfold l1E at h
  obtain ⟨n_0, e0, h⟩ := h.ex
  obtain ⟨t_3a, t_3l, t_3c, e3, h⟩ := h.ex
  obtain ⟨i_4, e4, h⟩ := h.ex
  obtain ⟨I, N, h0, hs⟩ := h
  refine ⟨fun N => l1E (I N), N, (by show l1E (I N) ρ m; unfold l1E; rw [e0, e3, e4]; exact h0), ?_⟩
  clear h0 e0 e3 e4
  intro N ρ m h
  unfold l1E at h
  obtain ⟨n_0, e0, h⟩ := h.ex
  obtain ⟨t_3a, t_3l, t_3c, e3, h⟩ := h.ex
  obtain ⟨i_4, e4, h⟩ := h.ex
  refine cpt_mono (P := P) (lP (bB (sR (sL (sR (sR (body))))))) (Q := thenQ (l1E fun n_0 t_3a t_3l t_3c i_4 m => ∃ N1, N1 < N ∧ I N1 n_0 t_3a t_3l t_3c i_4 m) (l1Q  R)) (fun e ρ m h => ?_) ρ m ?_
  · cases e with
    | normal =>
      have h : l1E (fun n_0 t_3a t_3l t_3c i_4 m => ∃ N1, N1 < N ∧ I N1 n_0 t_3a t_3l t_3c i_4 m) ρ m := h
      unfold l1E at h
      obtain ⟨n_0, e0, h⟩ := h.ex
      obtain ⟨t_3a, t_3l, t_3c, e3, h⟩ := h.ex
      obtain ⟨i_4, e4, h⟩ := h.ex
      obtain ⟨N1, hlt, h⟩ := h
      exact ⟨N1, hlt, (by show l1E (I N1) ρ m; unfold l1E; rw [e0, e3, e4]; exact h)⟩
    | _ => exact h
  have hh := hs N n_0 t_3a t_3l t_3c i_4 m h
  generalize (fun n_0 t_3a t_3l t_3c i_4 m => ∃ N1, N1 < N ∧ I N1 n_0 t_3a t_3l t_3c i_4 m : Int → Option Addr → Nat → Nat → Int → Mem → Prop) = K1 at hh ⊢
  rw [← upd_self e0, ← upd_self e3, ← upd_self e4]
  rw [← l1_er  K1 R]
  refine acpt_sound (P := P) (l1A  K1 R) _ _ _ True.intro ?_
  exact Eq.mp (l1_eq  K1 R n_0 t_3a t_3l t_3c i_4 ρ m) hh
theorem e0_eq (n_0 : Int) (R : Ending → Mem → Prop) (m : Mem) : e0 n_0 R m = acpt P od (panicR R) (e0A R) (bodyQ P fn R) (argE (#[.int .i64 n_0] : Array Value).toList) m := by kernel_rfl
theorem ok (n_0 : Int) (R : Ending → Mem → Prop) (m : Mem) (h : e0 n_0 R m) : HC P id #[.int .i64 n_0] m R := by
  refine HC_of (fn := fn) (c := body) (od := od) (tb := tb) Go.Proofs.Tryd.func68 (by kernel_rfl) (by kernel_rfl) follows (by kernel_rfl) (of_decide_eq_true (by kernel_rfl)) ?_
  have he : (e0A R).erase = body := by kernel_rfl
  rw [← he]
  refine acpt_sound (P := P) (e0A R) _ _ _ ⟨⟨⟨True.intro, ⟨(fun ρ m h => l1_ok  R ρ m h), True.intro⟩⟩, True.intro⟩, True.intro⟩ ?_
  exact Eq.mp (e0_eq n_0 R m) h
end eyotref8_same
end
end Go.E
set_option linter.unusedVariables false
set_option maxRecDepth 100000
namespace Go.E
open Go.H
noncomputable section
/-! ### eyot/eyotref8.behind -/
namespace eyotref8_behind
noncomputable def fn : Func := Go.Proofs.Tryd.f69
noncomputable def body : Code := fn.body.getD .skip
def od : Nat → Ord := fun | 11 => ordL [(0, 3), (1, 3), (2, 3), (3, 1), (4, 3), (5, 3), (6, 3), (7, 3), (8, 1), (9, 3), (10, 3), (11, 0), (12, 3), (13, 3), (14, 3), (15, 3), (16, 1), (17, 3), (18, 3), (19, 0), (20, 3), (21, 3), (22, 2)] .done | _ => .done
def tb : Nat → Tab := fun | 11 => (4194304, [0, 0, 3, 7, 0, 0, 0, 96, 224, 0, 992, 2016, 4064, 8160, 8160, 32736, 65504, 8160, 262112, 524256, 1048544, 2097151, 4194303], [(0, 32, 42), (0, 64, 43), (3, 6597069766656, 44), (4, 8796093022208, 45), (0, 256, 46), (0, 32, 47), (0, 64, 48), (96, 211106232532992, 49), (128, 281474976710656, 50), (0, 256, 51), (768, 1688849860263936, 52), (1024, 2251799813685248, 53), (2048, 4503599627370496, 54), (4096, 9007199254740994, 55), (4096, 9007199254741120, 56), (28672, 63050394783186944, 57), (36864, 81064793292668928, 58), (4096, 9007199254741248, 59), (200704, 441352763482308608, 60), (266240, 585467951558164480, 61), (528384, 1161928703861587968, 62), (2097151, 52776558133248, 63), (4194303, 6917529027641081856, 0)]) | _ => (0, [], [])
def l3E (K : Option Addr → Nat → Nat → Option Addr → Nat → Nat → Option Addr → Nat → Nat → Int → Int → Int → Mem → Prop) : Env → Mem → Prop := fun ρ m => UnS (ρ 0) fun a_0a a_0l a_0c => UnS (ρ 1) fun b_1a b_1l b_1c => UnS (ρ 5) fun t_5a t_5l t_5c => UnI (ρ 6) .i64 fun i_6 => UnI (ρ 7) .i64 fun j_7 => UnI (ρ 8) .i64 fun k_8 => K a_0a a_0l a_0c b_1a b_1l b_1c t_5a t_5l t_5c i_6 j_7 k_8 m
def l3B (K1 : Option Addr → Nat → Nat → Option Addr → Nat → Nat → Option Addr → Nat → Nat → Int → Mem → Prop) (K2 : Option Addr → Nat → Nat → Option Addr → Nat → Nat → Option Addr → Nat → Nat → Int → Int → Mem → Prop) (K3 : Option Addr → Nat → Nat → Option Addr → Nat → Nat → Option Addr → Nat → Nat → Int → Int → Int → Mem → Prop) (a_0a : Option Addr) (a_0l : Nat) (a_0c : Nat) (b_1a : Option Addr) (b_1l : Nat) (b_1c : Nat) (t_5a : Option Addr) (t_5l : Nat) (t_5c : Nat) (i_6 : Int) (j_7 : Int) (k_8 : Int) (R : Ending → Mem → Prop) (m : Mem) : Prop :=
 Br (decide (k_8 < ((a_0l : Nat) : Int))) (
  IxS a_0a a_0l i_6 1 fun x33b x33o =>
  LdV m x33b x33o fun v =>
  UnS v fun x34a x34l x34c =>
  IxS x34a x34l j_7 1 fun x36b x36o =>
  LdV m x36b x36o fun v =>
  UnB v fun x37 =>
  Br x37 (
   Sub m fun r1 =>
   IxS t_5a t_5l i_6 1 fun x43b x43o =>
   LdV r1 x43b x43o fun v =>
   UnS v fun x44a x44l x44c =>
   IxS t_5a t_5l i_6 1 fun x48b x48o =>
   LdV r1 x48b x48o fun v =>
   UnS v fun x49a x49l x49c =>
   IxS x49a x49l k_8 1 fun x51b x51o =>
   LdV m x51b x51o fun v =>
   UnB v fun x52 =>
   Br x52 (
    IxS x44a x44l k_8 1 fun x62b x62o =>
    St1 m x62b x62o (.bool true) fun m2 =>
    K3 a_0a a_0l a_0c b_1a b_1l b_1c t_5a t_5l t_5c i_6 j_7 (IntKind.i64.wrap (k_8 + 1)) m2) (
    IxS b_1a b_1l j_7 1 fun x56b x56o =>
    LdV r1 x56b x56o fun v =>
    UnS v fun x57a x57l x57c =>
    IxS x57a x57l k_8 1 fun x59b x59o =>
    LdV m x59b x59o fun v =>
    UnB v fun x60 =>
    IxS x44a x44l k_8 1 fun x62b x62o =>
    St1 m x62b x62o (.bool x60) fun m2 =>
    K3 a_0a a_0l a_0c b_1a b_1l b_1c t_5a t_5l t_5c i_6 j_7 (IntKind.i64.wrap (k_8 + 1)) m2)) (
   K2 a_0a a_0l a_0c b_1a b_1l b_1c t_5a t_5l t_5c i_6 (IntKind.i64.wrap (j_7 + 1)) m)) (
  K2 a_0a a_0l a_0c b_1a b_1l b_1c t_5a t_5l t_5c i_6 (IntKind.i64.wrap (j_7 + 1)) m)
def l3 (K1 : Option Addr → Nat → Nat → Option Addr → Nat → Nat → Option Addr → Nat → Nat → Int → Mem → Prop) (K2 : Option Addr → Nat → Nat → Option Addr → Nat → Nat → Option Addr → Nat → Nat → Int → Int → Mem → Prop) (a_0a : Option Addr) (a_0l : Nat) (a_0c : Nat) (b_1a : Option Addr) (b_1l : Nat) (b_1c : Nat) (t_5a : Option Addr) (t_5l : Nat) (t_5c : Nat) (i_6 : Int) (j_7 : Int) (k_8 : Int) (R : Ending → Mem → Prop) (m : Mem) : Prop :=
  ∃ (I : Nat → Option Addr → Nat → Nat → Option Addr → Nat → Nat → Option Addr → Nat → Nat → Int → Int → Int → Mem → Prop) (N : Nat), I N a_0a a_0l a_0c b_1a b_1l b_1c t_5a t_5l t_5c i_6 j_7 k_8 m ∧ ∀ N a_0a a_0l a_0c b_1a b_1l b_1c t_5a t_5l t_5c i_6 j_7 k_8 m, I N a_0a a_0l a_0c b_1a b_1l b_1c t_5a t_5l t_5c i_6 j_7 k_8 m → l3B K1 K2 (fun a_0a a_0l a_0c b_1a b_1l b_1c t_5a t_5l t_5c i_6 j_7 k_8 m => ∃ N1, N1 < N ∧ I N1 a_0a a_0l a_0c b_1a b_1l b_1c t_5a t_5l t_5c i_6 j_7 k_8 m) a_0a a_0l a_0c b_1a b_1l b_1c t_5a t_5l t_5c i_6 j_7 k_8 R m
noncomputable def l3A (K1 : Option Addr → Nat → Nat → Option Addr → Nat → Nat → Option Addr → Nat → Nat → Int → Mem → Prop) (K2 : Option Addr → Nat → Nat → Option Addr → Nat → Nat → Option Addr → Nat → Nat → Int → Int → Mem → Prop) (K3 : Option Addr → Nat → Nat → Option Addr → Nat → Nat → Option Addr → Nat → Nat → Int → Int → Int → Mem → Prop) (R : Ending → Mem → Prop) : ACode := (.code (lP (bB (sR (bB (sL (sR (lP (bB (sR (bB (sL (sR (lP (bB (sR (sL (sR (sR (body))))))))))))))))))))
def l2E (K : Option Addr → Nat → Nat → Option Addr → Nat → Nat → Option Addr → Nat → Nat → Int → Int → Mem → Prop) : Env → Mem → Prop := fun ρ m => UnS (ρ 0) fun a_0a a_0l a_0c => UnS (ρ 1) fun b_1a b_1l b_1c => UnS (ρ 5) fun t_5a t_5l t_5c => UnI (ρ 6) .i64 fun i_6 => UnI (ρ 7) .i64 fun j_7 => K a_0a a_0l a_0c b_1a b_1l b_1c t_5a t_5l t_5c i_6 j_7 m
def l2B (K1 : Option Addr → Nat → Nat → Option Addr → Nat → Nat → Option Addr → Nat → Nat → Int → Mem → Prop) (K2 : Option Addr → Nat → Nat → Option Addr → Nat → Nat → Option Addr → Nat → Nat → Int → Int → Mem → Prop) (a_0a : Option Addr) (a_0l : Nat) (a_0c : Nat) (b_1a : Option Addr) (b_1l : Nat) (b_1c : Nat) (t_5a : Option Addr) (t_5l : Nat) (t_5c : Nat) (i_6 : Int) (j_7 : Int) (R : Ending → Mem → Prop) (m : Mem) : Prop :=
 Br (decide (j_7 < ((a_0l : Nat) : Int))) (
  l3 K1 K2 a_0a a_0l a_0c b_1a b_1l b_1c t_5a t_5l t_5c i_6 j_7 j_7 R m) (
  K1 a_0a a_0l a_0c b_1a b_1l b_1c t_5a t_5l t_5c (IntKind.i64.wrap (i_6 + 1)) m)
def l2 (K1 : Option Addr → Nat → Nat → Option Addr → Nat → Nat → Option Addr → Nat → Nat → Int → Mem → Prop) (a_0a : Option Addr) (a_0l : Nat) (a_0c : Nat) (b_1a : Option Addr) (b_1l : Nat) (b_1c : Nat) (t_5a : Option Addr) (t_5l : Nat) (t_5c : Nat) (i_6 : Int) (j_7 : Int) (R : Ending → Mem → Prop) (m : Mem) : Prop :=
  ∃ (I : Nat → Option Addr → Nat → Nat → Option Addr → Nat → Nat → Option Addr → Nat → Nat → Int → Int → Mem → Prop) (N : Nat), I N a_0a a_0l a_0c b_1a b_1l b_1c t_5a t_5l t_5c i_6 j_7 m ∧ ∀ N a_0a a_0l a_0c b_1a b_1l b_1c t_5a t_5l t_5c i_6 j_7 m, I N a_0a a_0l a_0c b_1a b_1l b_1c t_5a t_5l t_5c i_6 j_7 m → l2B K1 (fun a_0a a_0l a_0c b_1a b_1l b_1c t_5a t_5l t_5c i_6 j_7 m => ∃ N1, N1 < N ∧ I N1 a_0a a_0l a_0c b_1a b_1l b_1c t_5a t_5l t_5c i_6 j_7 m) a_0a a_0l a_0c b_1a b_1l b_1c t_5a t_5l t_5c i_6 j_7 R m
noncomputable def l2A (K1 : Option Addr → Nat → Nat → Option Addr → Nat → Nat → Option Addr → Nat → Nat → Int → Mem → Prop) (K2 : Option Addr → Nat → Nat → Option Addr → Nat → Nat → Option Addr → Nat → Nat → Int → Int → Mem → Prop) (R : Ending → Mem → Prop) : ACode := (.seq (.code (sL (lP (bB (sR (bB (sL (sR (lP (bB (sR (sL (sR (sR (body))))))))))))))) (.seq (.block 3 (.seq (.code (sL (bB (sL (sR (lP (bB (sR (bB (sL (sR (lP (bB (sR (sL (sR (sR (body)))))))))))))))))) (.block 4 (.cut (l3E fun a_0a a_0l a_0c b_1a b_1l b_1c t_5a t_5l t_5c i_6 j_7 k_8 m => l3 K1 K2 a_0a a_0l a_0c b_1a b_1l b_1c t_5a t_5l t_5c i_6 j_7 k_8 R m) (.loop (lP (bB (sR (bB (sL (sR (lP (bB (sR (bB (sL (sR (lP (bB (sR (sL (sR (sR (body)))))))))))))))))))))))) (.code (sR (sR (lP (bB (sR (bB (sL (sR (lP (bB (sR (sL (sR (sR (body))))))))))))))))))
def l1E (K : Option Addr → Nat → Nat → Option Addr → Nat → Nat → Option Addr → Nat → Nat → Int → Mem → Prop) : Env → Mem → Prop := fun ρ m => UnS (ρ 0) fun a_0a a_0l a_0c => UnS (ρ 1) fun b_1a b_1l b_1c => UnS (ρ 5) fun t_5a t_5l t_5c => UnI (ρ 6) .i64 fun i_6 => K a_0a a_0l a_0c b_1a b_1l b_1c t_5a t_5l t_5c i_6 m
def l1B  (K1 : Option Addr → Nat → Nat → Option Addr → Nat → Nat → Option Addr → Nat → Nat → Int → Mem → Prop) (a_0a : Option Addr) (a_0l : Nat) (a_0c : Nat) (b_1a : Option Addr) (b_1l : Nat) (b_1c : Nat) (t_5a : Option Addr) (t_5l : Nat) (t_5c : Nat) (i_6 : Int) (R : Ending → Mem → Prop) (m : Mem) : Prop :=
 Br (decide (i_6 < ((a_0l : Nat) : Int))) (
  l2 K1 a_0a a_0l a_0c b_1a b_1l b_1c t_5a t_5l t_5c i_6 i_6 R m) (
  R (.returned (.slice t_5a t_5l t_5c)) m)
def l1  (a_0a : Option Addr) (a_0l : Nat) (a_0c : Nat) (b_1a : Option Addr) (b_1l : Nat) (b_1c : Nat) (t_5a : Option Addr) (t_5l : Nat) (t_5c : Nat) (i_6 : Int) (R : Ending → Mem → Prop) (m : Mem) : Prop :=
  ∃ (I : Nat → Option Addr → Nat → Nat → Option Addr → Nat → Nat → Option Addr → Nat → Nat → Int → Mem → Prop) (N : Nat), I N a_0a a_0l a_0c b_1a b_1l b_1c t_5a t_5l t_5c i_6 m ∧ ∀ N a_0a a_0l a_0c b_1a b_1l b_1c t_5a t_5l t_5c i_6 m, I N a_0a a_0l a_0c b_1a b_1l b_1c t_5a t_5l t_5c i_6 m → l1B  (fun a_0a a_0l a_0c b_1a b_1l b_1c t_5a t_5l t_5c i_6 m => ∃ N1, N1 < N ∧ I N1 a_0a a_0l a_0c b_1a b_1l b_1c t_5a t_5l t_5c i_6 m) a_0a a_0l a_0c b_1a b_1l b_1c t_5a t_5l t_5c i_6 R m
noncomputable def l1A  (K1 : Option Addr → Nat → Nat → Option Addr → Nat → Nat → Option Addr → Nat → Nat → Int → Mem → Prop) (R : Ending → Mem → Prop) : ACode := (.seq (.code (sL (lP (bB (sR (sL (sR (sR (body))))))))) (.seq (.block 1 (.seq (.code (sL (bB (sL (sR (lP (bB (sR (sL (sR (sR (body)))))))))))) (.block 2 (.cut (l2E fun a_0a a_0l a_0c b_1a b_1l b_1c t_5a t_5l t_5c i_6 j_7 m => l2 K1 a_0a a_0l a_0c b_1a b_1l b_1c t_5a t_5l t_5c i_6 j_7 R m) (.loop (lP (bB (sR (bB (sL (sR (lP (bB (sR (sL (sR (sR (body)))))))))))))))))) (.code (sR (sR (lP (bB (sR (sL (sR (sR (body))))))))))))
def e0 (a_0a : Option Addr) (a_0l : Nat) (a_0c : Nat) (b_1a : Option Addr) (b_1l : Nat) (b_1c : Nat) (R : Ending → Mem → Prop) (m : Mem) : Prop :=
 HC P eyotref8_table.id #[.int .i64 ((a_0l : Nat) : Int)] m (Cont (fun v m1 =>
   UnS v fun x11a x11l x11c =>
   l1  a_0a a_0l a_0c b_1a b_1l b_1c x11a x11l x11c 0 R m1) (panicR R))
noncomputable def e0A (R : Ending → Mem → Prop) : ACode := (.seq (.code (sL (body))) (.seq (.code (sL (sR (body)))) (.seq (.seq (.code (sL (sL (sR (sR (body)))))) (.block 0 (.cut (l1E fun a_0a a_0l a_0c b_1a b_1l b_1c t_5a t_5l t_5c i_6 m => l1  a_0a a_0l a_0c b_1a b_1l b_1c t_5a t_5l t_5c i_6 R m) (.loop (lP (bB (sR (sL (sR (sR (body))))))))))) (.code (sR (sR (sR (body))))))))
abbrev l1Q  (R : Ending → Mem → Prop) : Exit → Env → Mem → Prop := (blockQ 0 (thenQ (acpt P od (panicR R) (.code (sR (sR (sR (body))))) (bodyQ P fn R)) (bodyQ P fn R)))
abbrev l2Q (K1 : Option Addr → Nat → Nat → Option Addr → Nat → Nat → Option Addr → Nat → Nat → Int → Mem → Prop) (R : Ending → Mem → Prop) : Exit → Env → Mem → Prop := (blockQ 2 (blockQ 1 (thenQ (acpt P od (panicR R) (.code (sR (sR (lP (bB (sR (sL (sR (sR (body)))))))))) (thenQ (l1E K1) (l1Q  R))) (thenQ (l1E K1) (l1Q  R)))))
abbrev l3Q (K1 : Option Addr → Nat → Nat → Option Addr → Nat → Nat → Option Addr → Nat → Nat → Int → Mem → Prop) (K2 : Option Addr → Nat → Nat → Option Addr → Nat → Nat → Option Addr → Nat → Nat → Int → Int → Mem → Prop) (R : Ending → Mem → Prop) : Exit → Env → Mem → Prop := (blockQ 4 (blockQ 3 (thenQ (acpt P od (panicR R) (.code (sR (sR (lP (bB (sR (bB (sL (sR (lP (bB (sR (sL (sR (sR (body)))))))))))))))) (thenQ (l2E K2) (l2Q K1 R))) (thenQ (l2E K2) (l2Q K1 R)))))
theorem l3_eq (K1 : Option Addr → Nat → Nat → Option Addr → Nat → Nat → Option Addr → Nat → Nat → Int → Mem → Prop) (K2 : Option Addr → Nat → Nat → Option Addr → Nat → Nat → Option Addr → Nat → Nat → Int → Int → Mem → Prop) (K3 : Option Addr → Nat → Nat → Option Addr → Nat → Nat → Option Addr → Nat → Nat → Int → Int → Int → Mem → Prop) (R : Ending → Mem → Prop) (a_0a : Option Addr) (a_0l : Nat) (a_0c : Nat) (b_1a : Option Addr) (b_1l : Nat) (b_1c : Nat) (t_5a : Option Addr) (t_5l : Nat) (t_5c : Nat) (i_6 : Int) (j_7 : Int) (k_8 : Int) (ρ : Env) (m : Mem) : l3B K1 K2 K3 a_0a a_0l a_0c b_1a b_1l b_1c t_5a t_5l t_5c i_6 j_7 k_8 R m = acpt P od (panicR R) (l3A K1 K2 K3 R) (thenQ (l3E K3) (l3Q K1 K2 R)) (upd (upd (upd (upd (upd (upd ρ 8 (.int .i64 k_8)) 7 (.int .i64 j_7)) 6 (.int .i64 i_6)) 5 (.slice t_5a t_5l t_5c)) 1 (.slice b_1a b_1l b_1c)) 0 (.slice a_0a a_0l a_0c)) m := by kernel_rfl
theorem l3_er (K1 : Option Addr → Nat → Nat → Option Addr → Nat → Nat → Option Addr → Nat → Nat → Int → Mem → Prop) (K2 : Option Addr → Nat → Nat → Option Addr → Nat → Nat → Option Addr → Nat → Nat → Int → Int → Mem → Prop) (K3 : Option Addr → Nat → Nat → Option Addr → Nat → Nat → Option Addr → Nat → Nat → Int → Int → Int → Mem → Prop) (R : Ending → Mem → Prop) : (l3A K1 K2 K3 R).erase = lP (bB (sR (bB (sL (sR (lP (bB (sR (bB (sL (sR (lP (bB (sR (sL (sR (sR (body)))))))))))))))))) := by kernel_rfl
theorem l3_ok (K1 : Option Addr → Nat → Nat → Option Addr → Nat → Nat → Option Addr → Nat → Nat → Int → Mem → Prop) (K2 : Option Addr → Nat → Nat → Option Addr → Nat → Nat → Option Addr → Nat → Nat → Int → Int → Mem → Prop) (R : Ending → Mem → Prop) (ρ : Env) (m : Mem) (h : (l3E fun a_0a a_0l a_0c b_1a b_1l b_1c t_5a t_5l t_5c i_6 j_7 k_8 m => l3 K1 K2 a_0a a_0l a_0c b_1a b_1l b_1c t_5a t_5l t_5c i_6 j_7 k_8 R m) ρ m) : cpt P od (panicR R) (.loop (lP (bB (sR (bB (sL (sR (lP (bB (sR (bB (sL (sR (lP (bB (sR (sL (sR (sR (body)))))))))))))))))))) (l3Q K1 K2 R) ρ m := by
  unfold l3E at h
  obtain ⟨a_0a, a_0l, a_0c, e0, h⟩ := h.ex
  obtain ⟨b_1a, b_1l, b_1c, e1, h⟩ := h.ex
  obtain ⟨t_5a, t_5l, t_5c, e5, h⟩ := h.ex
  obtain ⟨i_6, e6, h⟩ := h.ex
  obtain ⟨j_7, e7, h⟩ := h.ex
  obtain ⟨k_8, e8, h⟩ := h.ex
  obtain ⟨I, N, h0, hs⟩ := h
  refine ⟨fun N => l3E (I N), N, (by show l3E (I N) ρ m; unfold l3E; rw [e0, e1, e5, e6, e7, e8]; exact h0), ?_⟩
  clear h0 e0 e1 e5 e6 e7 e8
  intro N ρ m h
  unfold l3E at h
  obtain ⟨a_0a, a_0l, a_0c, e0, h⟩ := h.ex
  obtain ⟨b_1a, b_1l, b_1c, e1, h⟩ := h.ex
  obtain ⟨t_5a, t_5l, t_5c, e5, h⟩ := h.ex
  obtain ⟨i_6, e6, h⟩ := h.ex
  obtain ⟨j_7, e7, h⟩ := h.ex
  obtain ⟨k_8, e8, h⟩ := h.ex
  refine cpt_mono (P := P) (lP (bB (sR (bB (sL (sR (lP (bB (sR (bB (sL (sR (lP (bB (sR (sL (sR (sR (body))))))))))))))))))) (Q := thenQ (l3E fun a_0a a_0l a_0c b_1a b_1l b_1c t_5a t_5l t_5c i_6 j_7 k_8 m => ∃ N1, N1 < N ∧ I N1 a_0a a_0l a_0c b_1a b_1l b_1c t_5a t_5l t_5c i_6 j_7 k_8 m) (l3Q K1 K2 R)) (fun e ρ m h => ?_) ρ m ?_
  · cases e with
    | normal =>
      have h : l3E (fun a_0a a_0l a_0c b_1a b_1l b_1c t_5a t_5l t_5c i_6 j_7 k_8 m => ∃ N1, N1 < N ∧ I N1 a_0a a_0l a_0c b_1a b_1l b_1c t_5a t_5l t_5c i_6 j_7 k_8 m) ρ m := h
      unfold l3E at h
      obtain ⟨a_0a, a_0l, a_0c, e0, h⟩ := h.ex
      obtain ⟨b_1a, b_1l, b_1c, e1, h⟩ := h.ex
      obtain ⟨t_5a, t_5l, t_5c, e5, h⟩ := h.ex
      obtain ⟨i_6, e6, h⟩ := h.ex
      obtain ⟨j_7, e7, h⟩ := h.ex
      obtain ⟨k_8, e8, h⟩ := h.ex
      obtain ⟨N1, hlt, h⟩ := h
      exact ⟨N1, hlt, (by show l3E (I N1) ρ m; unfold l3E; rw [e0, e1, e5, e6, e7, e8]; exact h)⟩
    | _ => exact h
  have hh := hs N a_0a a_0l a_0c b_1a b_1l b_1c t_5a t_5l t_5c i_6 j_7 k_8 m h
  generalize (fun a_0a a_0l a_0c b_1a b_1l b_1c t_5a t_5l t_5c i_6 j_7 k_8 m => ∃ N1, N1 < N ∧ I N1 a_0a a_0l a_0c b_1a b_1l b_1c t_5a t_5l t_5c i_6 j_7 k_8 m : Option Addr → Nat → Nat → Option Addr → Nat → Nat → Option Addr → Nat → Nat → Int → Int → Int → Mem → Prop) = K3 at hh ⊢
  rw [← upd_self e0, ← upd_self e1, ← upd_self e5, ← upd_self e6, ← upd_self e7, ← upd_self e8]
  rw [← l3_er K1 K2 K3 R]
  refine acpt_sound (P := P) (l3A K1 K2 K3 R) _ _ _ True.intro ?_
  exact Eq.mp (l3_eq K1 K2 K3 R a_0a a_0l a_0c b_1a b_1l b_1c t_5a t_5l t_5c i_6 j_7 k_8 ρ m) hh
theorem l2_eq (K1 : Option Addr → Nat → Nat → Option Addr → Nat → Nat → Option Addr → Nat → Nat → Int → Mem → Prop) (K2 : Option Addr → Nat → Nat → Option Addr → Nat → Nat → Option Addr → Nat → Nat → Int → Int → Mem → Prop) (R : Ending → Mem → Prop) (a_0a : Option Addr) (a_0l : Nat) (a_0c : Nat) (b_1a : Option Addr) (b_1l : Nat) (b_1c : Nat) (t_5a : Option Addr) (t_5l : Nat) (t_5c : Nat) (i_6 : Int) (j_7 : Int) (ρ : Env) (m : Mem) : l2B K1 K2 a_0a a_0l a_0c b_1a b_1l b_1c t_5a t_5l t_5c i_6 j_7 R m = acpt P od (panicR R) (l2A K1 K2 R) (thenQ (l2E K2) (l2Q K1 R)) (upd (upd (upd (upd (upd ρ 7 (.int .i64 j_7)) 6 (.int .i64 i_6)) 5 (.slice t_5a t_5l t_5c)) 1 (.slice b_1a b_1l b_1c)) 0 (.slice a_0a a_0l a_0c)) m := by kernel_rfl
theorem l2_er (K1 : Option Addr → Nat → Nat → Option Addr → Nat → Nat → Option Addr → Nat → Nat → Int → Mem → Prop) (K2 : Option Addr → Nat → Nat → Option Addr → Nat → Nat → Option Addr → Nat → Nat → Int → Int → Mem → Prop) (R : Ending → Mem → Prop) : (l2A K1 K2 R).erase = lP (bB (sR (bB (sL (sR (lP (bB (sR (sL (sR (sR (body)))))))))))) := by kernel_rfl
theorem l2_ok (K1 : Option Addr → Nat → Nat → Option Addr → Nat → Nat → Option Addr → Nat → Nat → Int → Mem → Prop) (R : Ending → Mem → Prop) (ρ : Env) (m : Mem) (h : (l2E fun a_0a a_0l a_0c b_1a b_1l b_1c t_5a t_5l t_5c i_6 j_7 m => l2 K1 a_0a a_0l a_0c b_1a b_1l b_1c t_5a t_5l t_5c i_6 j_7 R m) ρ m) : cpt P od (panicR R) (.loop (lP (bB (sR (bB (sL (sR (lP (bB (sR (sL (sR (sR (body)))))))))))))) (l2Q K1 R) ρ m := by
  unfold l2E at h
  obtain ⟨a_0a, a_0l, a_0c, e0, h⟩ := h.ex
  obtain ⟨b_1a, b_1l, b_1c, e1, h⟩ := h.ex
  obtain ⟨t_5a, t_5l, t_5c, e5, h⟩ := h.ex
  obtain ⟨i_6, e6, h⟩ := h.ex
  obtain ⟨j_7, e7, h⟩ := h.ex
  obtain ⟨I, N, h0, hs⟩ := h
  refine ⟨fun N => l2E (I N), N, (by show l2E (I N) ρ m; unfold l2E; rw [e0, e1, e5, e6, e7]; exact h0), ?_⟩
  clear h0 e0 e1 e5 e6 e7
  intro N ρ m h
  unfold l2E at h
  obtain ⟨a_0a, a_0l, a_0c, e0, h⟩ := h.ex
  obtain ⟨b_1a, b_1l, b_1c, e1, h⟩ := h.ex
  obtain ⟨t_5a, t_5l, t_5c, e5, h⟩ := h.ex
  obtain ⟨i_6, e6, h⟩ := h.ex
  obtain ⟨j_7, e7, h⟩ := h.ex
  refine cpt_mono (P := P) (lP (bB (sR (bB (sL (sR (lP (bB (sR (sL (sR (sR (body))))))))))))) (Q := thenQ (l2E fun a_0a a_0l a_0c b_1a b_1l b_1c t_5a t_5l t_5c i_6 j_7 m => ∃ N1, N1 < N ∧ I N1 a_0a a_0l a_0c b_1a b_1l b_1c t_5a t_5l t_5c i_6 j_7 m) (l2Q K1 R)) (fun e ρ m h => ?_) ρ m ?_
  · cases e with
    | normal =>
      have h : l2E (fun a_0a a_0l a_0c b_1a b_1l b_1c t_5a t_5l t_5c i_6 j_7 m => ∃ N1, N1 < N ∧ I N1 a_0a a_0l a_0c b_1a b_1l b_1c t_5a t_5l t_5c i_6 j_7 m) ρ m := h
      unfold l2E at h
      obtain ⟨a_0a, a_0l, a_0c, e0, h⟩ := h.ex
      obtain ⟨b_1a, b_1l, b_1c, e1, h⟩ := h.ex
      obtain ⟨t_5a, t_5l, t_5c, e5, h⟩ := h.ex
      obtain ⟨i_6, e6, h⟩ := h.ex
      obtain ⟨j_7, e7, h⟩ := h.ex
      obtain ⟨N1, hlt, h⟩ := h
      exact ⟨N1, hlt, (by show l2E (I N1) ρ m; unfold l2E; rw [e0, e1, e5, e6, e7]; exact h)⟩
    | _ => exact h
  have hh := hs N a_0a a_0l a_0c b_1a b_1l b_1c t_5a t_5l t_5c i_6 j_7 m h
  generalize (fun a_0a a_0l a_0c b_1a b_1l b_1c t_5a t_5l t_5c i_6 j_7 m => ∃ N1, N1 < N ∧ I N1 a_0a a_0l a_0c b_1a b_1l b_1c t_5a t_5l t_5c i_6 j_7 m : Option Addr → Nat → Nat → Option Addr → Nat → Nat → Option Addr → Nat → Nat → Int → Int → Mem → Prop) = K2 at hh ⊢
  rw [← upd_self e0, ← upd_self e1, ← upd_self e5, ← upd_self e6, ← upd_self e7]
  rw [← l2_er K1 K2 R]
  refine acpt_sound (P := P) (l2A K1 K2 R) _ _ _ ⟨⟨True.intro, ⟨(fun ρ m h => l3_ok K1 K2 R ρ m h), True.intro⟩⟩, True.intro⟩ ?_
  exact Eq.mp (l2_eq K1 K2 R a_0a a_0l a_0c b_1a b_1l b_1c t_5a t_5l t_5c i_6 j_7 ρ m) hh
theorem l1_eq  (K1 : Option Addr → Nat → Nat → Option Addr → Nat → Nat → Option Addr → Nat → Nat → Int → Mem → Prop) (R : Ending → Mem → Prop) (a_0a : Option Addr) (a_0l : Nat) (a_0c : Nat) (b_1a : Option Addr) (b_1l : Nat) (b_1c : Nat) (t_5a : Option Addr) (t_5l : Nat) (t_5c : Nat) (i_6 : Int) (ρ : Env) (m : Mem) : l1B  K1 a_0a a_0l a_0c b_1a b_1l b_1c t_5a t_5l t_5c i_6 R m = acpt P od (panicR R) (l1A  K1 R) (thenQ (l1E K1) (l1Q  R)) (upd (upd (upd (upd ρ 6 (.int .i64 i_6)) 5 (.slice t_5a t_5l t_5c)) 1 (.slice b_1a b_1l b_1c)) 0 (.slice a_0a a_0l a_0c)) m := by kernel_rfl
theorem l1_er  (K1 : Option Addr → Nat → Nat → Option Addr → Nat → Nat → Option Addr → Nat → Nat → Int → Mem → Prop) (R : Ending → Mem → Prop) : (l1A  K1 R).erase = lP (bB (sR (sL (sR (sR (body)))))) := by kernel_rfl
theorem l1_ok  (R : Ending → Mem → Prop) (ρ : Env) (m : Mem) (h : (l1E fun a_0a a_0l a_0c b_1a b_1l b_1c t_5a t_5l t_5c i_6 m => l1  a_0a a_0l a_0c b_1a b_1l b_1c t_5a t_5l t_5c i_6 R m) ρ m) : cpt P od (panicR R) (.loop (lP (bB (sR (sL (sR (sR (body)))))))) (l1Q  R) ρ m := by
  unfold l1E at h
  obtain ⟨a_0a, a_0l, a_0c, e0, h⟩ := h.ex
  obtain ⟨b_1a, b_1l, b_1c, e1, h⟩ := h.ex
  obtain ⟨t_5a, t_5l, t_5c, e5, h⟩ := h.ex
  obtain ⟨i_6, e6, h⟩ := h.ex
  obtain ⟨I, N, h0, hs⟩ := h
  refine ⟨fun N => l1E (I N), N, (by show l1E (I N) ρ m; unfold l1E; rw [e0, e1, e5, e6]; exact h0), ?_⟩
  clear h0 e0 e1 e5 e6
  intro N ρ m h
  unfold l1E at h
  obtain ⟨a_0a, a_0l, a_0c, e0, h⟩ := h.ex
  obtain ⟨b_1a, b_1l, b_1c, e1, h⟩ := h.ex
  obtain ⟨t_5a, t_5l, t_5c, e5, h⟩ := h.ex
  obtain ⟨i_6, e6, h⟩ := h.ex
  refine cpt_mono (P := P) (lP (bB (sR (sL (sR (sR (body))))))) (Q := thenQ (l1E fun a_0a a_0l a_0c b_1a b_1l b_1c t_5a t_5l t_5c i_6 m => ∃ N1, N1 < N ∧ I N1 a_0a a_0l a_0c b_1a b_1l b_1c t_5a t_5l t_5c i_6 m) (l1Q  R)) (fun e ρ m h => ?_) ρ m ?_
  · cases e with
    | normal =>
      have h : l1E (fun a_0a a_0l a_0c b_1a b_1l b_1c t_5a t_5l t_5c i_6 m => ∃ N1, N1 < N ∧ I N1 a_0a a_0l a_0c b_1a b_1l b_1c t_5a t_5l t_5c i_6 m) ρ m := h
      unfold l1E at h
      obtain ⟨a_0a, a_0l, a_0c, e0, h⟩ := h.ex
      obtain ⟨b_1a, b_1l, b_1c, e1, h⟩ := h.ex
      obtain ⟨t_5a, t_5l, t_5c, e5, h⟩ := h.ex
      obtain ⟨i_6, e6, h⟩ := h.ex
      obtain ⟨N1, hlt, h⟩ := h
      exact ⟨N1, hlt, (by show l1E (I N1) ρ m; unfold l1E; rw [e0, e1, e5, e6]; exact h)⟩
    | _ => exact h
  have hh := hs N a_0a a_0l a_0c b_1a b_1l b_1c t_5a t_5l t_5c i_6 m h
  generalize (fun a_0a a_0l a_0c b_1a b_1l b_1c t_5a t_5l t_5c i_6 m => ∃ N1, N1 < N ∧ I N1 a_0a a_0l a_0c b_1a b_1l b_1c t_5a t_5l t_5c i_6 m : Option Addr → Nat → Nat → Option Addr → Nat → Nat → Option Addr → Nat → Nat → Int → Mem → Prop) = K1 at hh ⊢
  rw [← upd_self e0, ← upd_self e1, ← upd_self e5, ← upd_self e6]
  rw [← l1_er  K1 R]
  refine acpt_sound (P := P) (l1A  K1 R) _ _ _ ⟨⟨True.intro, ⟨(fun ρ m h => l2_ok K1 R ρ m h), True.intro⟩⟩, True.intro⟩ ?_
  exact Eq.mp (l1_eq  K1 R a_0a a_0l a_0c b_1a b_1l b_1c t_5a t_5l t_5c i_6 ρ m) hh
theorem e0_eq (a_0a : Option Addr) (a_0l : Nat) (a_0c : Nat) (b_1a : Option Addr) (b_1l : Nat) (b_1c : Nat) (R : Ending → Mem → Prop) (m : Mem) : e0 a_0a a_0l a_0c b_1a b_1l b_1c R m = acpt P od (panicR R) (e0A R) (bodyQ P fn R) (argE (#[.slice a_0a a_0l a_0c, .slice b_1a b_1l b_1c] : Array Value).toList) m := by kernel_rfl
theorem ok (a_0a : Option Addr) (a_0l : Nat) (a_0c : Nat) (b_1a : Option Addr) (b_1l : Nat) (b_1c : Nat) (R : Ending → Mem → Prop) (m : Mem) (h : e0 a_0a a_0l a_0c b_1a b_1l b_1c R m) : HC P id #[.slice a_0a a_0l a_0c, .slice b_1a b_1l b_1c] m R := by
  refine HC_of (fn := fn) (c := body) (od := od) (tb := tb) Go.Proofs.Tryd.func69 (by kernel_rfl) (by kernel_rfl) follows (by kernel_rfl) (of_decide_eq_true (by kernel_rfl)) ?_
  have he : (e0A R).erase = body := by kernel_rfl
  rw [← he]
  refine acpt_sound (P := P) (e0A R) _ _ _ ⟨⟨⟨True.intro, ⟨(fun ρ m h => l1_ok  R ρ m h), True.intro⟩⟩, True.intro⟩, True.intro⟩ ?_
  exact Eq.mp (e0_eq a_0a a_0l a_0c b_1a b_1l b_1c R m) h
end eyotref8_behind
/-! ### (*eyot/regex.reader).rep -/
namespace regex_reader_rep
noncomputable def fn : Func := Go.Proofs.Tryd.f70
noncomputable def body : Code := fn.body.getD .skip
def od : Nat → Ord := fun _ => .done
def tb : Nat → Tab := fun _ => (0, [], [])
def e0 (r_0 : Option Addr) (R : Ending → Mem → Prop) (m : Mem) : Prop :=
 NewC m #[.int .i64 0, .int .u64 0, .int .u64 0, .int .u64 0, .int .u64 0, .slice none 0 0] T_api_Rx fun b2 m1 =>
 HC P regex_reader_atom.id #[.pointer r_0] m1 (Cont (fun v m2 =>
   UnAgg v fun l =>
   UnCons l fun v l =>
   UnI v .i64 fun x6_0 =>
   UnCons l fun v l =>
   UnI v .u64 fun x6_1 =>
   UnCons l fun v l =>
   UnI v .u64 fun x6_2 =>
   UnCons l fun v l =>
   UnI v .u64 fun x6_3 =>
   UnCons l fun v l =>
   UnI v .u64 fun x6_4 =>
   UnCons l fun v l =>
   UnS v fun x6_5a x6_5l x6_5c =>
   UnNil l (
    NewC m2 #[.int .i64 0, .int .u64 0, .int .u64 0, .int .u64 0, .int .u64 0, .slice none 0 0] T_api_Rx fun b_x_3 m3 =>
    St1 m3 b_x_3 0 (.int .i64 x6_0) fun m4 =>
    St1 m4 b_x_3 1 (.int .u64 x6_1) fun m5 =>
    St1 m5 b_x_3 2 (.int .u64 x6_2) fun m6 =>
    St1 m6 b_x_3 3 (.int .u64 x6_3) fun m7 =>
    St1 m7 b_x_3 4 (.int .u64 x6_4) fun m8 =>
    St1 m8 b_x_3 5 (.slice x6_5a x6_5l x6_5c) fun m9 =>
    NilC r_0 (fun x8b x8o =>
     LdV m9 x8b x8o fun v =>
     UnStr v fun x10 =>
     Br ((x10.size : Int) == 0) (
      LdV m9 b_x_3 0 fun v =>
      UnI v .i64 fun x13_0 =>
      LdV m9 b_x_3 1 fun v =>
      UnI v .u64 fun x13_1 =>
      LdV m9 b_x_3 2 fun v =>
      UnI v .u64 fun x13_2 =>
      LdV m9 b_x_3 3 fun v =>
      UnI v .u64 fun x13_3 =>
      LdV m9 b_x_3 4 fun v =>
      UnI v .u64 fun x13_4 =>
      LdV m9 b_x_3 5 fun v =>
      UnS v fun x13_5a x13_5l x13_5c =>
      St1 m9 b2 0 (.int .i64 x13_0) fun m10 =>
      St1 m10 b2 1 (.int .u64 x13_1) fun m11 =>
      St1 m11 b2 2 (.int .u64 x13_2) fun m12 =>
      St1 m12 b2 3 (.int .u64 x13_3) fun m13 =>
      St1 m13 b2 4 (.int .u64 x13_4) fun m14 =>
      St1 m14 b2 5 (.slice x13_5a x13_5l x13_5c) fun m15 =>
      LdV m15 b2 0 fun v =>
      UnI v .i64 fun res0_0 =>
      LdV m15 b2 1 fun v =>
      UnI v .u64 fun res0_1 =>
      LdV m15 b2 2 fun v =>
      UnI v .u64 fun res0_2 =>
      LdV m15 b2 3 fun v =>
      UnI v .u64 fun res0_3 =>
      LdV m15 b2 4 fun v =>
      UnI v .u64 fun res0_4 =>
      LdV m15 b2 5 fun v =>
      UnS v fun res0_5a res0_5l res0_5c =>
      R (.returned (.agg #[.int .i64 res0_0, .int .u64 res0_1, .int .u64 res0_2, .int .u64 res0_3, .int .u64 res0_4, .slice res0_5a res0_5l res0_5c])) m15) (
      NilC r_0 (fun x15b x15o =>
       LdV m9 x15b x15o fun v =>
       UnStr v fun x17 =>
       IxB x17 0 fun x18 =>
       HC P strings_IndexByte.id #[.string (ByteArray.mk #[42, 43, 63]), .int .u8 x18] m9 (Cont (fun v m10 =>
        UnI v .i64 fun x19 =>
        Br (decide (x19 < 0)) (
        LdV m10 b_x_3 0 fun v =>
        UnI v .i64 fun x22_0 =>
        LdV m10 b_x_3 1 fun v =>
        UnI v .u64 fun x22_1 =>
        LdV m10 b_x_3 2 fun v =>
        UnI v .u64 fun x22_2 =>
        LdV m10 b_x_3 3 fun v =>
        UnI v .u64 fun x22_3 =>
        LdV m10 b_x_3 4 fun v =>
        UnI v .u64 fun x22_4 =>
        LdV m10 b_x_3 5 fun v =>
        UnS v fun x22_5a x22_5l x22_5c =>
        St1 m10 b2 0 (.int .i64 x22_0) fun m11 =>
        St1 m11 b2 1 (.int .u64 x22_1) fun m12 =>
        St1 m12 b2 2 (.int .u64 x22_2) fun m13 =>
        St1 m13 b2 3 (.int .u64 x22_3) fun m14 =>
        St1 m14 b2 4 (.int .u64 x22_4) fun m15 =>
        St1 m15 b2 5 (.slice x22_5a x22_5l x22_5c) fun m16 =>
        LdV m16 b2 0 fun v =>
        UnI v .i64 fun res0_0 =>
        LdV m16 b2 1 fun v =>
        UnI v .u64 fun res0_1 =>
        LdV m16 b2 2 fun v =>
        UnI v .u64 fun res0_2 =>
        LdV m16 b2 3 fun v =>
        UnI v .u64 fun res0_3 =>
        LdV m16 b2 4 fun v =>
        UnI v .u64 fun res0_4 =>
        LdV m16 b2 5 fun v =>
        UnS v fun res0_5a res0_5l res0_5c =>
        R (.returned (.agg #[.int .i64 res0_0, .int .u64 res0_1, .int .u64 res0_2, .int .u64 res0_3, .int .u64 res0_4, .slice res0_5a res0_5l res0_5c])) m16) (
        NilC r_0 (fun x25b x25o =>
        LdV m10 x25b x25o fun v =>
        UnStr v fun x27 =>
        SlB x27 1 (x27.size : Int) fun x28 =>
        NilC r_0 (fun x29b x29o =>
        St1 m10 x29b x29o (.string x28) fun m11 =>
        LdV m11 b_x_3 0 fun v =>
        UnI v .i64 fun x33_0 =>
        LdV m11 b_x_3 1 fun v =>
        UnI v .u64 fun x33_1 =>
        LdV m11 b_x_3 2 fun v =>
        UnI v .u64 fun x33_2 =>
        LdV m11 b_x_3 3 fun v =>
        UnI v .u64 fun x33_3 =>
        LdV m11 b_x_3 4 fun v =>
        UnI v .u64 fun x33_4 =>
        LdV m11 b_x_3 5 fun v =>
        UnS v fun x33_5a x33_5l x33_5c =>
        NewC m11 #[.int .i64 x33_0, .int .u64 x33_1, .int .u64 x33_2, .int .u64 x33_3, .int .u64 x33_4, .slice x33_5a x33_5l x33_5c] T_api_Rx fun b34 m12 =>
        St1 m12 b2 0 (.int .i64 (IntKind.i64.wrap (4 + x19))) fun m13 =>
        St1 m13 b2 1 (.int .u64 0) fun m14 =>
        St1 m14 b2 2 (.int .u64 0) fun m15 =>
        St1 m15 b2 3 (.int .u64 0) fun m16 =>
        St1 m16 b2 4 (.int .u64 0) fun m17 =>
        St1 m17 b2 5 (.slice (some ⟨b34, 0, none⟩) 1 1) fun m18 =>
        LdV m18 b2 0 fun v =>
        UnI v .i64 fun res0_0 =>
        LdV m18 b2 1 fun v =>
        UnI v .u64 fun res0_1 =>
        LdV m18 b2 2 fun v =>
        UnI v .u64 fun res0_2 =>
        LdV m18 b2 3 fun v =>
        UnI v .u64 fun res0_3 =>
        LdV m18 b2 4 fun v =>
        UnI v .u64 fun res0_4 =>
        LdV m18 b2 5 fun v =>
        UnS v fun res0_5a res0_5l res0_5c =>
        R (.returned (.agg #[.int .i64 res0_0, .int .u64 res0_1, .int .u64 res0_2, .int .u64 res0_3, .int .u64 res0_4, .slice res0_5a res0_5l res0_5c])) m18) (R (.panicked (nilPanic P)) m10)) (R (.panicked (nilPanic P)) m10))) (panicR R))) (R (.panicked (nilPanic P)) m9))) (R (.panicked (nilPanic P)) m9))) (panicR R))
noncomputable def e0A (R : Ending → Mem → Prop) : ACode := (.code (body))
theorem e0_eq (r_0 : Option Addr) (R : Ending → Mem → Prop) (m : Mem) : e0 r_0 R m = acpt P od (panicR R) (e0A R) (bodyQ P fn R) (argE (#[.pointer r_0] : Array Value).toList) m := by kernel_rfl
theorem ok (r_0 : Option Addr) (R : Ending → Mem → Prop) (m : Mem) (h : e0 r_0 R m) : HC P id #[.pointer r_0] m R := by
  refine HC_of (fn := fn) (c := body) (od := od) (tb := tb) Go.Proofs.Tryd.func70 (by kernel_rfl) (by kernel_rfl) follows (by kernel_rfl) (of_decide_eq_true (by kernel_rfl)) ?_
  have he : (e0A R).erase = body := by kernel_rfl
  rw [← he]
  refine acpt_sound (P := P) (e0A R) _ _ _ True.intro ?_
  exact Eq.mp (e0_eq r_0 R m) h
end regex_reader_rep
/-! ### eyot/class.with -/
namespace class_with
noncomputable def fn : Func := Go.Proofs.Tryd.f72
noncomputable def body : Code := fn.body.getD .skip
def od : Nat → Ord := fun | 4 => ordL [(0, 3), (1, 3), (2, 3), (3, 3), (4, 1), (5, 3), (6, 3), (7, 0), (8, 2), (9, 3), (10, 2)] .done | _ => .done
def tb : Nat → Tab := fun | 4 => (1280, [0, 0, 0, 4, 12, 0, 32, 96, 254, 511, 1023], [(0, 128, 12), (0, 4, 13), (0, 128, 14), (4, 8200, 15), (8, 16384, 16), (0, 128, 17), (32, 65552, 18), (64, 131072, 19), (146, 299008, 20), (511, 2056, 21), (1023, 1572864, 0)]) | _ => (0, [], [])
def l1E (K : Value → Nat → Nat → Nat → Nat → Nat → Nat → Int → Mem → Prop) : Env → Mem → Prop := fun ρ m => (fun f_2 => UnPA (ρ 3) fun a_3b a_3o => UnPA (ρ 4) fun b_4b b_4o => UnPA (ρ 6) fun x6b x6o => UnI (ρ 8) .i64 fun x8 => K f_2 a_3b a_3o b_4b b_4o x6b x6o x8 m) (ρ 2)
def l1B  (K1 : Value → Nat → Nat → Nat → Nat → Nat → Nat → Int → Mem → Prop) (f_2 : Value) (a_3b : Nat) (a_3o : Nat) (b_4b : Nat) (b_4o : Nat) (x6b : Nat) (x6o : Nat) (x8 : Int) (R : Ending → Mem → Prop) (m : Mem) : Prop :=
 Br (decide (x8 < 4)) (
  Sub m fun r1 =>
  0 ≤ (x8 : Int) ∧ (x8 : Int) < (4 : Nat) ∧ (
   LdV r1 a_3b (a_3o + (x8 : Int).toNat * 1) fun v =>
   UnI v .u64 fun x15 =>
   0 ≤ (x8 : Int) ∧ (x8 : Int) < (4 : Nat) ∧ (
    LdV m b_4b (b_4o + (x8 : Int).toNat * 1) fun v =>
    UnI v .u64 fun x18 =>
    CallV P f_2 #[.int .u64 x15, .int .u64 x18] m (Cont (fun v m2 =>
      UnI v .u64 fun x19 =>
      0 ≤ (x8 : Int) ∧ (x8 : Int) < (4 : Nat) ∧ (
       St1 m2 a_3b (a_3o + (x8 : Int).toNat * 1) (.int .u64 x19) fun m3 =>
       K1 f_2 a_3b a_3o b_4b b_4o x6b x6o (IntKind.i64.wrap (x8 + 1)) m3)) (panicR R))))) (
  LdV m a_3b a_3o fun v =>
  UnI v .u64 fun x22_0 =>
  LdV m a_3b (a_3o + 1) fun v =>
  UnI v .u64 fun x22_1 =>
  LdV m a_3b (a_3o + 2) fun v =>
  UnI v .u64 fun x22_2 =>
  LdV m a_3b (a_3o + 3) fun v =>
  UnI v .u64 fun x22_3 =>
  St1 m x6b x6o (.int .u64 x22_0) fun m1 =>
  St1 m1 x6b (x6o + 1) (.int .u64 x22_1) fun m2 =>
  St1 m2 x6b (x6o + 2) (.int .u64 x22_2) fun m3 =>
  St1 m3 x6b (x6o + 3) (.int .u64 x22_3) fun m4 =>
  LdV m4 x6b x6o fun v =>
  UnI v .u64 fun res0_0 =>
  LdV m4 x6b (x6o + 1) fun v =>
  UnI v .u64 fun res0_1 =>
  LdV m4 x6b (x6o + 2) fun v =>
  UnI v .u64 fun res0_2 =>
  LdV m4 x6b (x6o + 3) fun v =>
  UnI v .u64 fun res0_3 =>
  R (.returned (.agg #[.int .u64 res0_0, .int .u64 res0_1, .int .u64 res0_2, .int .u64 res0_3])) m4)
def l1  (f_2 : Value) (a_3b : Nat) (a_3o : Nat) (b_4b : Nat) (b_4o : Nat) (x6b : Nat) (x6o : Nat) (x8 : Int) (R : Ending → Mem → Prop) (m : Mem) : Prop :=
  ∃ (I : Nat → Value → Nat → Nat → Nat → Nat → Nat → Nat → Int → Mem → Prop) (N : Nat), I N f_2 a_3b a_3o b_4b b_4o x6b x6o x8 m ∧ ∀ N f_2 a_3b a_3o b_4b b_4o x6b x6o x8 m, I N f_2 a_3b a_3o b_4b b_4o x6b x6o x8 m → l1B  (fun f_2 a_3b a_3o b_4b b_4o x6b x6o x8 m => ∃ N1, N1 < N ∧ I N1 f_2 a_3b a_3o b_4b b_4o x6b x6o x8 m) f_2 a_3b a_3o b_4b b_4o x6b x6o x8 R m
noncomputable def l1A  (K1 : Value → Nat → Nat → Nat → Nat → Nat → Nat → Int → Mem → Prop) (R : Ending → Mem → Prop) : ACode := (.code (lP (bB (sR (sL (sR (body)))))))
def e0 (a_0_0 : Int) (a_0_1 : Int) (a_0_2 : Int) (a_0_3 : Int) (b_1_0 : Int) (b_1_1 : Int) (b_1_2 : Int) (b_1_3 : Int) (f_2 : Value) (R : Ending → Mem → Prop) (m : Mem) : Prop :=
 NewC m #[.int .u64 a_0_0, .int .u64 a_0_1, .int .u64 a_0_2, .int .u64 a_0_3] T_api_Set fun b_a_3 m1 =>
 NewC m1 #[.int .u64 b_1_0, .int .u64 b_1_1, .int .u64 b_1_2, .int .u64 b_1_3] T_api_Set fun b_4 m2 =>
 NewC m2 #[.int .u64 0, .int .u64 0, .int .u64 0, .int .u64 0] T_api_Set fun b6 m3 =>
 l1  f_2 b_a_3 0 b_4 0 b6 0 0 R m3
noncomputable def e0A (R : Ending → Mem → Prop) : ACode := (.seq (.code (sL (body))) (.seq (.seq (.code (sL (sL (sR (body))))) (.block 0 (.cut (l1E fun f_2 a_3b a_3o b_4b b_4o x6b x6o x8 m => l1  f_2 a_3b a_3o b_4b b_4o x6b x6o x8 R m) (.loop (lP (bB (sR (sL (sR (body)))))))))) (.code (sR (sR (body))))))
abbrev l1Q  (R : Ending → Mem → Prop) : Exit → Env → Mem → Prop := (blockQ 0 (thenQ (acpt P od (panicR R) (.code (sR (sR (body)))) (bodyQ P fn R)) (bodyQ P fn R)))
theorem l1_eq  (K1 : Value → Nat → Nat → Nat → Nat → Nat → Nat → Int → Mem → Prop) (R : Ending → Mem → Prop) (f_2 : Value) (a_3b : Nat) (a_3o : Nat) (b_4b : Nat) (b_4o : Nat) (x6b : Nat) (x6o : Nat) (x8 : Int) (ρ : Env) (m : Mem) : l1B  K1 f_2 a_3b a_3o b_4b b_4o x6b x6o x8 R m = acpt P od (panicR R) (l1A  K1 R) (thenQ (l1E K1) (l1Q  R)) (upd (upd (upd (upd (upd ρ 8 (.int .i64 x8)) 6 (.pointer (some ⟨x6b, x6o, none⟩))) 4 (.pointer (some ⟨b_4b, b_4o, none⟩))) 3 (.pointer (some ⟨a_3b, a_3o, none⟩))) 2 (f_2)) m := by kernel_rfl
theorem l1_er  (K1 : Value → Nat → Nat → Nat → Nat → Nat → Nat → Int → Mem → Prop) (R : Ending → Mem → Prop) : (l1A  K1 R).erase = lP (bB (sR (sL (sR (body))))) := by kernel_rfl
theorem l1_ok  (R : Ending → Mem → Prop) (ρ : Env) (m : Mem) (h : (l1E fun f_2 a_3b a_3o b_4b b_4o x6b x6o x8 m => l1  f_2 a_3b a_3o b_4b b_4o x6b x6o x8 R m) ρ m) : cpt P od (panicR R) (.loop (lP (bB (sR (sL (sR (body))))))) (l1Q  R) ρ m := by
  unfold l1E at h
  generalize e2 : ρ 2 = f_2 at h
  try dsimp only at h
  obtain ⟨a_3b, a_3o, e3, h⟩ := h.ex
  obtain ⟨b_4b, b_4o, e4, h⟩ := h.ex
  obtain ⟨x6b, x6o, e6, h⟩ := h.ex
  obtain ⟨x8, e8, h⟩ := h.ex
  obtain ⟨I, N, h0, hs⟩ := h
  refine ⟨fun N => l1E (I N), N, (by show l1E (I N) ρ m; unfold l1E; rw [e2, e3, e4, e6, e8]; exact h0), ?_⟩
  clear h0 e2 e3 e4 e6 e8
  intro N ρ m h
  unfold l1E at h
  generalize e2 : ρ 2 = f_2 at h
  try dsimp only at h
  obtain ⟨a_3b, a_3o, e3, h⟩ := h.ex
  obtain ⟨b_4b, b_4o, e4, h⟩ := h.ex
  obtain ⟨x6b, x6o, e6, h⟩ := h.ex
  obtain ⟨x8, e8, h⟩ := h.ex
  refine cpt_mono (P := P) (lP (bB (sR (sL (sR (body)))))) (Q := thenQ (l1E fun f_2 a_3b a_3o b_4b b_4o x6b x6o x8 m => ∃ N1, N1 < N ∧ I N1 f_2 a_3b a_3o b_4b b_4o x6b x6o x8 m) (l1Q  R)) (fun e ρ m h => ?_) ρ m ?_
  · cases e with
    | normal =>
      have h : l1E (fun f_2 a_3b a_3o b_4b b_4o x6b x6o x8 m => ∃ N1, N1 < N ∧ I N1 f_2 a_3b a_3o b_4b b_4o x6b x6o x8 m) ρ m := h
      unfold l1E at h
      generalize e2 : ρ 2 = f_2 at h
      try dsimp only at h
      obtain ⟨a_3b, a_3o, e3, h⟩ := h.ex
      obtain ⟨b_4b, b_4o, e4, h⟩ := h.ex
      obtain ⟨x6b, x6o, e6, h⟩ := h.ex
      obtain ⟨x8, e8, h⟩ := h.ex
      obtain ⟨N1, hlt, h⟩ := h
      exact ⟨N1, hlt, (by show l1E (I N1) ρ m; unfold l1E; rw [e2, e3, e4, e6, e8]; exact h)⟩
    | _ => exact h
  have hh := hs N f_2 a_3b a_3o b_4b b_4o x6b x6o x8 m h
  generalize (fun f_2 a_3b a_3o b_4b b_4o x6b x6o x8 m => ∃ N1, N1 < N ∧ I N1 f_2 a_3b a_3o b_4b b_4o x6b x6o x8 m : Value → Nat → Nat → Nat → Nat → Nat → Nat → Int → Mem → Prop) = K1 at hh ⊢
  rw [← upd_self e2, ← upd_self e3, ← upd_self e4, ← upd_self e6, ← upd_self e8]
  rw [← l1_er  K1 R]
  refine acpt_sound (P := P) (l1A  K1 R) _ _ _ True.intro ?_
  exact Eq.mp (l1_eq  K1 R f_2 a_3b a_3o b_4b b_4o x6b x6o x8 ρ m) hh
theorem e0_eq (a_0_0 : Int) (a_0_1 : Int) (a_0_2 : Int) (a_0_3 : Int) (b_1_0 : Int) (b_1_1 : Int) (b_1_2 : Int) (b_1_3 : Int) (f_2 : Value) (R : Ending → Mem → Prop) (m : Mem) : e0 a_0_0 a_0_1 a_0_2 a_0_3 b_1_0 b_1_1 b_1_2 b_1_3 f_2 R m = acpt P od (panicR R) (e0A R) (bodyQ P fn R) (argE (#[.agg #[.int .u64 a_0_0, .int .u64 a_0_1, .int .u64 a_0_2, .int .u64 a_0_3], .agg #[.int .u64 b_1_0, .int .u64 b_1_1, .int .u64 b_1_2, .int .u64 b_1_3], f_2] : Array Value).toList) m := by kernel_rfl
theorem ok (a_0_0 : Int) (a_0_1 : Int) (a_0_2 : Int) (a_0_3 : Int) (b_1_0 : Int) (b_1_1 : Int) (b_1_2 : Int) (b_1_3 : Int) (f_2 : Value) (R : Ending → Mem → Prop) (m : Mem) (h : e0 a_0_0 a_0_1 a_0_2 a_0_3 b_1_0 b_1_1 b_1_2 b_1_3 f_2 R m) : HC P id #[.agg #[.int .u64 a_0_0, .int .u64 a_0_1, .int .u64 a_0_2, .int .u64 a_0_3], .agg #[.int .u64 b_1_0, .int .u64 b_1_1, .int .u64 b_1_2, .int .u64 b_1_3], f_2] m R := by
  refine HC_of (fn := fn) (c := body) (od := od) (tb := tb) Go.Proofs.Tryd.func72 (by kernel_rfl) (by kernel_rfl) follows (by kernel_rfl) (of_decide_eq_true (by kernel_rfl)) ?_
  have he : (e0A R).erase = body := by kernel_rfl
  rw [← he]
  refine acpt_sound (P := P) (e0A R) _ _ _ ⟨⟨True.intro, ⟨(fun ρ m h => l1_ok  R ρ m h), True.intro⟩⟩, True.intro⟩ ?_
  exact Eq.mp (e0_eq a_0_0 a_0_1 a_0_2 a_0_3 b_1_0 b_1_1 b_1_2 b_1_3 f_2 R m) h
end class_with
/-! ### eyot/class.Not$1 -/
namespace class_Not_1
noncomputable def fn : Func := Go.Proofs.Tryd.f73
noncomputable def body : Code := fn.body.getD .skip
def od : Nat → Ord := fun _ => .done
def tb : Nat → Tab := fun _ => (0, [], [])
def e0 (x_0 : Int) (a1 : Int) (R : Ending → Mem → Prop) (m : Mem) : Prop :=
 R (.returned (.int .u64 (bitsV .xor .u64 18446744073709551615 x_0))) m
noncomputable def e0A (R : Ending → Mem → Prop) : ACode := (.code (body))
theorem e0_eq (x_0 : Int) (a1 : Int) (R : Ending → Mem → Prop) (m : Mem) : e0 x_0 a1 R m = acpt P od (panicR R) (e0A R) (bodyQ P fn R) (argE (#[.int .u64 x_0, .int .u64 a1] : Array Value).toList) m := by kernel_rfl
theorem ok (x_0 : Int) (a1 : Int) (R : Ending → Mem → Prop) (m : Mem) (h : e0 x_0 a1 R m) : HC P id #[.int .u64 x_0, .int .u64 a1] m R := by
  refine HC_of (fn := fn) (c := body) (od := od) (tb := tb) Go.Proofs.Tryd.func73 (by kernel_rfl) (by kernel_rfl) follows (by kernel_rfl) (of_decide_eq_true (by kernel_rfl)) ?_
  have he : (e0A R).erase = body := by kernel_rfl
  rw [← he]
  refine acpt_sound (P := P) (e0A R) _ _ _ True.intro ?_
  exact Eq.mp (e0_eq x_0 a1 R m) h
end class_Not_1
/-! ### strings.IndexByte -/
namespace strings_IndexByte
noncomputable def fn : Func := Go.Proofs.Tryd.f74
noncomputable def body : Code := fn.body.getD .skip
def od : Nat → Ord := fun _ => .done
def tb : Nat → Tab := fun _ => (0, [], [])
def e0 (s_0 : ByteArray) (c_1 : Int) (R : Ending → Mem → Prop) (m : Mem) : Prop :=
 HC P internal_stringslite_IndexByte.id #[.string s_0, .int .u8 c_1] m (Cont (fun v m1 =>
   UnI v .i64 fun x7 =>
   R (.returned (.int .i64 x7)) m1) (panicR R))
noncomputable def e0A (R : Ending → Mem → Prop) : ACode := (.code (body))
theorem e0_eq (s_0 : ByteArray) (c_1 : Int) (R : Ending → Mem → Prop) (m : Mem) : e0 s_0 c_1 R m = acpt P od (panicR R) (e0A R) (bodyQ P fn R) (argE (#[.string s_0, .int .u8 c_1] : Array Value).toList) m := by kernel_rfl
theorem ok (s_0 : ByteArray) (c_1 : Int) (R : Ending → Mem → Prop) (m : Mem) (h : e0 s_0 c_1 R m) : HC P id #[.string s_0, .int .u8 c_1] m R := by
  refine HC_of (fn := fn) (c := body) (od := od) (tb := tb) Go.Proofs.Tryd.func74 (by kernel_rfl) (by kernel_rfl) follows (by kernel_rfl) (of_decide_eq_true (by kernel_rfl)) ?_
  have he : (e0A R).erase = body := by kernel_rfl
  rw [← he]
  refine acpt_sound (P := P) (e0A R) _ _ _ True.intro ?_
  exact Eq.mp (e0_eq s_0 c_1 R m) h
end strings_IndexByte
end
end Go.E
